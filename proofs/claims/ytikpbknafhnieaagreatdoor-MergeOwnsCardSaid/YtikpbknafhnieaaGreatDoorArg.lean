/-
  WHAT IS PROVED HERE: an argument that reads as a list of blocks lies in memory as the contracts want it. No condition.
-/
import Derived.Test.YtikpbknafhnieaaGreatDoorProg
import Derived.Test.YtikpbknafhnieaaGreatDoorBlk
import Derived.ProofKit
import Derived.OpenShut
import Derived.ChangeSame
import Derived.Deep.Fields
namespace Go.Proofs.YtikpbknafhnieaaGreatDoor
open Go.ChangeShapes Go.WideShapes Go.RowKit Go.Deep Mg

theorem cell_add {w : World} {a : Addr} {k : Nat} {v : Value} (h : w.cell? (a.add k) = some v) : w.cell? ⟨a.block, a.off + k, none⟩ = some v := by
  by_cases hk : k = 0
  · subst hk
    have e : a.add 0 = a := by simp [Addr.add]
    rw [e] at h
    obtain ⟨b, o, s⟩ := a
    cases s with
    | none => exact h
    | some x =>
      unfold World.cell? at h
      simp at h
      split at h <;> simp at h
  · unfold Addr.add at h
    rwa [if_neg hk] at h
theorem cell_spot {w : World} {a : Addr} {v : Value} (h : w.cell? a = some v) : a = ⟨a.block, a.off, none⟩ := by
  obtain ⟨b, o, s⟩ := a
  cases s with
  | none => rfl
  | some x =>
    unfold World.cell? at h
    simp at h
    split at h <;> simp at h
theorem add_zero (a : Addr) : a.add 0 = a := by simp [Addr.add]
section
variable {H : Type} {enc : TypeId × Value → H} {P : Program} {w W : World} {base : Nat} {spare : Nat → Bool} {held : Bool}
/-- a slice's cells, element by element -/
theorem open_rows {t e : TypeId} {fuel n : Nat} {cs : List Value} {x : DataW H × List MemPlace} (ht : P.underlying t = some (.slice e)) (hC : P.cellsOf e = n) (hpos : 0 < n) (h : DataW.trod enc P w base spare held fuel t cs = some x) :
    cs = [.slice none 0 0] ∨
    ∃ (a : Addr) (len cap : Nat), cs = [.slice (some a) len cap] ∧ len ≤ cap ∧ cap ≤ maxLen ∧ (0 < len → a = ⟨a.block, a.off, none⟩) ∧
      ∀ i, i < len → ∃ (cs' : List Value) (y : DataW H × List MemPlace) (m : Nat), cs'.length = n ∧ DataW.trod enc P w base spare held m e cs' = some y ∧ ∀ j (hj : j < cs'.length), w.cell? ⟨a.block, a.off + i * n + j, none⟩ = some cs'[j] := by
  subst hC
  rcases DataW.trod_slice ht h with ⟨h0, _⟩ | ⟨a, len, cap, elems, rest, n, rfl, hcs, hx, _, hl, hm, hlen, hel, _, _⟩
  · exact .inl h0
  · refine .inr ⟨a, len, cap, hcs, hl, hm, fun h0 => ?_, fun i hi => ?_⟩
    · have h1 := hel 0 h0
      rw [List.getElem?_eq_getElem (by omega), Option.bind_eq_some_iff, Nat.zero_mul, add_zero] at h1
      obtain ⟨cs', hc, ht'⟩ := h1
      obtain ⟨_, hcl, hat⟩ := World.cells?_some hc
      have h2 := hat 0 hpos
      rw [List.getElem?_eq_getElem (by rw [hcl]; exact hpos), add_zero] at h2
      exact cell_spot h2
    have h1 := hel i hi
    rw [List.getElem?_eq_getElem (by omega)] at h1
    rw [Option.bind_eq_some_iff] at h1
    obtain ⟨cs', hc, ht'⟩ := h1
    obtain ⟨_, hcl, hat⟩ := World.cells?_some hc
    refine ⟨cs', _, n, hcl, ht', fun j hj => ?_⟩
    have h2 := hat j (by omega)
    rw [List.getElem?_eq_getElem hj, Go.Deep.add_add] at h2
    rw [Nat.add_assoc]
    exact cell_add h2
theorem int_arg {fuel : Nat} {v : Value} {x : DataW H × List MemPlace} (h : DataW.trod enc Tryz.prog w base spare held fuel 3 [v] = some x) : ∃ n : Int, v = .int .i64 n ∧ okI n := by
  obtain ⟨n, h1, _, h2⟩ := DataW.trod_int Tryz.underlying3 h
  injection h1 with h1 _
  refine ⟨n, h1, ?_⟩
  have e1 : IntKind.i64.min = -9223372036854775808 := by decide
  have e2 : IntKind.i64.max = 9223372036854775807 := by decide
  simp only [Lit.wf, e1, e2, Bool.and_eq_true, decide_eq_true_eq] at h2
  exact h2
theorem string_arg {fuel : Nat} {v : Value} {x : DataW H × List MemPlace} (h : DataW.trod enc Tryz.prog w base spare held fuel 9 [v] = some x) : ∃ s : ByteArray, v = .string s ∧ s.size ≤ maxLen := by
  obtain ⟨s, h1, _, h3⟩ := DataW.trod_string Tryz.underlying9 h
  injection h1 with h1 _
  exact ⟨s, h1, h3⟩
theorem each_ints {mem : Addr → Option Value} {b : Nat} : ∀ (n o : Nat), (∀ i, i < n → ∃ x : Int, mem ⟨b, o + i, none⟩ = some (.int .i64 x)) → ∃ l : List Int, l.length = n ∧ ∀ j (h : j < l.length), mem ⟨b, o + j, none⟩ = some (.int .i64 l[j])
  | 0, o, _ => ⟨[], rfl, fun j h => absurd h (by simp)⟩
  | n + 1, o, h => by
    obtain ⟨x, hx⟩ := h 0 (by omega)
    obtain ⟨l, h1, h2⟩ := each_ints n (o + 1) (fun i hi => by rw [show o + 1 + i = o + (i + 1) by omega]; exact h (i + 1) (by omega))
    refine ⟨x :: l, by simp [h1], fun j hj => ?_⟩
    cases j with
    | zero => exact hx
    | succ j => rw [show o + (j + 1) = o + 1 + j by omega]; exact h2 j (by simpa using hj)
theorem cells3 : Tryz.prog.cellsOf 3 = 1 := by kernel_rfl
theorem cells9 : Tryz.prog.cellsOf 9 = 1 := by kernel_rfl
theorem cells25 : Tryz.prog.cellsOf 25 = 1 := by kernel_rfl
theorem cells37 : Tryz.prog.cellsOf 37 = 4 := by kernel_rfl
theorem cells39 : Tryz.prog.cellsOf 39 = 9 := by kernel_rfl
theorem ints_arg {fuel : Nat} {v : Value} {x : DataW H × List MemPlace} (h : DataW.trod enc Tryz.prog w base spare held fuel 25 [v] = some x) : ∃ l : List Int, IntsM (fun a => w.cell? a) v l := by
  rcases open_rows Tryz.underlying25 cells3 (by omega) h with h0 | ⟨a, len, cap, hcs, hl, hm, hsp, hi⟩
  · injection h0 with h0 _
    subst h0
    exact ⟨[], IntsM.nil _⟩
  · injection hcs with hcs _
    subst hcs
    obtain ⟨l, h1, h2⟩ := each_ints (mem := fun a => w.cell? a) (b := a.block) len a.off (fun i hil => by
      obtain ⟨cs', y, m, hcl, ht, hc⟩ := hi i hil
      match cs', hcl with
      | [u], _ =>
        obtain ⟨n, rfl, _⟩ := int_arg ht
        have := hc 0 (by simp)
        exact ⟨n, by simpa using this⟩)
    subst h1
    exact ⟨l, a.block, a.off, ⟨Nat.le_trans hl hm, some a, cap, rfl, hl, hm, fun h0 => by rw [← hsp h0]⟩, h2⟩
theorem one37 : ∃ fs, Tryz.prog.underlying 37 = some (.struct fs) ∧ (fs.map (·.type)).toList = [3, 25, 3, 3] ∧ (fs.map (·.offset)).toList = [0, 1, 2, 3] :=
  ⟨_, Tryz.underlying37, by simp, by simp⟩
theorem one39 : ∃ fs, Tryz.prog.underlying 39 = some (.struct fs) ∧ (fs.map (·.type)).toList = [3, 3, 9, 3, 3, 37] ∧ (fs.map (·.offset)).toList = [0, 1, 2, 3, 4, 5] :=
  ⟨_, Tryz.underlying39, by simp, by simp⟩
theorem field_arg {t : TypeId} {fs : Array Field} {fuel : Nat} {cs : List Value} {x : DataW H × List MemPlace} (hu : P.underlying t = some (.struct fs)) (h : DataW.trod enc P w base spare held fuel t cs = some x) :
    ∃ m, ∀ (j : Nat) (t' : TypeId) (o : Nat), (fs.map (·.type)).toList[j]? = some t' → (fs.map (·.offset)).toList[j]? = some o → ∃ y : DataW H × List MemPlace, DataW.trod enc P w base spare held m t' ((cs.drop o).take (P.cellsOf t')) = some y := by
  obtain ⟨xs, n, _, _, _, hlen, hg⟩ := DataW.trod_struct hu h
  refine ⟨n, fun j t' o ht ho => ?_⟩
  rw [Array.getElem?_toList, Array.getElem?_map, Option.map_eq_some_iff] at ht ho
  obtain ⟨f, hj, rfl⟩ := ht
  obtain ⟨f', hj', rfl⟩ := ho
  obtain rfl := Option.some.inj (hj.symm.trans hj')
  have hjl : j < xs.length := by rw [hlen]; exact (Array.getElem?_eq_some_iff.1 hj).1
  exact ⟨xs[j], (hg j f hj).trans (List.getElem?_eq_getElem hjl)⟩
set_option maxRecDepth 100000 in
theorem blk_arg {fuel : Nat} {cs : List Value} {x : DataW H × List MemPlace} (hl : cs.length = 9) (h : DataW.trod enc Tryz.prog w base spare held fuel 39 cs = some x) {b o : Nat} (hc : ∀ j (hj : j < cs.length), w.cell? ⟨b, o + j, none⟩ = some cs[j]) :
    ∃ y : Blk, BlkAt (fun a => w.cell? a) y b o := by
  obtain ⟨fs, hu, hty, hof⟩ := one39
  obtain ⟨m, key⟩ := field_arg hu h
  rw [hty, hof] at key
  match cs, hl with
  | [c0, c1, c2, c3, c4, c5, c6, c7, c8], _ =>
    obtain ⟨y0, t0⟩ := key 0 3 0 rfl rfl
    obtain ⟨y1, t1⟩ := key 1 3 1 rfl rfl
    obtain ⟨y2, t2⟩ := key 2 9 2 rfl rfl
    obtain ⟨y3, t3⟩ := key 3 3 3 rfl rfl
    obtain ⟨y4, t4⟩ := key 4 3 4 rfl rfl
    obtain ⟨y5, t5⟩ := key 5 37 5 rfl rfl
    rw [cells3] at t0 t1 t3 t4
    rw [cells9] at t2
    rw [cells37] at t5
    obtain ⟨gs, hu', hty', hof'⟩ := one37
    obtain ⟨m', key'⟩ := field_arg hu' t5
    rw [hty', hof'] at key'
    obtain ⟨z0, s0⟩ := key' 0 3 0 rfl rfl
    obtain ⟨z1, s1⟩ := key' 1 25 1 rfl rfl
    obtain ⟨z2, s2⟩ := key' 2 3 2 rfl rfl
    obtain ⟨z3, s3⟩ := key' 3 3 3 rfl rfl
    rw [cells3] at s0 s2 s3
    rw [cells25] at s1
    obtain ⟨id, rfl, k0⟩ := int_arg (v := c0) t0
    obtain ⟨kind, rfl, k1⟩ := int_arg (v := c1) t1
    obtain ⟨text, rfl, k2⟩ := string_arg (v := c2) t2
    obtain ⟨story, rfl, _⟩ := int_arg (v := c3) t3
    obtain ⟨ref, rfl, _⟩ := int_arg (v := c4) t4
    obtain ⟨till, rfl, _⟩ := int_arg (v := c5) s0
    obtain ⟨after, ka⟩ := ints_arg (v := c6) s1
    obtain ⟨appr, rfl, _⟩ := int_arg (v := c7) s2
    obtain ⟨den, rfl, _⟩ := int_arg (v := c8) s3
    exact ⟨⟨id, kind, text, story, ref, ⟨till, after, appr, den⟩⟩, ⟨hc 0 (by simp), hc 1 (by simp), hc 2 (by simp), hc 3 (by simp), hc 4 (by simp)⟩, ⟨hc 5 (by simp), hc 7 (by simp), hc 8 (by simp)⟩, ⟨k2, k1, k0⟩, c6, hc 6 (by simp), ka⟩
theorem each_blks {mem : Addr → Option Value} {b : Nat} : ∀ (n o : Nat), (∀ i, i < n → ∃ y : Blk, BlkAt mem y b (o + i * 9)) → ∃ l : List Blk, l.length = n ∧ BlksAt mem l b o
  | 0, o, _ => ⟨[], rfl, fun j h => absurd h (by simp)⟩
  | n + 1, o, h => by
    obtain ⟨x, hx⟩ := h 0 (by omega)
    obtain ⟨l, h1, h2⟩ := each_blks n (o + 9) (fun i hi => by rw [show o + 9 + i * 9 = o + (i + 1) * 9 by omega]; exact h (i + 1) (by omega))
    refine ⟨x :: l, by simp [h1], fun j hj => ?_⟩
    cases j with
    | zero => exact hx
    | succ j => rw [show o + (j + 1) * 9 = o + 9 + j * 9 by omega]; exact h2 j (by simpa using hj)
theorem blks_arg {fuel : Nat} {v : Value} {x : DataW H × List MemPlace} (h : DataW.trod enc Tryz.prog w base spare held fuel 22 [v] = some x) : ∃ l : List Blk, BlksM (fun a => w.cell? a) v l := by
  rcases open_rows Tryz.underlying22 cells39 (by omega) h with h0 | ⟨a, len, cap, hcs, hl, hm, hsp, hi⟩
  · injection h0 with h0 _
    subst h0
    exact ⟨[], BlksM.nil _⟩
  · injection hcs with hcs _
    subst hcs
    obtain ⟨l, h1, h2⟩ := each_blks (mem := fun a => w.cell? a) (b := a.block) len a.off (fun i hil => by
      obtain ⟨cs', y, m, hcl, ht, hc⟩ := hi i hil
      exact blk_arg hcl ht hc)
    subst h1
    exact ⟨l, a.block, a.off, ⟨Nat.le_trans hl hm, some a, cap, rfl, hl, hm, fun h0 => by rw [← hsp h0]⟩, h2⟩
set_option maxRecDepth 100000 in
theorem blks_in {b0 : Nat} {v : Value} {d : DataW H} {p : List MemPlace} (hv : Value.okWide Tryz.prog W .any b0 22 v) (h : DataW.Trod enc Tryz.prog W 0 (fun _ => true) true 22 v d p) : ∃ l : List Blk, BlksM (fun a => W.cell? a) v l := by
  obtain ⟨a, len, cap, rfl⟩ := okWide_slice Tryz.underlying22 hv
  obtain ⟨fuel, h⟩ := h
  exact blks_arg h
end
end Go.Proofs.YtikpbknafhnieaaGreatDoor

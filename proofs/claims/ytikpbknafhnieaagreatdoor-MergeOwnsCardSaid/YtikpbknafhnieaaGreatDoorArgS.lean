/-
  WHAT IS PROVED HERE: an argument that reads as a list of blocks lies in memory as the contracts want it, each list of stories no longer than the reading's reach. No condition.
-/
import Derived.Test.YtikpbknafhnieaaGreatDoorArg
import Derived.SizedLaws
namespace Go.Proofs.YtikpbknafhnieaaGreatDoor
open Go.ChangeShapes Go.WideShapes Go.RowKit Go.Deep Mg

section
variable {H : Type} {enc : TypeId × Value → H} {P : Program} {w W : World} {base : Nat} {spare : Nat → Bool} {held : Bool}
/-- what a reading weighs, each part within the reach -/
def Sized (P : Program) (t : TypeId) (d : DataW H) : Prop := ∀ n ∈ d.weights P t, n ≤ reachBytes
theorem sized_each {ts : List TypeId} {ds : List (DataW H)} (h : (DataW.weightsEach P ts ds).all (· ≤ reachBytes) = true) {j : Nat} {t : TypeId} {d : DataW H} (ht : ts[j]? = some t) (hd : ds[j]? = some d) : Sized P t d := fun n hn => by
  simpa using List.all_eq_true.1 h _ (DataW.weights_mem_each ht hd n hn)
theorem weights_all {e : TypeId} : ∀ {l : List (DataW H)} {d : DataW H} {n : Nat}, d ∈ l → n ∈ d.weights P e → n ∈ DataW.weightsAll P e l
  | [], _, _, h, _ => by cases h
  | x :: l, d, n, h, hn => by
    simp only [DataW.weightsAll, List.mem_append]
    rcases List.mem_cons.1 h with rfl | h
    · exact .inl hn
    · exact .inr (weights_all h hn)
theorem sized_elems {t e : TypeId} (ht : P.underlying t = some (.slice e)) {elems rest : List (DataW H)} (h : Sized P t (.slice elems rest)) : elems.length * P.bytesOf e ≤ reachBytes ∧ ∀ d ∈ elems, Sized P e d := by
  refine ⟨?_, fun d hd n hn => h n ?_⟩
  · have := h ((elems.length + rest.length) * P.bytesOf e) (by simp [DataW.weights, ht])
    exact Nat.le_trans (Nat.mul_le_mul_right _ (by omega)) this
  · simp only [DataW.weights, ht, List.mem_cons, List.mem_append]
    exact .inr (.inl (weights_all hd hn))
theorem sized_fields {t : TypeId} {fs : Array Field} (hu : P.underlying t = some (.struct fs)) {parts : List (DataW H)} (h : Sized P t (.agg parts)) {j : Nat} {t' : TypeId} {d : DataW H} (ht : (fs.toList.map (·.type))[j]? = some t') (hd : parts[j]? = some d) : Sized P t' d := fun n hn => h n (by
  simp only [DataW.weights, hu]
  exact DataW.weights_mem_each ht hd n hn)
theorem open_rowsS {t e : TypeId} {fuel n : Nat} {cs : List Value} {x : DataW H × List MemPlace} (ht : P.underlying t = some (.slice e)) (hC : P.cellsOf e = n) (hpos : 0 < n) (h : DataW.trod enc P w base spare held fuel t cs = some x) (hz : Sized P t x.1) :
    cs = [.slice none 0 0] ∨
    ∃ (a : Addr) (len cap : Nat), cs = [.slice (some a) len cap] ∧ len ≤ cap ∧ cap ≤ maxLen ∧ len * P.bytesOf e ≤ reachBytes ∧ (0 < len → a = ⟨a.block, a.off, none⟩) ∧
      ∀ i, i < len → ∃ (cs' : List Value) (y : DataW H × List MemPlace) (m : Nat), cs'.length = n ∧ DataW.trod enc P w base spare held m e cs' = some y ∧ Sized P e y.1 ∧ ∀ j (hj : j < cs'.length), w.cell? ⟨a.block, a.off + i * n + j, none⟩ = some cs'[j] := by
  subst hC
  rcases DataW.trod_slice ht h with ⟨h0, _⟩ | ⟨a, len, cap, elems, rest, n, rfl, hcs, hx, _, hl, hm, hlen, hel, _, _⟩
  · exact .inl h0
  · rw [hx] at hz
    obtain ⟨hz1, hz2⟩ := sized_elems ht hz
    rw [List.length_map, hlen] at hz1
    refine .inr ⟨a, len, cap, hcs, hl, hm, hz1, fun h0 => ?_, fun i hi => ?_⟩
    · have h1 := hel 0 h0
      rw [List.getElem?_eq_getElem (by omega), Option.bind_eq_some_iff, Nat.zero_mul, add_zero] at h1
      obtain ⟨cs', hc, ht'⟩ := h1
      obtain ⟨_, hcl, hat⟩ := World.cells?_some hc
      have h2 := hat 0 hpos
      rw [List.getElem?_eq_getElem (by rw [hcl]; exact hpos), add_zero] at h2
      exact cell_spot h2
    have h1 := hel i hi
    rw [List.getElem?_eq_getElem (by omega)] at h1
    rw [Option.bind_eq_some_iff] at h1
    obtain ⟨cs', hc, ht'⟩ := h1
    obtain ⟨_, hcl, hat⟩ := World.cells?_some hc
    refine ⟨cs', _, n, hcl, ht', hz2 _ (List.mem_map.2 ⟨_, List.getElem_mem (by omega), rfl⟩), fun j hj => ?_⟩
    have h2 := hat j (by omega)
    rw [List.getElem?_eq_getElem hj, Go.Deep.add_add] at h2
    rw [Nat.add_assoc]
    exact cell_add h2
theorem bytes3 : Tryz.prog.bytesOf 3 = 8 := by kernel_rfl
theorem ints_argS {fuel : Nat} {v : Value} {x : DataW H × List MemPlace} (h : DataW.trod enc Tryz.prog w base spare held fuel 25 [v] = some x) (hz : Sized Tryz.prog 25 x.1) : ∃ l : List Int, IntsM (fun a => w.cell? a) v l ∧ l.length * 8 ≤ 140737488351232 := by
  rcases open_rowsS Tryz.underlying25 cells3 (by omega) h hz with h0 | ⟨a, len, cap, hcs, hl, hm, hb, hsp, hi⟩
  · injection h0 with h0 _
    subst h0
    exact ⟨[], IntsM.nil _, by simp⟩
  · injection hcs with hcs _
    subst hcs
    obtain ⟨l, h1, h2⟩ := each_ints (mem := fun a => w.cell? a) (b := a.block) len a.off (fun i hil => by
      obtain ⟨cs', y, m, hcl, ht, _, hc⟩ := hi i hil
      match cs', hcl with
      | [u], _ =>
        obtain ⟨n, rfl, _⟩ := int_arg ht
        have := hc 0 (by simp)
        exact ⟨n, by simpa using this⟩)
    subst h1
    rw [bytes3] at hb
    exact ⟨l, ⟨a.block, a.off, ⟨Nat.le_trans hl hm, some a, cap, rfl, hl, hm, fun h0 => by rw [← hsp h0]⟩, h2⟩, hb⟩
theorem field_argS {t : TypeId} {fs : Array Field} {fuel : Nat} {cs : List Value} {x : DataW H × List MemPlace} (hu : P.underlying t = some (.struct fs)) (h : DataW.trod enc P w base spare held fuel t cs = some x) (hz : Sized P t x.1) :
    ∃ m, ∀ (j : Nat) (t' : TypeId) (o : Nat), (fs.map (·.type)).toList[j]? = some t' → (fs.map (·.offset)).toList[j]? = some o → ∃ y : DataW H × List MemPlace, DataW.trod enc P w base spare held m t' ((cs.drop o).take (P.cellsOf t')) = some y ∧ Sized P t' y.1 := by
  obtain ⟨xs, n, _, hx, _, hlen, hg⟩ := DataW.trod_struct hu h
  rw [hx] at hz
  refine ⟨n, fun j t' o ht ho => ?_⟩
  have htt : (fs.toList.map (·.type))[j]? = some t' := by rw [← ht]; simp
  rw [Array.getElem?_toList, Array.getElem?_map, Option.map_eq_some_iff] at ht ho
  obtain ⟨f, hj, rfl⟩ := ht
  obtain ⟨f', hj', rfl⟩ := ho
  obtain rfl := Option.some.inj (hj.symm.trans hj')
  have hjl : j < xs.length := by rw [hlen]; exact (Array.getElem?_eq_some_iff.1 hj).1
  exact ⟨xs[j], (hg j f hj).trans (List.getElem?_eq_getElem hjl), sized_fields hu hz htt (by rw [List.getElem?_map, List.getElem?_eq_getElem hjl]; rfl)⟩
set_option maxRecDepth 100000 in
theorem blk_argS {fuel : Nat} {cs : List Value} {x : DataW H × List MemPlace} (hl : cs.length = 9) (h : DataW.trod enc Tryz.prog w base spare held fuel 39 cs = some x) (hz : Sized Tryz.prog 39 x.1) {b o : Nat} (hc : ∀ j (hj : j < cs.length), w.cell? ⟨b, o + j, none⟩ = some cs[j]) :
    ∃ y : Blk, BlkAt (fun a => w.cell? a) y b o ∧ y.lab.after.length * 8 ≤ 140737488351232 := by
  obtain ⟨fs, hu, hty, hof⟩ := one39
  obtain ⟨m, key⟩ := field_argS hu h hz
  rw [hty, hof] at key
  match cs, hl with
  | [c0, c1, c2, c3, c4, c5, c6, c7, c8], _ =>
    obtain ⟨y0, t0, _⟩ := key 0 3 0 rfl rfl
    obtain ⟨y1, t1, _⟩ := key 1 3 1 rfl rfl
    obtain ⟨y2, t2, _⟩ := key 2 9 2 rfl rfl
    obtain ⟨y3, t3, _⟩ := key 3 3 3 rfl rfl
    obtain ⟨y4, t4, _⟩ := key 4 3 4 rfl rfl
    obtain ⟨y5, t5, zz⟩ := key 5 37 5 rfl rfl
    rw [cells3] at t0 t1 t3 t4
    rw [cells9] at t2
    rw [cells37] at t5
    obtain ⟨gs, hu', hty', hof'⟩ := one37
    obtain ⟨m', key'⟩ := field_argS hu' t5 zz
    rw [hty', hof'] at key'
    obtain ⟨z0, s0, _⟩ := key' 0 3 0 rfl rfl
    obtain ⟨z1, s1, zi⟩ := key' 1 25 1 rfl rfl
    obtain ⟨z2, s2, _⟩ := key' 2 3 2 rfl rfl
    obtain ⟨z3, s3, _⟩ := key' 3 3 3 rfl rfl
    rw [cells3] at s0 s2 s3
    rw [cells25] at s1
    obtain ⟨id, rfl, k0⟩ := int_arg (v := c0) t0
    obtain ⟨kind, rfl, k1⟩ := int_arg (v := c1) t1
    obtain ⟨text, rfl, k2⟩ := string_arg (v := c2) t2
    obtain ⟨story, rfl, _⟩ := int_arg (v := c3) t3
    obtain ⟨ref, rfl, _⟩ := int_arg (v := c4) t4
    obtain ⟨till, rfl, _⟩ := int_arg (v := c5) s0
    obtain ⟨after, ka, kz⟩ := ints_argS (v := c6) s1 zi
    obtain ⟨appr, rfl, _⟩ := int_arg (v := c7) s2
    obtain ⟨den, rfl, _⟩ := int_arg (v := c8) s3
    exact ⟨⟨id, kind, text, story, ref, ⟨till, after, appr, den⟩⟩, ⟨⟨hc 0 (by simp), hc 1 (by simp), hc 2 (by simp), hc 3 (by simp), hc 4 (by simp)⟩, ⟨hc 5 (by simp), hc 7 (by simp), hc 8 (by simp)⟩, ⟨k2, k1, k0⟩, c6, hc 6 (by simp), ka⟩, kz⟩
theorem each_blksS {mem : Addr → Option Value} {b : Nat} {p : Blk → Prop} : ∀ (n o : Nat), (∀ i, i < n → ∃ y : Blk, BlkAt mem y b (o + i * 9) ∧ p y) → ∃ l : List Blk, l.length = n ∧ BlksAt mem l b o ∧ ∀ x ∈ l, p x
  | 0, o, _ => ⟨[], rfl, fun j h => absurd h (by simp), fun x h => by cases h⟩
  | n + 1, o, h => by
    obtain ⟨x, hx, px⟩ := h 0 (by omega)
    obtain ⟨l, h1, h2, h3⟩ := each_blksS n (o + 9) (fun i hi => by rw [show o + 9 + i * 9 = o + (i + 1) * 9 by omega]; exact h (i + 1) (by omega))
    refine ⟨x :: l, by simp [h1], fun j hj => ?_, fun y hy => ?_⟩
    · cases j with
      | zero => exact hx
      | succ j => rw [show o + (j + 1) * 9 = o + 9 + j * 9 by omega]; exact h2 j (by simpa using hj)
    · rcases List.mem_cons.1 hy with rfl | hy
      · exact px
      · exact h3 y hy
theorem blks_argS {fuel : Nat} {v : Value} {x : DataW H × List MemPlace} (h : DataW.trod enc Tryz.prog w base spare held fuel 22 [v] = some x) (hz : Sized Tryz.prog 22 x.1) : ∃ l : List Blk, BlksM (fun a => w.cell? a) v l ∧ ∀ x ∈ l, x.lab.after.length * 8 ≤ 140737488351232 := by
  rcases open_rowsS Tryz.underlying22 cells39 (by omega) h hz with h0 | ⟨a, len, cap, hcs, hl, hm, _, hsp, hi⟩
  · injection h0 with h0 _
    subst h0
    exact ⟨[], BlksM.nil _, fun x h => by cases h⟩
  · injection hcs with hcs _
    subst hcs
    obtain ⟨l, h1, h2, h3⟩ := each_blksS (mem := fun a => w.cell? a) (b := a.block) (p := fun x => x.lab.after.length * 8 ≤ 140737488351232) len a.off (fun i hil => by
      obtain ⟨cs', y, m, hcl, ht, hy, hc⟩ := hi i hil
      exact blk_argS hcl ht hy hc)
    subst h1
    exact ⟨l, ⟨a.block, a.off, ⟨Nat.le_trans hl hm, some a, cap, rfl, hl, hm, fun h0 => by rw [← hsp h0]⟩, h2⟩, h3⟩
set_option maxRecDepth 100000 in
theorem blks_inS {b0 : Nat} {v : Value} {d : DataW H} {p : List MemPlace} (hv : Value.okWide Tryz.prog W .any b0 22 v) (h : DataW.Trod enc Tryz.prog W 0 (fun _ => true) true 22 v d p) (hz : Sized Tryz.prog 22 d) : ∃ l : List Blk, BlksM (fun a => W.cell? a) v l ∧ ∀ x ∈ l, x.lab.after.length * 8 ≤ 140737488351232 := by
  obtain ⟨a, len, cap, rfl⟩ := okWide_slice Tryz.underlying22 hv
  obtain ⟨fuel, h⟩ := h
  exact blks_argS h hz
end
end Go.Proofs.YtikpbknafhnieaaGreatDoor

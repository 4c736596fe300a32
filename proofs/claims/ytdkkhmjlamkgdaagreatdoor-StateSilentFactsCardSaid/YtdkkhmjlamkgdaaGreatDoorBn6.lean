/-
  WHAT IS PROVED HERE: 2 texts joined, each with its own head: what the walks of the program give. Conditions: each at its place.
-/
import Derived.Test.YtdkkhmjlamkgdaaGreatDoorBn5
import Derived.Test.YtdkkhmjlamkgdaaGreatDoorCards
import Derived.Test.YtdkkhmjlamkgdaaGreatDoorTie
import Derived.ProofKit
import Derived.OpenShut
import Derived.ChangeSame
import Derived.ChangeMaps5
import Derived.Carry
import Derived.Deep.DeepHandedRow
import Derived.Deep.Fields
/-
  WHAT IS PROVED HERE: an argument that reads as a list of facts, or as a block, lies in memory as the walks want it (printed by tools/argf.py). No condition.
-/
namespace Go.Proofs.YtdkkhmjlamkgdaaGreatDoor
open Go.ChangeShapes Go.WideShapes Go.RowKit Go.Deep Mg

section
variable {H : Type} {enc : TypeId × Value → H} {w W : World} {base : Nat} {spare : Nat → Bool} {held : Bool}
theorem cellsSS : Tryz.prog.cellsOf 30 = 1 := by kernel_rfl
theorem cellsBB : Tryz.prog.cellsOf 37 = 1 := by kernel_rfl
theorem cellsFF : Tryz.prog.cellsOf 50 = 23 := by kernel_rfl
theorem each_strs {mem : Addr → Option Value} {b : Nat} : ∀ (n o : Nat), (∀ i, i < n → ∃ x : ByteArray, mem ⟨b, o + i, none⟩ = some (.string x) ∧ x.size ≤ maxLen) → ∃ l : List ByteArray, l.length = n ∧ (∀ s ∈ l, s.size ≤ maxLen) ∧ ∀ j (h : j < l.length), mem ⟨b, o + j, none⟩ = some (.string l[j])
  | 0, o, _ => ⟨[], rfl, (fun s h => by cases h), fun j h => absurd h (by simp)⟩
  | n + 1, o, h => by
    obtain ⟨x, hx, hx2⟩ := h 0 (by omega)
    obtain ⟨l, h1, h3, h2⟩ := each_strs n (o + 1) (fun i hi => by rw [show o + 1 + i = o + (i + 1) by omega]; exact h (i + 1) (by omega))
    refine ⟨x :: l, by simp [h1], fun s hs => ?_, fun j hj => ?_⟩
    · rcases List.mem_cons.1 hs with rfl | hs
      · exact hx2
      · exact h3 s hs
    cases j with
    | zero => exact hx
    | succ j => rw [show o + (j + 1) = o + 1 + j by omega]; exact h2 j (by simpa using hj)
theorem strs_arg {fuel : Nat} {v : Value} {x : DataW H × List MemPlace} (h : DataW.trod enc Tryz.prog w base spare held fuel 30 [v] = some x) : ∃ l : List ByteArray, StrsM (fun a => w.cell? a) v l := by
  rcases open_rows Tryz.underlying30 cells9 (by omega) h with h0 | ⟨a, len, cap, hcs, hl, hm, hsp, hi⟩
  · injection h0 with h0 _
    subst h0
    exact ⟨[], StrsM.nil _⟩
  · injection hcs with hcs _
    subst hcs
    obtain ⟨l, h1, h3, h2⟩ := each_strs (mem := fun a => w.cell? a) (b := a.block) len a.off (fun i hil => by
      obtain ⟨cs', y, m, hcl, ht, hc⟩ := hi i hil
      match cs', hcl with
      | [u], _ =>
        obtain ⟨n, rfl, hn⟩ := string_arg ht
        have := hc 0 (by simp)
        exact ⟨n, by simpa using this, hn⟩)
    subst h1
    exact ⟨l, a.block, a.off, ⟨Nat.le_trans hl hm, some a, cap, rfl, hl, hm, fun h0 => by rw [← hsp h0]⟩, h3, h2⟩
theorem oneFF : ∃ fs, Tryz.prog.underlying 50 = some (.struct fs) ∧ (fs.map (·.type)).toList = [3, 3, 3, 3, 9, 3, 3, 9, 9, 30, 37, 48, 3, 3, 3, 9, 9, 3, 3, 3] ∧ (fs.map (·.offset)).toList = [0, 1, 2, 3, 4, 5, 6, 7, 8, 9, 10, 11, 15, 16, 17, 18, 19, 20, 21, 22] :=
  ⟨_, Tryz.underlying50, by simp, by simp⟩
set_option maxRecDepth 100000 in
set_option maxHeartbeats 1000000 in
theorem fct_arg {fuel : Nat} {cs : List Value} {x : DataW H × List MemPlace} (hl : cs.length = 23) (h : DataW.trod enc Tryz.prog w base spare held fuel 50 cs = some x) : ∃ e : FctE, e.ok (fun a => w.cell? a) ∧ e.cells.toList = cs := by
  obtain ⟨fs, hu, hty, hof⟩ := oneFF
  obtain ⟨m, key⟩ := field_arg hu h
  rw [hty, hof] at key
  match cs, hl with
  | [c0, c1, c2, c3, c4, c5, c6, c7, c8, c9, c10, c11, c12, c13, c14, c15, c16, c17, c18, c19, c20, c21, c22], _ =>
    obtain ⟨y0, t0⟩ := key 0 3 0 rfl rfl
    rw [cells3] at t0
    obtain ⟨y1, t1⟩ := key 1 3 1 rfl rfl
    rw [cells3] at t1
    obtain ⟨y2, t2⟩ := key 2 3 2 rfl rfl
    rw [cells3] at t2
    obtain ⟨y3, t3⟩ := key 3 3 3 rfl rfl
    rw [cells3] at t3
    obtain ⟨y4, t4⟩ := key 4 9 4 rfl rfl
    rw [cells9] at t4
    obtain ⟨y5, t5⟩ := key 5 3 5 rfl rfl
    rw [cells3] at t5
    obtain ⟨y6, t6⟩ := key 6 3 6 rfl rfl
    rw [cells3] at t6
    obtain ⟨y7, t7⟩ := key 7 9 7 rfl rfl
    rw [cells9] at t7
    obtain ⟨y8, t8⟩ := key 8 9 8 rfl rfl
    rw [cells9] at t8
    obtain ⟨y9, t9⟩ := key 9 30 9 rfl rfl
    rw [cellsSS] at t9
    obtain ⟨y10, t10⟩ := key 10 37 10 rfl rfl
    rw [cellsBB] at t10
    obtain ⟨y11, t11⟩ := key 11 48 11 rfl rfl
    rw [cells37] at t11
    obtain ⟨y12, t12⟩ := key 12 3 15 rfl rfl
    rw [cells3] at t12
    obtain ⟨y13, t13⟩ := key 13 3 16 rfl rfl
    rw [cells3] at t13
    obtain ⟨y14, t14⟩ := key 14 3 17 rfl rfl
    rw [cells3] at t14
    obtain ⟨y15, t15⟩ := key 15 9 18 rfl rfl
    rw [cells9] at t15
    obtain ⟨y16, t16⟩ := key 16 9 19 rfl rfl
    rw [cells9] at t16
    obtain ⟨y17, t17⟩ := key 17 3 20 rfl rfl
    rw [cells3] at t17
    obtain ⟨y18, t18⟩ := key 18 3 21 rfl rfl
    rw [cells3] at t18
    obtain ⟨y19, t19⟩ := key 19 3 22 rfl rfl
    rw [cells3] at t19
    obtain ⟨n, rfl, k0⟩ := int_arg (v := c0) t0
    obtain ⟨time, rfl, k1⟩ := int_arg (v := c1) t1
    obtain ⟨kind, rfl, k2⟩ := int_arg (v := c2) t2
    obtain ⟨story, rfl, k3⟩ := int_arg (v := c3) t3
    obtain ⟨lang, rfl, k4⟩ := string_arg (v := c4) t4
    obtain ⟨rev, rfl, k5⟩ := int_arg (v := c5) t5
    obtain ⟨base, rfl, k6⟩ := int_arg (v := c6) t6
    obtain ⟨title, rfl, k7⟩ := string_arg (v := c7) t7
    obtain ⟨author, rfl, k8⟩ := string_arg (v := c8) t8
    obtain ⟨topics, kt⟩ := strs_arg (v := c9) t9
    obtain ⟨blocks, kb⟩ := blks_arg (v := c10) t10
    obtain ⟨gs, hu', hty', hof'⟩ := one37
    obtain ⟨m', key'⟩ := field_arg hu' t11
    rw [hty', hof'] at key'
    obtain ⟨z0, s0⟩ := key' 0 3 0 rfl rfl
    obtain ⟨z1, s1⟩ := key' 1 46 1 rfl rfl
    obtain ⟨z2, s2⟩ := key' 2 3 2 rfl rfl
    obtain ⟨z3, s3⟩ := key' 3 3 3 rfl rfl
    rw [cells3] at s0 s2 s3
    rw [cells25] at s1
    obtain ⟨ltill, rfl, l0⟩ := int_arg (v := c11) s0
    obtain ⟨after, ka⟩ := ints_arg (v := c12) s1
    obtain ⟨appr, rfl, l2⟩ := int_arg (v := c13) s2
    obtain ⟨den, rfl, l3⟩ := int_arg (v := c14) s3
    obtain ⟨editor, rfl, k12⟩ := int_arg (v := c15) t12
    obtain ⟨block, rfl, k13⟩ := int_arg (v := c16) t13
    obtain ⟨sentence, rfl, k14⟩ := int_arg (v := c17) t14
    obtain ⟨text, rfl, k15⟩ := string_arg (v := c18) t15
    obtain ⟨name, rfl, k16⟩ := string_arg (v := c19) t16
    obtain ⟨partner, rfl, k17⟩ := int_arg (v := c20) t17
    obtain ⟨cls, rfl, k18⟩ := int_arg (v := c21) t18
    obtain ⟨till, rfl, k19⟩ := int_arg (v := c22) t19
    obtain ⟨ta, tc, rfl⟩ := kt.slice
    obtain ⟨ba, bc, rfl⟩ := kb.slice
    obtain ⟨aa, ac, rfl⟩ := ka.slice
    exact ⟨⟨⟨n, time, kind, story, lang, rev, base, title, author, topics, blocks, ⟨ltill, after, appr, den⟩, editor, block, sentence, text, name, partner, cls, till⟩, ta, tc, ba, bc, aa, ac⟩, ⟨⟨k0, k1, k2, k3, k4, k5, k6, k7, k8, l0, l2, l3, k12, k13, k14, k15, k16, k17, k18, k19, blks_ok kb⟩, kt, kb, ka⟩, rfl⟩
theorem each_fct {mem : Addr → Option Value} {b : Nat} : ∀ (n o : Nat), (∀ i, i < n → ∃ y : FctE, y.ok mem ∧ y.at mem b (o + i * 23)) → ∃ l : List FctE, l.length = n ∧ ∀ j (h : j < l.length), l[j].ok mem ∧ l[j].at mem b (o + j * 23)
  | 0, o, _ => ⟨[], rfl, fun j h => absurd h (by simp)⟩
  | n + 1, o, h => by
    obtain ⟨x, hx⟩ := h 0 (by omega)
    obtain ⟨l, h1, h2⟩ := each_fct n (o + 23) (fun i hi => by rw [show o + 23 + i * 23 = o + (i + 1) * 23 by omega]; exact h (i + 1) (by omega))
    refine ⟨x :: l, by simp [h1], fun j hj => ?_⟩
    cases j with
    | zero => exact hx
    | succ j => rw [show o + (j + 1) * 23 = o + 23 + j * 23 by omega]; exact h2 j (by simpa using hj)
set_option maxRecDepth 100000 in
theorem facts_in {b0 : Nat} {v : Value} {d : DataW H} {p : List MemPlace} (hv : Value.okWide Tryz.prog W .any b0 22 v) (h : DataW.Trod enc Tryz.prog W 0 (fun _ => true) true 22 v d p) : ∃ l : List FctE, EsM (fun a => W.cell? a) v l := by
  obtain ⟨a, len, cap, rfl⟩ := okWide_slice Tryz.underlying22 hv
  obtain ⟨fuel, h⟩ := h
  rcases open_rows Tryz.underlying22 cellsFF (by omega) h with h0 | ⟨a, len, cap, hcs, hl, hm, hsp, hi⟩
  · injection h0 with h0 _
    rw [h0]
    exact ⟨[], 0, 0, sliceNil, fun j hj => absurd hj (by simp)⟩
  · injection hcs with hcs _
    rw [hcs]
    obtain ⟨l, h1, h2⟩ := each_fct (mem := fun a => W.cell? a) (b := a.block) len a.off (fun i hil => by
      obtain ⟨cs', y, m, hcl, ht, hc⟩ := hi i hil
      obtain ⟨e, he, hec⟩ := fct_arg hcl ht
      refine ⟨e, he, fun j u hj => ?_⟩
      subst hec
      have hj2 := (Array.getElem?_eq_some_iff.1 hj).1
      have := hc j (by rw [Array.length_toList]; exact hj2)
      rw [Array.getElem?_eq_getElem hj2] at hj
      rw [Array.getElem_toList] at this
      exact this.trans hj)
    subst h1
    exact ⟨l, a.block, a.off, ⟨Nat.le_trans hl hm, some a, cap, rfl, hl, hm, fun h0 => by rw [← hsp h0]⟩, h2⟩
theorem okI_lit {n : Int} (h : (Lit.int .i64 n).wf = true) : okI n := by
  have e1 : IntKind.i64.min = -9223372036854775808 := by decide
  have e2 : IntKind.i64.max = 9223372036854775807 := by decide
  simp only [Lit.wf, e1, e2, Bool.and_eq_true, decide_eq_true_eq] at h
  exact h
set_option maxRecDepth 100000 in
theorem int_in {b0 : Nat} {v : Value} {d : DataW H} {p : List MemPlace} (hv : Value.okWide Tryz.prog W .any b0 3 v) (h : DataW.Trod enc Tryz.prog W 0 (fun _ => true) true 3 v d p) : ∃ a : Int, v = .int .i64 a ∧ okI a := by
  obtain ⟨n, rfl⟩ := okWide_int Tryz.underlying3 hv
  obtain ⟨fuel, h⟩ := h
  obtain ⟨m, e, hm⟩ := int_arg (v := .int .i64 n) h
  exact ⟨m, e, hm⟩
set_option maxRecDepth 100000 in
theorem fact_in {b0 : Nat} {v : Value} {d : DataW H} {p : List MemPlace} (hv : Value.okWide Tryz.prog W .any b0 50 v) (h : DataW.Trod enc Tryz.prog W 0 (fun _ => true) true 50 v d p) : ∃ e : FctE, v = .agg e.cells ∧ e.ok (fun a => W.cell? a) := by
  obtain ⟨fs, hu, _, _⟩ := oneFF
  obtain ⟨cs, rfl, hcs⟩ := okWide_struct hu hv
  rw [cellsFF] at hcs
  obtain ⟨fuel, h⟩ := h
  obtain ⟨e, he, hec⟩ := fct_arg (cs := cs.toList) (by rw [Array.length_toList]; exact hcs) h
  exact ⟨e, by rw [Array.toList_inj.1 hec], he⟩
set_option maxRecDepth 100000 in
theorem block_in {b0 : Nat} {v : Value} {d : DataW H} {p : List MemPlace} (hv : Value.okWide Tryz.prog W .any b0 58 v) (h : DataW.Trod enc Tryz.prog W 0 (fun _ => true) true 58 v d p) : ∃ x : Blk, BlkV (fun a => W.cell? a) v x := by
  obtain ⟨fs, hu, hty, hof⟩ := one39
  obtain ⟨cs, rfl, hcs⟩ := okWide_struct hu hv
  rw [cells39] at hcs
  obtain ⟨fuel, h⟩ := h
  obtain ⟨m, key⟩ := field_arg hu h
  rw [hty, hof] at key
  obtain ⟨l⟩ := cs
  have hl : l.length = 9 := hcs
  match l, hl with
  | [c0, c1, c2, c3, c4, c5, c6, c7, c8], _ =>
    obtain ⟨y0, t0⟩ := key 0 3 0 rfl rfl
    obtain ⟨y1, t1⟩ := key 1 3 1 rfl rfl
    obtain ⟨y2, t2⟩ := key 2 9 2 rfl rfl
    obtain ⟨y3, t3⟩ := key 3 3 3 rfl rfl
    obtain ⟨y4, t4⟩ := key 4 3 4 rfl rfl
    obtain ⟨y5, t5⟩ := key 5 48 5 rfl rfl
    rw [cells3] at t0 t1 t3 t4
    rw [cells9] at t2
    rw [cells37] at t5
    obtain ⟨gs, hu', hty', hof'⟩ := one37
    obtain ⟨m', key'⟩ := field_arg hu' t5
    rw [hty', hof'] at key'
    obtain ⟨z0, s0⟩ := key' 0 3 0 rfl rfl
    obtain ⟨z1, s1⟩ := key' 1 46 1 rfl rfl
    obtain ⟨z2, s2⟩ := key' 2 3 2 rfl rfl
    obtain ⟨z3, s3⟩ := key' 3 3 3 rfl rfl
    rw [cells3] at s0 s2 s3
    rw [cells25] at s1
    obtain ⟨id, rfl, k0⟩ := int_arg (v := c0) t0
    obtain ⟨kind, rfl, k1⟩ := int_arg (v := c1) t1
    obtain ⟨text, rfl, k2⟩ := string_arg (v := c2) t2
    obtain ⟨story, rfl, _⟩ := int_arg (v := c3) t3
    obtain ⟨ref, rfl, _⟩ := int_arg (v := c4) t4
    obtain ⟨till, rfl, _⟩ := int_arg (v := c5) s0
    obtain ⟨after, ka⟩ := ints_arg (v := c6) s1
    obtain ⟨appr, rfl, _⟩ := int_arg (v := c7) s2
    obtain ⟨den, rfl, _⟩ := int_arg (v := c8) s3
    obtain ⟨aa, ac, rfl⟩ := ka.slice
    exact ⟨⟨id, kind, text, story, ref, ⟨till, after, appr, den⟩⟩, aa, ac, rfl, ka, k2, k1, k0⟩
set_option maxRecDepth 100000 in
theorem string_in {b0 : Nat} {v : Value} {d : DataW H} {p : List MemPlace} (hv : Value.okWide Tryz.prog W .any b0 9 v) (h : DataW.Trod enc Tryz.prog W 0 (fun _ => true) true 9 v d p) : ∃ s : ByteArray, v = .string s ∧ s.size ≤ maxLen := by
  obtain ⟨n, rfl⟩ := okWide_string Tryz.underlying9 hv
  obtain ⟨fuel, h⟩ := h
  exact string_arg (v := .string n) h
theorem cellsII : Tryz.prog.cellsOf 46 = 1 := by kernel_rfl
theorem each_ints2 {mem : Addr → Option Value} {b : Nat} : ∀ (n o : Nat), (∀ i, i < n → ∃ x : Int, mem ⟨b, o + i, none⟩ = some (.int .i64 x) ∧ okI x) → ∃ l : List Int, l.length = n ∧ (∀ s ∈ l, okI s) ∧ ∀ j (h : j < l.length), mem ⟨b, o + j, none⟩ = some (.int .i64 l[j])
  | 0, o, _ => ⟨[], rfl, (fun s h => by cases h), fun j h => absurd h (by simp)⟩
  | n + 1, o, h => by
    obtain ⟨x, hx, hx2⟩ := h 0 (by omega)
    obtain ⟨l, h1, h3, h2⟩ := each_ints2 n (o + 1) (fun i hi => by rw [show o + 1 + i = o + (i + 1) by omega]; exact h (i + 1) (by omega))
    refine ⟨x :: l, by simp [h1], fun s hs => ?_, fun j hj => ?_⟩
    · rcases List.mem_cons.1 hs with rfl | hs
      · exact hx2
      · exact h3 s hs
    cases j with
    | zero => exact hx
    | succ j => rw [show o + (j + 1) = o + 1 + j by omega]; exact h2 j (by simpa using hj)
set_option maxRecDepth 100000 in
theorem ints_in {b0 : Nat} {v : Value} {d : DataW H} {p : List MemPlace} (hv : Value.okWide Tryz.prog W .any b0 46 v) (h : DataW.Trod enc Tryz.prog W 0 (fun _ => true) true 46 v d p) : ∃ l : List Int, IntsM (fun a => W.cell? a) v l ∧ ∀ x ∈ l, okI x := by
  obtain ⟨a, len, cap, rfl⟩ := okWide_slice Tryz.underlying46 hv
  obtain ⟨fuel, h⟩ := h
  rcases open_rows Tryz.underlying46 cells3 (by omega) h with h0 | ⟨a, len, cap, hcs, hl, hm, hsp, hi⟩
  · injection h0 with h0 _
    rw [h0]
    exact ⟨[], IntsM.nil _, fun x hx => by cases hx⟩
  · injection hcs with hcs _
    rw [hcs]
    obtain ⟨l, h1, h3, h2⟩ := each_ints2 (mem := fun a => W.cell? a) (b := a.block) len a.off (fun i hil => by
      obtain ⟨cs', y, m, hcl, ht, hc⟩ := hi i hil
      match cs', hcl with
      | [u], _ =>
        obtain ⟨n, rfl, hn⟩ := int_arg ht
        have := hc 0 (by simp)
        exact ⟨n, by simpa using this, hn⟩)
    subst h1
    exact ⟨l, ⟨a.block, a.off, ⟨Nat.le_trans hl hm, some a, cap, rfl, hl, hm, fun h0 => by rw [← hsp h0]⟩, h2⟩, h3⟩
theorem each_bss {mem : Addr → Option Value} {b : Nat} : ∀ (n o : Nat), (∀ i, i < n → ∃ y : List Blk, ∃ u, mem ⟨b, o + i, none⟩ = some u ∧ BlksM mem u y) → ∃ l : List (List Blk), l.length = n ∧ ∀ j (h : j < l.length), ∃ u, mem ⟨b, o + j * 1, none⟩ = some u ∧ BlksM mem u l[j]
  | 0, o, _ => ⟨[], rfl, fun j h => absurd h (by simp)⟩
  | n + 1, o, h => by
    obtain ⟨x, hx⟩ := h 0 (by omega)
    obtain ⟨l, h1, h2⟩ := each_bss n (o + 1) (fun i hi => by rw [show o + 1 + i = o + (i + 1) by omega]; exact h (i + 1) (by omega))
    refine ⟨x :: l, by simp [h1], fun j hj => ?_⟩
    cases j with
    | zero => exact hx
    | succ j => rw [show o + (j + 1) * 1 = o + 1 + j * 1 by omega]; exact h2 j (by simpa using hj)
set_option maxRecDepth 100000 in
theorem blkss_in {b0 : Nat} {v : Value} {d : DataW H} {p : List MemPlace} (hv : Value.okWide Tryz.prog W .any b0 65 v) (h : DataW.Trod enc Tryz.prog W 0 (fun _ => true) true 65 v d p) : ∃ l : List (List Blk), BlkssM (fun a => W.cell? a) v l := by
  obtain ⟨a, len, cap, rfl⟩ := okWide_slice Tryz.underlying65 hv
  obtain ⟨fuel, h⟩ := h
  rcases open_rows Tryz.underlying65 cellsBB (by omega) h with h0 | ⟨a, len, cap, hcs, hl, hm, hsp, hi⟩
  · injection h0 with h0 _
    rw [h0]
    exact ⟨[], SlM.nil _ _⟩
  · injection hcs with hcs _
    rw [hcs]
    obtain ⟨l, h1, h2⟩ := each_bss (mem := fun a => W.cell? a) (b := a.block) len a.off (fun i hil => by
      obtain ⟨cs', y, m, hcl, ht, hc⟩ := hi i hil
      match cs', hcl with
      | [u], _ =>
        obtain ⟨l, hl⟩ := blks_arg ht
        have := hc 0 (by simp)
        exact ⟨l, u, by simpa using this, hl⟩)
    subst h1
    exact ⟨l, a.block, a.off, ⟨Nat.le_trans hl hm, some a, cap, rfl, hl, hm, fun h0 => by rw [← hsp h0]⟩, h2⟩
set_option maxRecDepth 100000 in
theorem bool_in {b0 : Nat} {v : Value} (hv : Value.okWide Tryz.prog W .any b0 4 v) : ∃ b : Bool, v = .bool b := okWide_bool Tryz.underlying4 hv
end
end Go.Proofs.YtdkkhmjlamkgdaaGreatDoor
/-
  WHAT IS PROVED HERE: what the rows of this seat list holds in memory, a world for the witness, and the last step of a law's row. No condition.
-/
namespace Go.Proofs.YtdkkhmjlamkgdaaGreatDoor
open Go.ChangeShapes Go.WideShapes Go.ChangeAt Go.RowKit Go.ChangeMaps Go.Deep
section
variable {H : Type} {enc : TypeId × Value → H} {P : Program}
theorem post_of_below {f : Func} {s : ChangeSpec} {apart fresh handsOn again : Bool} {W W' : World} {args : Array Value} {v : Value} {ds gs : List (DataW H)} {before pa pv : List MemPlace}
    (hW : DataW.Whole enc P f.params.toList s.vars apart W args.toList ds gs before)
    (hres : ∀ (b : Nat) (sp : Nat → Bool) (hd : Bool), DataW.TrodAll enc P W' b sp hd f.resultTypes.toList (v.resultList f.resultTypes.size) (s.fn H (ds ++ gs)).results [])
    (hargs : ∀ sp : Nat → Bool, (∀ p ∈ before, sp p.block = true) → DataW.TrodAll enc P W' 0 sp true f.params.toList args.toList (s.fn H (ds ++ gs)).args pa)
    (hvars : ∀ sp : Nat → Bool, (∀ p ∈ before, sp p.block = true) → DataW.TrodVars enc P W' sp s.vars (s.fn H (ds ++ gs)).vars pv)
    (hps : before = pa ++ pv) (hb : Below W.heap.size W W')
    (hok : ∀ (j : Nat) (t : TypeId) (r : Value), f.resultTypes[j]? = some t → (v.resultList f.resultTypes.size)[j]? = some r → Value.okWide P W' .any 0 t r) :
    s.post enc P f apart fresh handsOn again W args v W' := by
  have hlt : ∀ p ∈ before, p.block < W.heap.size := fun p hp => hW.lt p hp
  have hold : ∀ p ∈ before, (fun b => decide (b < W.heap.size)) p.block = true := fun p hp => by simpa using hlt p hp
  refine ⟨ds, gs, before, [], pa, pv, hW, hres _ _ _, hargs _ hold, hvars _ hold, World.keptBut_mono (fun p hp => ⟨hp, ?_⟩) (hb.frame (· ∈ before)), fun _ => ?_⟩
  · rw [hps, List.mem_append] at hp
    exact Or.inr hp
  · obtain ⟨_, _, _, _, _, hz, hn⟩ := hW
    refine ⟨hok, _, _, ([] ++ pa) ++ pv, ⟨[] ++ pa, pv, trodAll_append (hargs _ (fun _ _ => rfl)) (hres _ _ _), hvars _ (fun _ _ => rfl), rfl, ?_, ?_⟩, ?_⟩
    · intro b off hp
      have hin : MemPlace.cell b off ∈ before := by rw [hps]; simpa using hp
      rw [hb.frozen (hlt _ hin)]
      exact hz b off hin
    · intro ha
      have := hn ha
      rw [hps] at this
      simpa using this
    · intro p hp _
      rw [hps]
      simpa using hp
end

theorem own : ownKnob Tryz.prog.godebug = none := by kernel_rfl
/-- what the rows of this seat list -/
def laidAll : List (String × DataW Unit) := Rows.stateSortedRow.laid
noncomputable def lit1 : DataW Unit → List Value
  | .lit (.int k n) => [.int k n]
  | .agg ps => ps.flatMap fun
    | .lit (.int k n) => [.int k n]
    | _ => []
  | _ => []
noncomputable def lit2 : DataW Unit → List Value
  | .agg ps => ps.flatMap lit1
  | _ => []
noncomputable def layIn (h : Array Obj) (x : String × DataW Unit) : Array Obj :=
  match Tryz.prog.globalNamed x.1 with
  | some g => h.modify g (fun o => match o with
    | .cells _ t _ => .cells (lit2 x.2).toArray t (0, 0)
    | o => o)
  | none => h
/-- a world for the witness: the settled one, each listed table holding what the row lists -/
noncomputable def laidWorld (os : Os) : World :=
  { World.holding Tryz.prog os ⟨#[], #[], []⟩ with heap := laidAll.foldl layIn (World.holding Tryz.prog os ⟨#[], #[], []⟩).heap }
theorem laidOut : laidOutB Tryz.prog = true := by kernel_rfl
theorem trodAll_stays {H : Type} {enc : TypeId × Value → H} {W W' : World} (hb : Below W.heap.size W W') (sp : Nat → Bool) : ∀ {ts : List TypeId} {vs : List Value} {ds : List (DataW H)} {ps : List MemPlace},
    (∀ t ∈ ts, Tryz.prog.readableRec t = true ∧ t < Tryz.prog.types.size) → DataW.TrodAll enc Tryz.prog W 0 (fun _ => true) true ts vs ds ps → (∀ p ∈ ps, p.block < W.heap.size) → (∀ p ∈ ps, sp p.block = true) →
    DataW.TrodAll enc Tryz.prog W' 0 sp true ts vs ds ps
  | [], [], [], _, _, h, _, _ => h
  | t :: ts, v :: vs, d :: ds, _, hr, h, hlt, hsp => by
    obtain ⟨p, q, h1, h2, rfl⟩ := h
    refine ⟨p, q, WideElems.Trod_stays laidOut (hr t (by simp)).1 (hr t (by simp)).2 h1 (fun x hx => hb.same (hlt x (by simp [hx]))) (fun x hx => hsp x (by simp [hx])), ?_, rfl⟩
    exact trodAll_stays hb sp (fun t ht => hr t (by simp [ht])) h2 (fun x hx => hlt x (by simp [hx])) (fun x hx => hsp x (by simp [hx]))
  | [], _ :: _, _, _, _, h, _, _ => h.elim
  | [], [], _ :: _, _, _, h, _, _ => h.elim
  | _ :: _, [], _, _, _, h, _, _ => h.elim
  | _ :: _, _ :: _, [], _, _, h, _, _ => h.elim
set_option maxRecDepth 100000 in
theorem close_law {H : Type} {enc : TypeId × Value → H} {f : Func} {s : ChangeSpec} {W W' : World} {args : Array Value} {ds gs : List (DataW H)} {before : List MemPlace}
    (hW : DataW.Whole enc Tryz.prog f.params.toList s.vars false W args.toList ds gs before) (hv : s.vars = []) (hres : f.resultTypes = #[4])
    (hspec : (s.fn H ds).results = [.lit (.bool true)] ∧ (s.fn H ds).args = ds ∧ (s.fn H ds).vars = []) (hread : ∀ t ∈ f.params.toList, Tryz.prog.readableRec t = true ∧ t < Tryz.prog.types.size) (hb : Below W.heap.size W W') :
    s.post enc Tryz.prog f false true false false W args (.bool true) W' := by
  have hW2 := hW
  obtain ⟨p, q, hA, hV, rfl, _, _⟩ := hW
  rw [hv] at hV
  obtain ⟨rfl, rfl⟩ := trodVars_none hV
  obtain ⟨s1, s2, s3⟩ := hspec
  have hlt := hW2.lt
  refine post_of_below (pa := p) (pv := []) hW2 (fun _ _ _ => ?_) (fun sp hsp => ?_) (fun _ _ => ?_) rfl hb ?_
  · rw [List.append_nil, s1, hres]
    exact trodAll_cons_mk (shut_bool Tryz.underlying4 _) trodAll_mk0
  · rw [List.append_nil, s2]
    exact trodAll_stays hb sp hread hA (fun x hx => hlt x (by simp [hx])) (fun x hx => hsp x (by simp [hx]))
  · rw [List.append_nil, s3, hv]
    exact rfl
  · exact ok_one hres rfl (okWide_bool_mk Tryz.underlying4 _)

/-- what a row's closed cells ask besides what is shown apart -/
def joinedRest (P : Program) (fn : Func) (s : ChangeSpec) (c : OpenClaim) : Bool :=
  c.wf (OpenSpec.ofChange s) && laidOutB P && mapsRowed P &&
  fn.params.all (P.readableRec ·) && namedTie P c.named s.vars &&
  (c.stops == []) && (P.stops == []) && (c.knobs == []) && (P.stopKnobs == []) &&
  (c.maps == (fn.params.toList ++ s.plain.varTypes P).any (P.mapsRec ·)) && (c.ifaces == (fn.params.toList ++ s.plain.varTypes P).any (P.ifacesRec ·)) && (c.mapsOut == P.mapsAmong fn.resultTypes.toList) &&
  (c.loops == (fn.params.toList ++ s.plain.varTypes P).any (P.loopsFrom ·)) && (c.wideKeys == (fn.params.toList ++ s.plain.varTypes P ++ fn.resultTypes.toList).any (P.wideKeysFrom ·)) &&
  s.vars.all (P.varReadable ·) && fn.resultTypes.all (fun t => P.readableRec t && decide (t < P.types.size)) && (c.ifacesOut == fn.resultTypes.toList.any (P.ifacesRec ·)) && (c.loopsOut == fn.resultTypes.toList.any (P.loopsFrom ·)) && (c.plainKeys == P.plainKeys) && c.shortTexts.isNone && (c.kinds == (if c.domain.isEmpty then [] else fn.params.toList.map fun t => match P.underlying t with | some (.int k) => some k | _ => none)) && (c.pinned == c.pinnedBy) &&
  (c.veiled == (fn.params.toList ++ s.plain.varTypes P ++ fn.resultTypes.toList).any (P.veiledRec ·)) && c.veiledFits P fn.params.toList (fn.params.toList ++ s.plain.varTypes P ++ fn.resultTypes.toList)
theorem joined_of {P : Program} {f : FuncId} {fn : Func} {s : ChangeSpec} {c : OpenClaim} (p1 : (c.inPlace == P.inPlace f) = true) (p2 : (c.unfollowed == P.unfollowed f) = true) (p3 : (c.recurses == P.recurses f) = true) (p4 : (c.named == P.varsNamed f) = true)
    (p5 : P.stopsHeard = true) (p6 : P.mayEnter = true) (p7 : (c.lifted == P.liftsFinal) = true) (p8 : (P.make == some c.make) = true) (hr : joinedRest P fn s c = true) : joinedFacts P f fn s c = true := by
  unfold joinedRest at hr
  unfold joinedFacts
  rw [p1, p2, p3, p4, p5, p6, p7, p8]
  simp only [Bool.and_true, Bool.and_assoc] at hr ⊢
  exact hr
theorem pr_heard : Tryz.prog.stopsHeard = true := by kernel_rfl
theorem pr_enter : Tryz.prog.mayEnter = true := by kernel_rfl
theorem pr_lifts : (Rows.stateSortedRow.lifted == Tryz.prog.liftsFinal) = true := by kernel_rfl
theorem pr_make : (Tryz.prog.make == some Rows.stateSortedRow.make) = true := by kernel_rfl

end Go.Proofs.YtdkkhmjlamkgdaaGreatDoor

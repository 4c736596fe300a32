/-
  WHAT IS PROVED HERE: maps of entries; the walk of merge.byID. Conditions: the ids are distinct, at most 1000 blocks.
-/
import Derived.Test.YtikpbknafhnieaaGreatDoorEnt
namespace Go.Proofs.YtikpbknafhnieaaGreatDoor
open Go.RowKit Mg Go.Shelf

/-- block b is a map of n entries: at an id the block f gives -/
def EMap (mem : Addr → Option Value) (w : World) (b n : Nat) (f : Int → Option Blk) : Prop :=
  ∃ es, IMap Tryz.prog 3 w b es ∧ es.length = n ∧ (∀ i, i ∈ keysL es ↔ (f i).isSome = true) ∧ ∀ i, EntV mem ((getL es i).getD zeroEnt) (f i)
section
variable {mem : Addr → Option Value} {w w' : World} {b n : Nat} {f : Int → Option Blk}
theorem EMap.lt (h : EMap mem w b n f) : b < w.heap.size := by obtain ⟨es, h, _⟩ := h; exact h.lt
theorem EMap.of_block (h : EMap mem w b n f) (e : w'.heap[b]? = w.heap[b]?) : EMap mem w' b n f := by
  obtain ⟨es, h1, h2⟩ := h; exact ⟨es, h1.of_block e, h2⟩
theorem EMap.below {B : Nat} (h : EMap mem w b n f) (hu : Below B w w') (hn : b < B) : EMap mem w' b n f := h.of_block (hu.block _ hn)
theorem EMap.bel (h : EMap mem w b n f) (hu : Below w.heap.size w w') : EMap mem w' b n f := h.below hu h.lt
theorem EMap.alloc (h : EMap mem w b n f) (o : Obj) : EMap mem (w.alloc o) b n f := h.of_block (Below.heap_alloc _ _ _ h.lt)
theorem EMap.setCell (h : EMap mem w b n f) {p : Addr} (u : Value) (hn : b ≠ p.block) : EMap mem (w.setCell p u) b n f := h.of_block (Below.heap_setCell _ _ _ _ hn)
theorem EMap.grown {row : Option Nat} (h : EMap mem w b n f) (hu : w.grownBy w' row) (hn : some b ≠ row) : EMap mem w' b n f := h.of_block (hu.block _ h.lt hn)
theorem EMap.upd {F : Nat → Prop} (h : EMap mem w b n f) (hu : Upd F w w') (hn : ¬ F b) : EMap mem w' b n f := h.of_block (hu.block _ h.lt hn)
theorem EMap.made (mem : Addr → Option Value) (w : World) : EMap mem (w.alloc (.map #[] 0)) w.heap.size 0 (fun _ => none) :=
  ⟨[], IMap.made _ _ w, rfl, fun i => by simp [keysL], fun _ => rfl⟩
theorem EMap.ext {g : Int → Option Blk} (h : EMap mem w b n f) (e : ∀ i, g i = f i) : EMap mem w b n g := by
  obtain ⟨es, h1, h2, h3, h4⟩ := h
  exact ⟨es, h1, h2, fun i => by rw [e]; exact h3 i, fun i => by rw [e]; exact h4 i⟩
/-- m[id] -/
theorem EMap.look (h : EMap mem w b n f) {i : Int} (hi : okI i) : ∃ v, (Instr.lookup 41 (.map (some b)) (.int .i64 i) false).run Tryz.prog w = .ok v w ∧ EntV mem v (f i) := by
  obtain ⟨es, h1, _, _, h4⟩ := h
  exact ⟨_, h1.look Tryz.underlying3 Tryz.underlying41 (zero_ent w) hi, h4 i⟩
/-- m[id] = entry, where there is none yet -/
theorem EMap.store (h : EMap mem w b n f) (hn : n ≤ 100000) {i : Int} (hi : okI i) (hf : f i = none) {x : Blk} {v : Value} (hv : EntV mem v (some x)) :
    ∃ w', (Instr.mapUpdate 41 (.map (some b)) (.int .i64 i) v).run Tryz.prog w = .ok () w' ∧ EMap mem w' b (n + 1) (fun j => if j = i then some x else f j) ∧ w.grownBy w' (some b) := by
  obtain ⟨es, h1, h2, h3, h4⟩ := h
  have hk : i ∉ keysL es := fun hk => by have := (h3 i).1 hk; rw [hf] at this; cases this
  obtain ⟨w', r, g1, g2⟩ := h1.store Tryz.underlying3 Tryz.underlying41 (by unfold maxLen; omega) hi hk v
  have hks : keysL (es ++ [(i, v)]) = keysL es ++ [i] := by unfold keysL; simp
  refine ⟨w', r, ⟨_, g1, by simp [h2], fun j => ?_, fun j => ?_⟩, g2⟩
  · rw [hks]
    by_cases e : j = i
    · subst e; simp
    · simp [e, h3 j]
  · dsimp only
    by_cases e : j = i
    · subst e; rw [if_pos rfl, getL_snoc_same hk]; exact hv
    · rw [if_neg e, getL_snoc_other (Ne.symm e)]; exact h4 j
theorem EMap.len (h : EMap mem w b n f) (ty : TypeId) : (Builtin.len_ #[41] ty #[.map (some b)]).run Tryz.prog w = .ok (.int .i64 n) w := by
  obtain ⟨es, h1, rfl, _⟩ := h
  exact h1.len Tryz.underlying41 ty
end
theorem run_makeMap_hint {P : Program} (t k e : TypeId) (kd : IntKind) (n : Int) (ht : P.underlying t = some (.map k e)) (w : World) :
    (Instr.makeMap t (some (.int kd n))).run P w = .ok (.map (some w.heap.size)) (w.alloc (.map #[] 0)) := by
  simp [Instr.makeMap, run_underlying ht]; rfl
theorem find_take {l : List Blk} {k : Nat} (hk : k < l.length) (hn : (ids l).Nodup) (i : Int) : find (l.take (k + 1)) i = if i = l[k].id then some l[k] else find (l.take k) i := by
  unfold find
  rw [List.take_succ_eq_append_getElem hk, List.find?_append, List.find?_singleton]
  by_cases e : i = l[k].id
  · rw [if_pos e]
    have : (l.take k).find? (fun b => decide (b.id = i)) = none := by
      rw [List.find?_eq_none]
      intro b hb h
      obtain ⟨j, hj, rfl⟩ := List.getElem_of_mem hb
      rw [List.length_take] at hj
      rw [List.getElem_take] at h
      have := (List.pairwise_iff_getElem.1 hn) j k (by simp; omega) (by simpa using hk) (by omega)
      simp at this h
      exact this (h.trans e)
    rw [this]; simp [e]
  · rw [if_neg e]
    have : ¬ l[k].id = i := fun h => e h.symm
    simp [this]
theorem find_take_none {l : List Blk} {k : Nat} (hk : k < l.length) (hn : (ids l).Nodup) : find (l.take k) l[k].id = none := by
  rw [find_none]
  intro hm
  obtain ⟨b, hb, e⟩ := List.mem_map.1 hm
  obtain ⟨j, hj, rfl⟩ := List.getElem_of_mem hb
  rw [List.length_take] at hj
  rw [List.getElem_take] at e
  have := (List.pairwise_iff_getElem.1 hn) j k (by simp; omega) (by simpa using hk) (by omega)
  simp at this
  exact this e

set_option maxRecDepth 10000 in
set_option maxHeartbeats 2000000 in
theorem byID_any {mem : Addr → Option Value} {v : Value} {l : List Blk} (h : BlksM mem v l) (hl : l.length ≤ 1000) (hnd : (ids l).Nodup) (w : World) (hs : Sees mem w) :
    Calls Tryz.prog 27 #[v] w fun e w' => e = .returned (.map (some w.heap.size)) ∧ EMap mem w' w.heap.size l.length (find l) ∧ Below w.heap.size w w' := by
  obtain ⟨ao, cap, b, o, rfl, hcap, hm, hao, hblks⟩ := h.open_
  have HAO := Lib.hid hao
  have HB := Lib.hid hblks
  have HS := Lib.hid hs
  have hmk := fun W => run_makeMap_hint (P := Tryz.prog) 41 3 44 .i64 (l.length : Int) Tryz.underlying41 W
  have HND := Lib.hid hnd
  have H0 := Lib.hid (EMap.made mem w)
  clear h hao hblks hs hnd
  go_enter Tryz.func27, Tryz.ntmps27
  go_wp2_with fail
  clear hmk
  go_loopw [11] (fun i wr => ∃ k : Nat, k ≤ l.length ∧ i = .int .i64 k ∧ Below w.heap.size w wr ∧ Hid (EMap mem wr w.heap.size k (find (l.take k)))) (fun i _ => l.length - (intOf i).toNat)
  case atStart => exact ⟨0, Nat.zero_le _, rfl, (Below.refl _ w).alloc (Nat.le_refl _) _, H0⟩
  case round =>
    obtain ⟨k, hk, rfl, hb, hM⟩ := hrel
    by_cases hlt : k < l.length
    · obtain ⟨⟨_, _, hok⟩, lo, lc, hi, c9⟩ := (HB.out k hlt).nine (HS.out.bel hb)
      obtain rfl := HAO.out (by omega)
      obtain ⟨c0, c1, c2, c3, c4, c5, c6, c7, c8⟩ := c9
      have hfn := find_take_none hlt HND.out
      have HF : Hid (∀ i, find (l.take (k + 1)) i = if i = l[k].id then some l[k] else find (l.take k) i) := Lib.hid (find_take hlt HND.out)
      generalize l[k] = x at *
      have hM1 := hM.out.alloc (.cells #[.int .i64 x.id, .int .i64 x.kind, .string x.text, .int .i64 x.story, .int .i64 x.ref, .int .i64 x.lab.till, .slice lo x.lab.after.length lc, .int .i64 x.lab.appr, .int .i64 x.lab.denied] 39)
      obtain ⟨w2, hst, hM2, hg2⟩ := hM1.store (by omega) hok hfn (x := x) (v := entAgg x (.slice lo x.lab.after.length lc)) ⟨lo, lc, hi, rfl⟩
      have HM2 := Lib.hid (hM2.ext HF.out)
      have hB2 : Below w.heap.size w w2 := (hb.alloc hb.size _).grown hg2 (by have := hb.size; simp; omega) (fun k e => by cases e; exact Nat.le_refl _)
      simp only [entAgg] at hst
      clear hM hM1 hM2 hg2 HF hfn hi
      go_wp2_with fail
      go_roundw
      case rel => exact ⟨k + 1, by omega, by go_num, hB2, HM2⟩
      case measure => simp [intOf]; omega
    · have e : k = l.length := by omega
      subst e
      have HF : Hid (EMap mem wr w.heap.size l.length (find l)) := Lib.hid (by have := hM.out; rwa [List.take_length] at this)
      go_wp2_with fail
      go_ret
      exact ⟨rfl, HF.out, hb⟩
end Go.Proofs.YtikpbknafhnieaaGreatDoor

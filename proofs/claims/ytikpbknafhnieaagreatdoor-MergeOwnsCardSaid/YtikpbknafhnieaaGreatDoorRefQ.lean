/-
  WHAT IS PROVED HERE: what the three loops of the reference's Merge come to is what mergeF says; plain. No program, no condition.
-/
import Derived.Test.YtikpbknafhnieaaGreatDoorRefC
import Derived.Test.YtikpbknafhnieaaGreatDoorRefP
import Derived.Test.YtikpbknafhnieaaGreatDoorLawQ
namespace Go.Proofs.YtikpbknafhnieaaGreatDoor
open Go.RowKit Mg

/-- the block of the merged list at an id -/
def pk (X Y Z : List Blk) (i : Int) : Option Blk := (pickAt X Y Z i).1
theorem pk_id {X Y Z : List Blk} {i : Int} {x : Blk} (h : pk X Y Z i = some x) : x.id = i := (pickAt_id h).1
theorem has_pk {X Y Z : List Blk} {i : Int} : hasAt X Y Z i = (pk X Y Z i).isSome := rfl
theorem idsTo_nodup (X Y Z : List Blk) (k : Nat) : (idsTo X Y Z k).Nodup := by
  unfold idsTo
  refine List.Pairwise.filter _ ?_
  rw [List.pairwise_map]
  exact (List.nodup_range (n := k)).imp (fun h e => h (by omega))
theorem mem_idsTo {X Y Z : List Blk} {k : Nat} {i : Int} : i ∈ idsTo X Y Z k ↔ (1 ≤ i ∧ i ≤ k) ∧ anyId X Y Z i = true := by
  unfold idsTo
  rw [List.mem_filter, List.mem_map]
  refine and_congr_left fun _ => ⟨?_, fun ⟨h1, h2⟩ => ⟨(i - 1).toNat, by rw [List.mem_range]; omega, by omega⟩⟩
  rintro ⟨n, hn, rfl⟩
  have := List.mem_range.1 hn
  omega
theorem count_has {X Y Z : List Blk} (h2 : ValidL Y) (h3 : ValidL Z) : ((idsTo X Y Z 1000).filter (hasAt X Y Z)).length = (merged X Y Z).length := by
  rw [merged_length h2.2.2 h3.2.2]
  obtain ⟨hn, hm⟩ := orderOf_inv (base := X) h2.2.2 h3.2.2
  refine perm_length ((idsTo_nodup X Y Z 1000).filter _) hn fun y => ?_
  rw [hm, List.mem_filter, mem_idsTo]
  refine ⟨fun h => h.2, fun h => ⟨?_, h⟩⟩
  have hin := has_in h
  have hr : 1 ≤ y ∧ y ≤ 1000 := hin.elim (h2.range y) (h3.range y)
  refine ⟨by omega, ?_⟩
  unfold anyId
  rcases hin with h | h <;> simp [h]
theorem confs_ids (X Y Z : List Blk) : (idsTo X Y Z 1000).filter (fun i => (pickAt X Y Z i).2) = confs X Y Z := by
  unfold idsTo confs
  rw [List.filter_filter]
  refine List.filter_congr fun i _ => ?_
  rw [Bool.eq_iff_iff, Bool.and_eq_true]
  refine ⟨fun h => h.1, fun h => ⟨h, ?_⟩⟩
  unfold anyId
  rcases conflict_in h with h | h | h <;> simp [h]
/-- the merged list by way of the two loops -/
def leadOf (X Y Z : List Blk) : List Int := if Keeps (ids Z) (ids X) then ids Y else ids Z
def follOf (X Y Z : List Blk) : List Int := if Keeps (ids Z) (ids X) then ids Z else ids Y
theorem ref_merged {X Y Z : List Blk} (h2 : ValidL Y) (h3 : ValidL Z) :
    ((follOf X Y Z).foldl (refStep (hasAt X Y Z) (leadOf X Y Z)) ((leadOf X Y Z).filter (hasAt X Y Z), -1)).1.filterMap (pk X Y Z) = merged X Y Z := by
  have hr2 := h2.range
  have hr3 := h3.range
  have e : ((follOf X Y Z).foldl (refStep (hasAt X Y Z) (leadOf X Y Z)) ((leadOf X Y Z).filter (hasAt X Y Z), -1)).1 = orderOf X Y Z := by
    unfold orderOf leadOf follOf
    by_cases h : Keeps (ids Z) (ids X)
    · rw [if_pos h, if_pos h, if_pos h]
      exact ref_order h2.2.2 h3.2.2 (fun i hi => (hr2 i hi).1) (fun i hi => (hr3 i hi).1)
    · rw [if_neg h, if_neg h, if_neg h]
      exact ref_order h3.2.2 h2.2.2 (fun i hi => (hr3 i hi).1) (fun i hi => (hr2 i hi).1)
  rw [e]
  rfl
/-- the blocks at ids that all have one -/
def AllHas (X Y Z : List Blk) (s : List Int) : Prop := ∀ i ∈ s, (pk X Y Z i).isSome = true
theorem AllHas.take {X Y Z : List Blk} {s : List Int} (h : AllHas X Y Z s) (k : Nat) : AllHas X Y Z (s.take k) := fun i hi => h i (List.mem_of_mem_take hi)
theorem ids_of {X Y Z : List Blk} {s : List Int} (h : AllHas X Y Z s) : ids (s.filterMap (pk X Y Z)) = s := ids_filterMap _ (fun _ _ e => pk_id e) s h
theorem fm_len {X Y Z : List Blk} {s : List Int} (h : AllHas X Y Z s) : (s.filterMap (pk X Y Z)).length = s.length := by
  have e := congrArg List.length (ids_of h)
  rwa [List.length_map] at e
theorem fm_take {X Y Z : List Blk} {s : List Int} (h : AllHas X Y Z s) (k : Nat) : (s.filterMap (pk X Y Z)).take k = (s.take k).filterMap (pk X Y Z) ∧ (s.filterMap (pk X Y Z)).drop k = (s.drop k).filterMap (pk X Y Z) := by
  by_cases hk : k ≤ s.length
  · have e : s.filterMap (pk X Y Z) = (s.take k).filterMap (pk X Y Z) ++ (s.drop k).filterMap (pk X Y Z) := by rw [← List.filterMap_append, List.take_append_drop]
    have l : ((s.take k).filterMap (pk X Y Z)).length = k := by rw [fm_len (h.take k), List.length_take]; omega
    rw [e]
    exact ⟨List.take_left' l, List.drop_left' l⟩
  · have l := fm_len h
    rw [List.take_of_length_le (by omega), List.drop_of_length_le (by omega), List.take_of_length_le (by omega), List.drop_of_length_le (by omega)]
    exact ⟨rfl, rfl⟩
/-- what stands behind k ids of the following list -/
def refSt (X Y Z : List Blk) (lead foll : List Int) (k : Nat) : List Int × Int := (foll.take k).foldl (refStep (hasAt X Y Z) lead) (lead.filter (hasAt X Y Z), -1)
theorem refSt_succ {X Y Z : List Blk} {lead foll : List Int} {k : Nat} (hk : k < foll.length) : refSt X Y Z lead foll (k + 1) = refStep (hasAt X Y Z) lead (refSt X Y Z lead foll k) foll[k] := by
  unfold refSt
  rw [List.take_succ_eq_append_getElem hk, List.foldl_append]; rfl
theorem refSt_all (X Y Z : List Blk) (lead foll : List Int) : AllHas X Y Z (refSt X Y Z lead foll 0).1 ∧ ∀ k, k ≤ foll.length → AllHas X Y Z (refSt X Y Z lead foll k).1 := by
  have h0 : AllHas X Y Z (refSt X Y Z lead foll 0).1 := fun i hi => (List.mem_filter.1 hi).2
  refine ⟨h0, fun k => ?_⟩
  induction k with
  | zero => intro _; exact h0
  | succ k ih =>
    intro hk
    rw [refSt_succ (by omega)]
    have ih := ih (by omega)
    unfold refStep
    intro i hi
    by_cases h : hasAt X Y Z foll[k] = true ∧ foll[k] ∉ lead
    · simp only [if_pos h] at hi
      rcases insAt_mem.1 hi with e | e
      · rw [e]; exact h.1
      · exact ih i e
    · simp only [if_neg h] at hi
      exact ih i hi
theorem refSt_len (X Y Z : List Blk) (lead foll : List Int) : ∀ k, (refSt X Y Z lead foll k).1.length ≤ lead.length + k := by
  intro k
  induction k with
  | zero => exact List.length_filter_le _ _
  | succ k ih =>
    by_cases hk : k < foll.length
    · rw [refSt_succ hk]
      unfold refStep
      simp only
      split
      · rw [insAt_length]; omega
      · omega
    · have : refSt X Y Z lead foll (k + 1) = refSt X Y Z lead foll k := by unfold refSt; rw [List.take_of_length_le (by omega), List.take_of_length_le (by omega)]
      rw [this]; omega
/-- the place behind the nearest id -/
theorem placeI_bound (s : List Int) (x : Int) : 0 ≤ placeI s x + 1 ∧ placeI s x + 1 ≤ s.length := by
  unfold placeI
  split
  · next h => have := List.idxOf_lt_length_iff.2 h; omega
  · omega
end Go.Proofs.YtikpbknafhnieaaGreatDoor

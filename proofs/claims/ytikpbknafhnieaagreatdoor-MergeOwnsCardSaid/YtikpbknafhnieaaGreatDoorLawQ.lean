/-
  WHAT IS PROVED HERE: plain facts for the walks of the laws on conflicts and on one side. No program, no condition.
-/
import Derived.Test.YtikpbknafhnieaaGreatDoorLawP
namespace Go.Proofs.YtikpbknafhnieaaGreatDoor
open Go.RowKit Mg Go.Shelf

/-- the conflicts among the ids 1 to k -/
def confsTo (X Y Z : List Blk) (k : Nat) : List Int := ((List.range k).map fun n : Nat => (n : Int) + 1).filter (fun i => (pickAt X Y Z i).2)
theorem confsTo_all (X Y Z : List Blk) : confs X Y Z = confsTo X Y Z 1000 := rfl
theorem confsTo_step (X Y Z : List Blk) (k : Nat) : confsTo X Y Z (k + 1) = confsTo X Y Z k ++ if (pickAt X Y Z ((k : Int) + 1)).2 = true then [(k : Int) + 1] else [] := by
  unfold confsTo
  rw [List.range_succ, List.map_append, List.filter_append]
  congr 1
  by_cases h : (pickAt X Y Z ((k : Int) + 1)).2 = true
  · rw [if_pos h]
    exact List.filter_cons_of_pos h
  · rw [if_neg h]
    exact List.filter_cons_of_neg h
theorem confsTo_pre (X Y Z : List Blk) : ∀ {k m : Nat}, k ≤ m → confsTo X Y Z k <+: confsTo X Y Z m
  | k, 0, h => by obtain rfl : k = 0 := by omega
                  exact List.prefix_refl _
  | k, m + 1, h => by
    by_cases e : k = m + 1
    · subst e; exact List.prefix_refl _
    · exact (confsTo_pre X Y Z (by omega : k ≤ m)).trans (by rw [confsTo_step]; exact List.prefix_append _ _)
theorem confs_get {X Y Z : List Blk} {k : Nat} (hk : k < 1000) (h : (pickAt X Y Z ((k : Int) + 1)).2 = true) : ∃ hn : (confsTo X Y Z k).length < (confs X Y Z).length, (confs X Y Z)[(confsTo X Y Z k).length] = (k : Int) + 1 := by
  obtain ⟨r, hr⟩ := confsTo_pre X Y Z (by omega : k + 1 ≤ 1000)
  rw [← confsTo_all, confsTo_step, if_pos h] at hr
  have hl : (confsTo X Y Z k).length < (confs X Y Z).length := by rw [← hr]; simp
  refine ⟨hl, ?_⟩
  have : (confs X Y Z)[(confsTo X Y Z k).length]? = some ((k : Int) + 1) := by
    rw [← hr, List.append_assoc, List.getElem?_append_right (by omega)]
    simp
  rw [List.getElem?_eq_getElem hl] at this
  exact Option.some.inj this
theorem confsTo_len (X Y Z : List Blk) (k : Nat) : (confsTo X Y Z k).length ≤ k := by
  unfold confsTo
  have := List.length_filter_le (fun i => (pickAt X Y Z i).2) ((List.range k).map fun n : Nat => (n : Int) + 1)
  rwa [List.length_map, List.length_range] at this
theorem mem_confs_iff {X Y Z : List Blk} {i : Int} (h1 : 1 ≤ i ∧ i ≤ 1000) : i ∈ confs X Y Z ↔ (pickAt X Y Z i).2 = true := by
  refine ⟨fun h => ?_, fun h => mem_confs h1 h⟩
  unfold confs at h
  exact (List.mem_filter.1 h).2
/-- one id: whether it is in conflict, whether it is listed, what is taken -/
theorem law_conflict {X Y Z : List Blk} (p2 : ValidL Y) (p3 : ValidL Z) (i : Int) (h1 : 1 ≤ i ∧ i ≤ 1000) :
    decide (i ∈ confs X Y Z) = (!decide (find X i = find Y i) && !decide (find X i = find Z i) && !decide (find Y i = find Z i)) ∧ (pickAt X Y Z i).2 = (!decide (find X i = find Y i) && !decide (find X i = find Z i) && !decide (find Y i = find Z i)) ∧
    ((pickAt X Y Z i).2 = true → find (merged X Y Z) i = if find Z i = none then find Y i else find Z i) := by
  have hp : (pickAt X Y Z i).2 = (!decide (find X i = find Y i) && !decide (find X i = find Z i) && !decide (find Y i = find Z i)) := by
    rw [Bool.eq_iff_iff]
    unfold pickAt
    rw [pick_conflict]
    simp [and_assoc]
  refine ⟨?_, hp, fun h => ?_⟩
  · rw [← hp, Bool.eq_iff_iff, decide_eq_true_iff]
    exact mem_confs_iff h1
  · rw [find_merged p2.2.2 p3.2.2]
    exact pick_taken _ _ _ h
theorem confs_none {X Y Z : List Blk} (h : ∀ i, (pickAt X Y Z i).2 = false) : confs X Y Z = [] := by
  unfold confs
  rw [List.filter_eq_nil_iff]
  intro i _
  rw [h i]; simp
/-- one side changed: what the three merges give -/
theorem law_one {X Y : List Blk} (p1 : ValidL X) (p2 : ValidL Y) : mergeF X Y Y = (Y, [], 0) ∧ mergeF X X Y = (Y, [], 0) ∧ mergeF X Y X = (Y, [], 0) := by
  have e1 : merged X Y Y = Y := one_side1 p2.2.2
  have e2 : merged X X Y = Y := one_side2 p1.2.2 p2.2.2
  have e3 : merged X Y X = Y := one_side3 p1.2.2 p2.2.2
  refine ⟨?_, ?_, ?_⟩
  · rw [mergeF_yes ⟨p1, p2, p2⟩ (by rw [e1]; exact p2.1), e1, confs_none (fun i => (one_side_conflict (find X i) (find Y i)).1)]
  · rw [mergeF_yes ⟨p1, p1, p2⟩ (by rw [e2]; exact p2.1), e2, confs_none (fun i => (one_side_conflict (find X i) (find Y i)).2.1)]
  · rw [mergeF_yes ⟨p1, p2, p1⟩ (by rw [e3]; exact p2.1), e3, confs_none (fun i => (one_side_conflict (find X i) (find Y i)).2.2)]
theorem law_one_bad {X Y : List Blk} (h : ¬ (ValidL X ∧ ValidL Y)) : mergeF X Y Y = ([], [], 40) ∧ mergeF X X Y = ([], [], 40) ∧ mergeF X Y X = ([], [], 40) :=
  ⟨mergeF_bad (fun k => h ⟨k.1, k.2.1⟩), mergeF_bad (fun k => h ⟨k.1, k.2.2⟩), mergeF_bad (fun k => h ⟨k.1, k.2.1⟩)⟩
end Go.Proofs.YtikpbknafhnieaaGreatDoor

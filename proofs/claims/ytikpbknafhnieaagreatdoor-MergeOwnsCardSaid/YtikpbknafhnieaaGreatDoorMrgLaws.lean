/-
  WHAT IS PROVED HERE: the laws of the plain merge: contents, conflicts, exchange, once more, one side, order. No program, no condition.
-/
import Derived.Test.YtikpbknafhnieaaGreatDoorMrgFun
namespace Go.Proofs.YtikpbknafhnieaaGreatDoor.Mg

theorem sub_eq {l r : List Int} (h : List.Sublist l r) : r.Nodup → (∀ y, y ∈ r → y ∈ l) → l = r := by
  induction h with
  | slnil => intro _ _; rfl
  | cons a h ih =>
    intro hn hm
    exact absurd (h.subset (hm a List.mem_cons_self)) (List.nodup_cons.1 hn).1
  | cons_cons a h ih =>
    intro hn hm
    obtain ⟨h1, h2⟩ := List.nodup_cons.1 hn
    rw [ih h2 fun y hy => ?_]
    rcases List.mem_cons.1 (hm y (List.mem_cons_of_mem _ hy)) with e | e
    · exact absurd (e ▸ hy) h1
    · exact e
theorem perm_length {l r : List Int} (hl : l.Nodup) (hr : r.Nodup) (h : ∀ y, y ∈ l ↔ y ∈ r) : l.length = r.length :=
  ((List.perm_ext_iff_of_nodup hl hr).2 h).length_eq

/-! at an id -/
theorem pick_conflict (x y z : Option Blk) : (pick x y z).2 = true ↔ x ≠ y ∧ x ≠ z ∧ y ≠ z := by
  unfold pick
  split
  · next h => simp [h]
  split
  · next h1 h => rcases h with h | h <;> simp [h]
  split
  · next h1 h2 h3 => simp only [true_iff]; exact ⟨fun e => h1 e.symm, fun e => h2 (.inl e.symm), fun e => h2 (.inr e.symm)⟩
  · next h1 h2 h3 => simp only [true_iff]; exact ⟨fun e => h1 e.symm, fun e => h2 (.inl e.symm), fun e => h2 (.inr e.symm)⟩
theorem pick_taken (x y z : Option Blk) (h : (pick x y z).2 = true) : (pick x y z).1 = if z = none then y else z := by
  obtain ⟨h1, h2, h3⟩ := (pick_conflict x y z).1 h
  unfold pick
  rw [if_neg (fun e => h1 e.symm), if_neg (by rintro (e | e); exact h2 e.symm; exact h3 e.symm)]
  cases z <;> simp
theorem pick_stillA (x y z : Option Blk) (h : x = y) : (pick x y z).1 = z := by unfold pick; rw [if_pos h.symm]
theorem pick_stillB (x y z : Option Blk) (h : x = z) : (pick x y z).1 = y := by
  unfold pick
  split
  · next e => rw [e, h]
  · rw [if_pos (.inl h.symm)]
theorem pick_swap_conflict (x y z : Option Blk) : (pick x y z).2 = (pick x z y).2 := by
  rw [Bool.eq_iff_iff, pick_conflict, pick_conflict]
  exact ⟨fun ⟨a, b, c⟩ => ⟨b, a, fun e => c e.symm⟩, fun ⟨a, b, c⟩ => ⟨b, a, fun e => c e.symm⟩⟩
theorem pick_swap (x y z : Option Blk) (h : (pick x y z).2 = false) : (pick x y z).1 = (pick x z y).1 := by
  by_cases h1 : x = y
  · rw [pick_stillA _ _ _ h1, pick_stillB _ _ _ h1]
  by_cases h2 : x = z
  · rw [pick_stillB _ _ _ h2, pick_stillA _ _ _ h2]
  by_cases h3 : y = z
  · rw [h3]
  · rw [(pick_conflict x y z).2 ⟨h1, h2, h3⟩] at h; cases h
theorem pick_self (x y : Option Blk) : (pick x y y).1 = y := by rcases pick_cases x y y with e | e <;> exact e
theorem pick_againA (x y z : Option Blk) : (pick x y (pick x y z).1).1 = (pick x y z).1 := by
  by_cases h1 : x = y
  · rw [pick_stillA _ _ _ h1, pick_stillA _ _ _ h1]
  rcases pick_cases x y z with e | e
  · rw [e, pick_self]
  · rw [e, e]
theorem pick_againB (x y z : Option Blk) : (pick x z (pick x y z).1).1 = (pick x y z).1 := by
  by_cases h1 : x = y
  · rw [pick_stillA _ _ _ h1, pick_self]
  by_cases h2 : x = z
  · rw [pick_stillB _ _ _ h2, pick_stillA _ _ _ h2]
  by_cases h3 : y = z
  · subst h3; rw [pick_self, pick_self]
  have hc := pick_taken x y z ((pick_conflict x y z).2 ⟨h1, h2, h3⟩)
  rw [hc]
  split
  · next e =>
    subst e
    have := pick_taken x none y ((pick_conflict x none y).2 ⟨h2, h1, fun e => h3 e.symm⟩)
    rw [this, if_neg h3]
  · rw [pick_self]

/-! the merged list -/
theorem merged_nodup {base a b : List Blk} (ha : (ids a).Nodup) (hb : (ids b).Nodup) : (ids (merged base a b)).Nodup := by rw [merged_ids ha hb]; exact (orderOf_inv ha hb).1
theorem merged_length {base a b : List Blk} (ha : (ids a).Nodup) (hb : (ids b).Nodup) : (merged base a b).length = (orderOf base a b).length := by rw [← merged_ids ha hb, List.length_map]
theorem find_ext {l k : List Blk} (hl : (ids l).Nodup) (hk : (ids k).Nodup) (h : ∀ i, find l i = find k i) : l.length = k.length := by
  have := perm_length hl hk (fun i => by
    have e1 := find_none (l := l) (i := i)
    have e2 := find_none (l := k) (i := i)
    rw [h i] at e1
    constructor
    · intro hi
      exact Classical.byContradiction fun hh => e1.1 (e2.2 hh) hi
    · intro hi
      exact Classical.byContradiction fun hh => e2.1 (e1.2 hh) hi)
  simpa using this
theorem again_a {base a b : List Blk} (ha : (ids a).Nodup) (hb : (ids b).Nodup) (i : Int) : find (merged base a (merged base a b)) i = find (merged base a b) i := by
  rw [find_merged ha (merged_nodup ha hb), find_merged ha hb]
  unfold pickAt
  rw [find_merged ha hb]
  exact pick_againA _ _ _
theorem again_b {base a b : List Blk} (ha : (ids a).Nodup) (hb : (ids b).Nodup) (i : Int) : find (merged base b (merged base a b)) i = find (merged base a b) i := by
  rw [find_merged hb (merged_nodup ha hb), find_merged ha hb]
  unfold pickAt
  rw [find_merged ha hb]
  exact pick_againB _ _ _
theorem exchanged {base a b : List Blk} (ha : (ids a).Nodup) (hb : (ids b).Nodup) (i : Int) (h : (pickAt base a b i).2 = false) : find (merged base a b) i = find (merged base b a) i := by
  rw [find_merged ha hb, find_merged hb ha]
  exact pick_swap _ _ _ h

/-! order -/
theorem keeps_symm {l r : List Int} (_hl : l.Nodup) (hr : r.Nodup) (h : Keeps l r) : Keeps r l := by
  unfold Keeps at h ⊢
  have h1 := h.filter (fun y => decide (y ∈ l))
  rw [List.filter_filter] at h1
  have h2 : l.filter (fun a => decide (a ∈ l) && decide (a ∈ r)) = l.filter (fun y => decide (y ∈ r)) := List.filter_congr (fun y hy => by simp [hy])
  rw [h2] at h1
  have h3 := sub_eq h1 (hr.filter _) (fun y hy => by
    obtain ⟨y1, y2⟩ := List.mem_filter.1 hy
    exact List.mem_filter.2 ⟨by simpa using y2, by simpa using y1⟩)
  rw [← h3]
  exact List.filter_sublist
theorem keeps_of_has {base a b : List Blk} (ha : (ids a).Nodup) (hb : (ids b).Nodup) {x : List Int} (h : List.Sublist (x.filter (hasAt base a b)) (orderOf base a b)) : Keeps x (orderOf base a b) := by
  unfold Keeps
  have : x.filter (fun y => decide (y ∈ orderOf base a b)) = x.filter (hasAt base a b) := List.filter_congr (fun y _ => by
    rw [Bool.eq_iff_iff, decide_eq_true_eq, (orderOf_inv ha hb).2])
  rw [this]; exact h
/-- in any case the leading list's order is kept -/
theorem keeps_lead {base a b : List Blk} (ha : (ids a).Nodup) (hb : (ids b).Nodup) : if Keeps (ids b) (ids base) then Keeps (ids a) (orderOf base a b) else Keeps (ids b) (orderOf base a b) := by
  split
  · next h =>
    refine keeps_of_has ha hb ?_
    unfold orderOf
    rw [if_pos h]
    exact (order_inv _ _ _ ha hb).2.2
  · next h =>
    refine keeps_of_has ha hb ?_
    unfold orderOf
    rw [if_neg h]
    exact (order_inv _ _ _ hb ha).2.2
theorem keeps_both {base a b : List Blk} (ha : (ids a).Nodup) (hb : (ids b).Nodup) (hk : Keeps (ids a) (ids b)) : Keeps (ids a) (orderOf base a b) ∧ Keeps (ids b) (orderOf base a b) := by
  have hl := keeps_lead (base := base) ha hb
  by_cases h : Keeps (ids b) (ids base)
  · rw [if_pos h] at hl
    refine ⟨hl, keeps_of_has ha hb ?_⟩
    unfold orderOf
    rw [if_pos h]
    exact order_follow _ _ _ ha hb (keeps_symm ha hb hk)
  · rw [if_neg h] at hl
    refine ⟨keeps_of_has ha hb ?_, hl⟩
    unfold orderOf
    rw [if_neg h]
    exact order_follow _ _ _ hb ha hk

/-! one side -/
theorem filterMap_find : ∀ (l : List Blk), (ids l).Nodup → (ids l).filterMap (find l) = l := by
  intro l hn
  have h : ∀ r : List Blk, (∀ x ∈ r, x ∈ l) → (ids r).filterMap (find l) = r := by
    intro r
    induction r with
    | nil => intro _; rfl
    | cons x r ih =>
      intro hr
      have : find l x.id = some x := (find_some hn).2 ⟨hr x List.mem_cons_self, rfl⟩
      show (x.id :: ids r).filterMap (find l) = _
      rw [List.filterMap_cons_some this, ih fun y hy => hr y (List.mem_cons_of_mem _ hy)]
  exact h l fun _ h => h
theorem one_side {base a b l : List Blk} (ha : (ids a).Nodup) (hb : (ids b).Nodup) (hl : (ids l).Nodup) (hp : ∀ i, (pickAt base a b i).1 = find l i) (hs : List.Sublist (ids l) (orderOf base a b)) : merged base a b = l := by
  have he : ids l = orderOf base a b := sub_eq hs (orderOf_inv ha hb).1 fun y hy => by
    have h1 := ((orderOf_inv ha hb).2 y).1 hy
    unfold hasAt at h1
    rw [hp] at h1
    refine Classical.byContradiction fun hh => ?_
    rw [find_none.2 hh] at h1
    cases h1
  unfold merged
  rw [← he]
  rw [show (fun i => (pickAt base a b i).1) = find l from funext hp]
  exact filterMap_find l hl
theorem has_all {base a b l : List Blk} (hp : ∀ i, (pickAt base a b i).1 = find l i) : (ids l).filter (hasAt base a b) = ids l := by
  rw [List.filter_eq_self]
  intro i hi
  unfold hasAt
  rw [hp]
  cases h : find l i with
  | none => exact absurd hi (find_none.1 h)
  | some x => rfl
theorem one_side1 {base a : List Blk} (ha : (ids a).Nodup) : merged base a a = a := by
  have hp : ∀ i, (pickAt base a a i).1 = find a i := fun i => pick_self _ _
  refine one_side ha ha ha hp ?_
  unfold orderOf
  rw [ite_self]
  have := (order_inv (hasAt base a a) (ids a) (ids a) ha ha).2.2
  rwa [has_all hp] at this
theorem one_side2 {base a : List Blk} (hb : (ids base).Nodup) (ha : (ids a).Nodup) : merged base base a = a := by
  have hp : ∀ i, (pickAt base base a i).1 = find a i := fun i => pick_stillA _ _ _ rfl
  refine one_side hb ha ha hp ?_
  unfold orderOf
  split
  · next h =>
    have := order_follow (hasAt base base a) (ids base) (ids a) hb ha h
    rwa [has_all hp] at this
  · have := (order_inv (hasAt base base a) (ids a) (ids base) ha hb).2.2
    rwa [has_all hp] at this
theorem one_side3 {base a : List Blk} (hb : (ids base).Nodup) (ha : (ids a).Nodup) : merged base a base = a := by
  have hp : ∀ i, (pickAt base a base i).1 = find a i := fun i => pick_stillB _ _ _ rfl
  refine one_side ha hb ha hp ?_
  have hk : Keeps (ids base) (ids base) := List.filter_sublist
  unfold orderOf
  rw [if_pos hk]
  have := (order_inv (hasAt base a base) (ids a) (ids base) ha hb).2.2
  rwa [has_all hp] at this
theorem one_side_conflict (x y : Option Blk) : (pick x y y).2 = false ∧ (pick x x y).2 = false ∧ (pick x y x).2 = false := by
  refine ⟨?_, ?_, ?_⟩ <;> (rw [Bool.eq_false_iff]; intro h; have := (pick_conflict _ _ _).1 h; simp at this)
end Go.Proofs.YtikpbknafhnieaaGreatDoor.Mg

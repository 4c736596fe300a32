/-
  WHAT IS PROVED HERE: the loop that asks whether a list has moved ids of a base, against Keeps; ascending lists of the same members are equal. No program, no condition.
-/
import Derived.Test.YtikpbknafhnieaaGreatDoorMrgLaws
namespace Go.Proofs.YtikpbknafhnieaaGreatDoor.Mg

theorem sorted_eq (key : Int → Int) (hk : ∀ x y, key x = key y → x = y) : ∀ (l r : List Int), l.Pairwise (fun x y => key x < key y) → r.Pairwise (fun x y => key x < key y) → (∀ y, y ∈ l ↔ y ∈ r) → l = r
  | [], [], _, _, _ => rfl
  | [], b :: r, _, _, h => absurd ((h b).2 List.mem_cons_self) (by simp)
  | a :: l, [], _, _, h => absurd ((h a).1 List.mem_cons_self) (by simp)
  | a :: l, b :: r, hl, hr, h => by
    obtain ⟨l1, l2⟩ := List.pairwise_cons.1 hl
    obtain ⟨r1, r2⟩ := List.pairwise_cons.1 hr
    have hab : a = b := by
      rcases List.mem_cons.1 ((h a).1 List.mem_cons_self) with e | e
      · exact e
      · rcases List.mem_cons.1 ((h b).2 List.mem_cons_self) with e2 | e2
        · exact e2.symm
        · have := r1 a e; have := l1 b e2; omega
    subst hab
    rw [sorted_eq key hk l r l2 r2 fun y => ?_]
    constructor
    · intro hy
      rcases List.mem_cons.1 ((h y).1 (List.mem_cons_of_mem _ hy)) with e | e
      · subst e; have := l1 y hy; omega
      · exact e
    · intro hy
      rcases List.mem_cons.1 ((h y).2 (List.mem_cons_of_mem _ hy)) with e | e
      · subst e; have := r1 y hy; omega
      · exact e

def movedL (base : List Int) : Int → List Int → Bool
  | _, [] => false
  | last, i :: r => if i ∈ base then (if (base.idxOf i : Int) < last then true else movedL base (base.idxOf i) r) else movedL base last r
theorem movedL_iff (base : List Int) : ∀ (l : List Int) (last : Int), movedL base last l = false ↔
    (l.filter (fun y => decide (y ∈ base))).Pairwise (fun x y => base.idxOf x ≤ base.idxOf y) ∧ ∀ y ∈ l.filter (fun y => decide (y ∈ base)), last ≤ (base.idxOf y : Int)
  | [], last => by simp [movedL]
  | i :: r, last => by
    unfold movedL
    by_cases hi : i ∈ base
    · rw [if_pos hi, List.filter_cons_of_pos (by simpa using hi), List.pairwise_cons]
      by_cases hlt : (base.idxOf i : Int) < last
      · rw [if_pos hlt]
        constructor
        · intro h; cases h
        · rintro ⟨_, h⟩
          have := h i List.mem_cons_self
          omega
      · rw [if_neg hlt, movedL_iff base r]
        constructor
        · rintro ⟨h1, h2⟩
          refine ⟨⟨fun y hy => by have := h2 y hy; omega, h1⟩, fun y hy => ?_⟩
          rcases List.mem_cons.1 hy with e | e
          · subst e; omega
          · have := h2 y e; omega
        · rintro ⟨⟨h1, h2⟩, _⟩
          exact ⟨h2, fun y hy => by have := h1 y hy; omega⟩
    · rw [if_neg hi, List.filter_cons_of_neg (by simpa using hi), movedL_iff base r]
theorem idx_inj {l : List Int} {x y : Int} (hx : x ∈ l) (hy : y ∈ l) (h : l.idxOf x = l.idxOf y) : x = y := by
  have h1 : l[l.idxOf x]'(List.idxOf_lt_length_of_mem hx) = x := List.getElem_idxOf _
  have h2 : l[l.idxOf y]'(List.idxOf_lt_length_of_mem hy) = y := List.getElem_idxOf _
  rw [← h1, ← h2]
  simp only [h]
theorem base_sorted {base : List Int} (hb : base.Nodup) : base.Pairwise (fun x y => base.idxOf x < base.idxOf y) := by
  rw [List.pairwise_iff_getElem]
  intro i j hi hj hij
  rw [hb.idxOf_getElem i hi, hb.idxOf_getElem j hj]
  exact hij
theorem sub_sorted {base f : List Int} (hb : base.Nodup) (hf : f.Nodup) (hm : ∀ y ∈ f, y ∈ base) : f.Pairwise (fun x y => base.idxOf x ≤ base.idxOf y) ↔ List.Sublist f base := by
  constructor
  · intro h
    have h1 : f.Pairwise (fun x y => base.idxOf x < base.idxOf y) := by
      refine ((h.and hf).imp_of_mem ?_)
      rintro x y hx hy ⟨a, b⟩
      have : base.idxOf x ≠ base.idxOf y := fun e => b (idx_inj (hm x hx) (hm y hy) e)
      omega
    have h2 : (base.filter fun y => decide (y ∈ f)).Pairwise (fun x y => base.idxOf x < base.idxOf y) := (base_sorted hb).filter _
    have key : ∀ (l r : List Int), (∀ y ∈ l, y ∈ base) → (∀ y ∈ r, y ∈ base) → l.Pairwise (fun x y => base.idxOf x < base.idxOf y) → r.Pairwise (fun x y => base.idxOf x < base.idxOf y) → (∀ y, y ∈ l ↔ y ∈ r) → l = r := by
      intro l
      induction l with
      | nil =>
        intro r _ _ _ _ h
        cases r with
        | nil => rfl
        | cons b r => exact absurd ((h b).2 List.mem_cons_self) (by simp)
      | cons a l ih =>
        intro r hl hr pl pr h
        cases r with
        | nil => exact absurd ((h a).1 List.mem_cons_self) (by simp)
        | cons b r =>
          obtain ⟨l1, l2⟩ := List.pairwise_cons.1 pl
          obtain ⟨r1, r2⟩ := List.pairwise_cons.1 pr
          have hab : a = b := by
            rcases List.mem_cons.1 ((h a).1 List.mem_cons_self) with e | e
            · exact e
            · rcases List.mem_cons.1 ((h b).2 List.mem_cons_self) with e2 | e2
              · exact e2.symm
              · have := r1 a e; have := l1 b e2; omega
          subst hab
          rw [ih r (fun y hy => hl y (List.mem_cons_of_mem _ hy)) (fun y hy => hr y (List.mem_cons_of_mem _ hy)) l2 r2 fun y => ?_]
          constructor
          · intro hy
            rcases List.mem_cons.1 ((h y).1 (List.mem_cons_of_mem _ hy)) with e | e
            · subst e; have := l1 y hy; omega
            · exact e
          · intro hy
            rcases List.mem_cons.1 ((h y).2 (List.mem_cons_of_mem _ hy)) with e | e
            · subst e; have := r1 y hy; omega
            · exact e
    have := key f (base.filter fun y => decide (y ∈ f)) hm (fun y hy => (List.mem_filter.1 hy).1) h1 h2 (fun y => by
      rw [List.mem_filter, decide_eq_true_eq]
      exact ⟨fun hy => ⟨hm y hy, hy⟩, fun hy => hy.2⟩)
    rw [this]
    exact List.filter_sublist
  · intro h
    exact ((base_sorted hb).sublist h).imp (fun hh => Nat.le_of_lt hh)
/-- the program's question, and the reference's -/
theorem movedL_keeps {base l : List Int} (hb : base.Nodup) (hl : l.Nodup) : movedL base (-1) l = false ↔ Keeps l base := by
  rw [movedL_iff]
  unfold Keeps
  rw [← sub_sorted hb (hl.filter _) (fun y hy => by simpa using (List.mem_filter.1 hy).2)]
  exact ⟨fun h => h.1, fun h => ⟨h, fun y _ => by omega⟩⟩
/-- the conflicts, ascending, out of any ascending list of ids that holds them -/
theorem conflicts_eq {s : List Int} (p : Int → Bool) (hs : s.Pairwise (fun x y => x < y)) (hr : ∀ y ∈ s, 1 ≤ y ∧ y ≤ 1000) (hp : ∀ y, p y = true → y ∈ s) :
    s.filter p = (((List.range 1000).map fun n : Nat => (n : Int) + 1)).filter p := by
  refine sorted_eq id (fun _ _ h => h) _ _ (hs.filter p) (List.Pairwise.filter p ?_) fun y => ?_
  · rw [List.pairwise_map]
    exact List.pairwise_lt_range.imp (fun h => by simp only [id]; omega)
  · rw [List.mem_filter, List.mem_filter, List.mem_map]
    constructor
    · rintro ⟨h1, h2⟩
      have := hr y h1
      exact ⟨⟨(y - 1).toNat, by rw [List.mem_range]; omega, by omega⟩, h2⟩
    · rintro ⟨_, h2⟩
      exact ⟨hp y h2, h2⟩
/-- how many blocks the contents have -/
theorem contents_count {base a b : List Blk} (ha : (ids a).Nodup) (hb : (ids b).Nodup) {s : List Int} (hs : s.Nodup) (hp : ∀ y, (y ∈ ids a ∨ y ∈ ids b) → y ∈ s) : (s.filter (hasAt base a b)).length = (merged base a b).length := by
  rw [merged_length ha hb]
  refine perm_length (hs.filter _) (orderOf_inv ha hb).1 fun y => ?_
  rw [List.mem_filter, (orderOf_inv ha hb).2]
  exact ⟨fun h => h.2, fun h => ⟨hp y (has_in h), h⟩⟩
theorem merged_mem {base a b : List Blk} {x : Blk} (h : x ∈ merged base a b) : x ∈ a ∨ x ∈ b := by
  unfold merged at h
  obtain ⟨i, _, hi⟩ := List.mem_filterMap.1 h
  exact (pickAt_id hi).2
end Go.Proofs.YtikpbknafhnieaaGreatDoor.Mg

/-
  WHAT IS PROVED HERE: plain facts for the merge laws' walks. No program, no condition.
-/
import Derived.Test.YtikpbknafhnieaaGreatDoorShort
namespace Go.Proofs.YtikpbknafhnieaaGreatDoor
open Go.RowKit Mg Go.Shelf

theorem mergeF_cases (X Y Z : List Blk) : (ValidL X ∧ ValidL Y ∧ ValidL Z ∧ (merged X Y Z).length ≤ 24 ∧ mergeF X Y Z = (merged X Y Z, confs X Y Z, 0)) ∨ mergeF X Y Z = ([], [], 40) := by
  by_cases hv : ValidL X ∧ ValidL Y ∧ ValidL Z
  · by_cases hn : (merged X Y Z).length ≤ 24
    · exact .inl ⟨hv.1, hv.2.1, hv.2.2, hn, mergeF_yes hv hn⟩
    · exact .inr (mergeF_long hn)
  · exact .inr (mergeF_bad hv)
theorem BlksM.ok {mem : Addr → Option Value} {v : Value} {l : List Blk} (h : BlksM mem v l) : ∀ x ∈ l, x.text.size ≤ maxLen ∧ okI x.kind ∧ okI x.id := fun x hx => by
  obtain ⟨_, _, _, _, _, _, _, _, hb⟩ := h.open_
  obtain ⟨j, hj, rfl⟩ := List.getElem_of_mem hx
  exact (hb j hj).2.2.1
theorem merged_ok {mem : Addr → Option Value} {v u : Value} {X Y Z : List Blk} (h2 : BlksM mem v Y) (h3 : BlksM mem u Z) : ∀ x ∈ merged X Y Z, x.text.size ≤ maxLen ∧ okI x.kind ∧ okI x.id := fun x hx =>
  (merged_mem hx).elim (h2.ok x) (h3.ok x)
/-- the law of the order, as its four questions answer -/
theorem law_keeps {X Y Z : List Blk} (p1 : ValidL X) (p2 : ValidL Y) (p3 : ValidL Z) :
    (movedL (ids Z) (-1) (ids Y) = false → movedL (ids (merged X Y Z)) (-1) (ids Y) = false ∧ movedL (ids (merged X Y Z)) (-1) (ids Z) = false) ∧
    (movedL (ids X) (-1) (ids Z) = false → movedL (ids (merged X Y Z)) (-1) (ids Y) = false) ∧ (movedL (ids X) (-1) (ids Z) = true → movedL (ids (merged X Y Z)) (-1) (ids Z) = false) := by
  have hy := p2.2.2
  have hz := p3.2.2
  have hx := p1.2.2
  have ho := (orderOf_inv (base := X) hy hz).1
  have hl := keeps_lead (base := X) hy hz
  rw [merged_ids hy hz, movedL_keeps hz hy, movedL_keeps ho hy, movedL_keeps ho hz, movedL_keeps hx hz]
  refine ⟨fun h => keeps_both hy hz h, fun h => by rwa [if_pos h] at hl, fun h => ?_⟩
  rwa [if_neg (fun k => by rw [(movedL_keeps hx hz).2 k] at h; cases h)] at hl
theorem allIn_of {a b : List Blk} (h : ∀ i, find a i = find b i) : allIn a b = true := allIn_iff.2 (fun x _ => h x.id)
theorem mergeF_zero {X Y Z : List Blk} (h : (mergeF X Y Z).2.2 = 0) : mergeF X Y Z = (merged X Y Z, confs X Y Z, 0) := by
  rcases mergeF_cases X Y Z with ⟨_, _, _, _, hm⟩ | hm
  · exact hm
  · rw [hm] at h; cases h
theorem law_again {X Y Z : List Blk} (hm : mergeF X Y Z = (merged X Y Z, confs X Y Z, 0)) :
    mergeF X Y (merged X Y Z) = (merged X Y (merged X Y Z), confs X Y (merged X Y Z), 0) ∧ mergeF X Z (merged X Y Z) = (merged X Z (merged X Y Z), confs X Z (merged X Y Z), 0) ∧
    (allIn (merged X Y Z) (merged X Y (merged X Y Z)) && allIn (merged X Y (merged X Y Z)) (merged X Y Z)) = true ∧ (allIn (merged X Y Z) (merged X Z (merged X Y Z)) && allIn (merged X Z (merged X Y Z)) (merged X Y Z)) = true := by
  have h0 : (mergeF X Y Z).2.2 = 0 := by rw [hm]
  obtain ⟨g1, g2⟩ := mergeF_again h0
  obtain ⟨p1, p2, p3, _⟩ := mergeF_ok h0
  have q1 := fun i => again_a (base := X) p2.2.2 p3.2.2 i
  have q2 := fun i => again_b (base := X) p2.2.2 p3.2.2 i
  refine ⟨mergeF_zero g1, mergeF_zero g2, ?_, ?_⟩
  · rw [allIn_of (fun i => (q1 i).symm), allIn_of q1]; rfl
  · rw [allIn_of (fun i => (q2 i).symm), allIn_of q2]; rfl
theorem law_exchanged {X Y Z : List Blk} {L L' : List Blk} {C C' : List Int} {E E' : Int} (h : mergeF X Y Z = (L, C, E)) (h' : mergeF X Z Y = (L', C', E')) :
    E' = E ∧ C' = C ∧ (C = [] → (allIn L L' && allIn L' L) = true) := by
  obtain ⟨g1, g2, g3⟩ := mergeF_swap X Y Z
  rw [h, h'] at g1 g2 g3
  refine ⟨g1.symm, g2.symm, fun e => ?_⟩
  have := g3 e
  rw [allIn_of this, allIn_of (fun i => (this i).symm)]; rfl
theorem mergeF_blks {mem : Addr → Option Value} {v u : Value} {X Y Z L : List Blk} {C : List Int} {E : Int} (h2 : BlksM mem v Y) (h3 : BlksM mem u Z) (h : mergeF X Y Z = (L, C, E)) : ∀ x ∈ L, x.text.size ≤ maxLen ∧ okI x.kind ∧ okI x.id := by
  rcases mergeF_cases X Y Z with ⟨_, _, _, _, hm⟩ | hm
  · rw [hm] at h; injection h with h _; subst h; exact merged_ok h2 h3
  · rw [hm] at h; injection h with h _; subst h; exact fun x hx => by cases hx
theorem law_contents {X Y Z : List Blk} (p2 : ValidL Y) (p3 : ValidL Z) (i : Int) :
    (find (merged X Y Z) i = find Y i ∨ find (merged X Y Z) i = find Z i) ∧ (find X i = find Y i → find (merged X Y Z) i = find Z i) ∧ (find X i = find Z i → find (merged X Y Z) i = find Y i) := by
  rw [find_merged p2.2.2 p3.2.2]
  unfold pickAt
  exact ⟨pick_cases _ _ _, fun h => pick_stillA _ _ _ h, fun h => pick_stillB _ _ _ h⟩
end Go.Proofs.YtikpbknafhnieaaGreatDoor

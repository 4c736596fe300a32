/-
  WHAT IS PROVED HERE: the reference's way to the order of a merged list gives the same order; plain. No program, no condition.
-/
import Derived.Test.YtikpbknafhnieaaGreatDoorMrgValid
namespace Go.Proofs.YtikpbknafhnieaaGreatDoor.Mg

/-- the first place of x, or -1 -/
def placeI (l : List Int) (x : Int) : Int := if x ∈ l then (l.idxOf x : Nat) else -1
/-- one id of the following list, as the reference takes it: what stands, and the nearest id before -/
def refStep (has : Int → Bool) (lead : List Int) (st : List Int × Int) (i : Int) : List Int × Int :=
  (if has i = true ∧ i ∉ lead then insAt st.1 (placeI st.1 st.2 + 1).toNat i else st.1, if has i = true then i else st.2)
theorem idx_insAt {l : List Int} {k : Nat} {x : Int} (hx : x ∉ l) (hk : k ≤ l.length) : (insAt l k x).idxOf x = k := by
  unfold insAt
  rw [List.idxOf_append, if_neg (fun h => hx (List.mem_of_mem_take h)), List.idxOf_cons_self, List.length_take]
  omega
theorem placeI_mem {l : List Int} {x : Int} (h : x ∈ l) : placeI l x = (l.idxOf x : Nat) := by unfold placeI; rw [if_pos h]
theorem placeI_not {l : List Int} {x : Int} (h : x ∉ l) : placeI l x = -1 := by unfold placeI; rw [if_neg h]
/-- both ways stand alike -/
theorem ref_fold {has : Int → Bool} {lead : List Int} (hl : lead.Nodup) : ∀ (r p : List Int) (st : List Int × Nat) (rt : List Int × Int), (p ++ r).Nodup → (∀ i ∈ p ++ r, 1 ≤ i) → Inv has lead p st → rt.1 = st.1 → (rt.2 = -1 ∧ st.2 = 0 ∧ (-1 : Int) ∉ st.1 ∨ rt.2 ∈ st.1 ∧ st.2 = st.1.idxOf rt.2 + 1) → (∀ i ∈ lead, 1 ≤ i) →
    (r.foldl (refStep has lead) rt).1 = (r.foldl (step has lead) st).1
  | [], _, _, _, _, _, _, h, _, _ => h
  | i :: r, p, st, rt, hn, h1, hI, he, hp, hlead => by
    have hip : i ∉ p := fun h => by
      have := (List.nodup_append.1 hn).2.2 i h i List.mem_cons_self
      exact this rfl
    have hI2 := inv_step hI i hip
    have hpl : (placeI rt.1 rt.2 + 1).toNat = st.2 := by
      rw [he]
      rcases hp with ⟨a, b, c⟩ | ⟨a, b⟩
      · rw [a, placeI_not c, b]; rfl
      · rw [placeI_mem a, b]; omega
    have hi1 : 1 ≤ i := h1 i (List.mem_append_right _ List.mem_cons_self)
    have hnext : (r.foldl (refStep has lead) (refStep has lead rt i)).1 = (r.foldl (step has lead) (step has lead st i)).1 := by
      refine ref_fold hl r (p ++ [i]) _ _ (by rwa [List.append_assoc]) (by rwa [List.append_assoc]) hI2 ?_ ?_ hlead
      · have hpl' : (placeI st.1 rt.2 + 1).toNat = st.2 := by rw [← he]; exact hpl
        by_cases hh : has i = true
        · by_cases hm : i ∈ lead
          · simp [refStep, step, hh, hm, he]
          · simp [refStep, step, hh, hm, he, hpl']
        · simp [refStep, step, hh, he]
      · unfold refStep step
        by_cases hh : has i = true
        · rw [if_pos hh, if_pos hh]
          by_cases hm : i ∈ lead
          · rw [if_pos hm]
            exact .inr ⟨(hI.mem i).2 ⟨hh, .inl hm⟩, rfl⟩
          · rw [if_neg hm]
            have hx : i ∉ st.1 := fun h => by
              rcases ((hI.mem i).1 h).2 with h2 | h2
              · exact hm h2
              · exact hip h2
            exact .inr ⟨insAt_mem.2 (.inl rfl), by rw [idx_insAt hx hI.le]⟩
        · rw [if_neg hh, if_neg hh]; exact hp
    exact hnext
theorem ref_order {has : Int → Bool} {lead foll : List Int} (hl : lead.Nodup) (hf : foll.Nodup) (h1 : ∀ i ∈ lead, 1 ≤ i) (h2 : ∀ i ∈ foll, 1 ≤ i) :
    (foll.foldl (refStep has lead) (lead.filter has, -1)).1 = orderF has lead foll :=
  ref_fold hl foll [] _ _ hf h2 (inv_start has lead hl) rfl (.inl ⟨rfl, rfl, fun h => by have := h1 _ (List.mem_filter.1 h).1; omega⟩) h1
end Go.Proofs.YtikpbknafhnieaaGreatDoor.Mg

/-
  WHAT IS PROVED HERE: plain facts on the order of a merged list: which ids it has, once each, and whose order it keeps. No program, no condition.
-/
namespace Go.Proofs.YtikpbknafhnieaaGreatDoor.Mg

def insAt (l : List Int) (k : Nat) (x : Int) : List Int := l.take k ++ x :: l.drop k
/-- one id of the following list: what stands, and where the next one goes -/
def step (has : Int → Bool) (lead : List Int) (st : List Int × Nat) (id : Int) : List Int × Nat :=
  if has id then (if id ∈ lead then (st.1, st.1.idxOf id + 1) else (insAt st.1 st.2 id, st.2 + 1)) else st
def orderF (has : Int → Bool) (lead follow : List Int) : List Int := (follow.foldl (step has lead) (lead.filter has, 0)).1

theorem insAt_mem {l : List Int} {k : Nat} {x y : Int} : y ∈ insAt l k x ↔ y = x ∨ y ∈ l := by
  unfold insAt
  have h : y ∈ l ↔ y ∈ l.take k ∨ y ∈ l.drop k := by rw [← List.mem_append, List.take_append_drop]
  rw [List.mem_append, List.mem_cons, h]
  constructor
  · rintro (h | h | h)
    · exact .inr (.inl h)
    · exact .inl h
    · exact .inr (.inr h)
  · rintro (h | h | h)
    · exact .inr (.inl h)
    · exact .inl h
    · exact .inr (.inr h)
theorem insAt_sub (l : List Int) (k : Nat) (x : Int) : List.Sublist l (insAt l k x) := by
  have h : List.Sublist (l.take k ++ l.drop k) (l.take k ++ x :: l.drop k) := (List.Sublist.refl _).append (List.sublist_cons_self _ _)
  rwa [List.take_append_drop] at h
theorem insAt_nodup {l : List Int} {k : Nat} {x : Int} (h : l.Nodup) (hx : x ∉ l) : (insAt l k x).Nodup := by
  have hp : List.Perm (insAt l k x) (x :: l) := by
    unfold insAt
    have := (List.perm_middle (a := x) (l₁ := l.take k) (l₂ := l.drop k))
    rwa [List.take_append_drop] at this
  rw [hp.nodup_iff]
  exact List.nodup_cons.2 ⟨hx, h⟩
theorem insAt_take (l : List Int) (k : Nat) (x : Int) (hk : k ≤ l.length) : (insAt l k x).take (k + 1) = l.take k ++ [x] := by
  unfold insAt
  have hl : (l.take k).length = k := by simp; omega
  rw [List.take_append, List.take_of_length_le (by omega), hl, show k + 1 - k = 1 by omega]
  rfl
theorem insAt_length (l : List Int) (k : Nat) (x : Int) : (insAt l k x).length = l.length + 1 := by
  unfold insAt; simp; omega

/-- what stands behind some of the following list -/
structure Inv (has : Int → Bool) (lead p : List Int) (st : List Int × Nat) : Prop where
  nodup : st.1.Nodup
  mem : ∀ y, y ∈ st.1 ↔ has y = true ∧ (y ∈ lead ∨ y ∈ p)
  lead : List.Sublist (lead.filter has) st.1
  le : st.2 ≤ st.1.length
theorem inv_start (has : Int → Bool) (lead : List Int) (h : lead.Nodup) : Inv has lead [] (lead.filter has, 0) :=
  ⟨h.filter _, fun y => by simp [and_comm], List.Sublist.refl _, Nat.zero_le _⟩
theorem inv_step {has : Int → Bool} {lead p : List Int} {st : List Int × Nat} (h : Inv has lead p st) (id : Int) (hp : id ∉ p) : Inv has lead (p ++ [id]) (step has lead st id) := by
  unfold step
  by_cases h1 : has id = true
  · rw [if_pos h1]
    by_cases h2 : id ∈ lead
    · rw [if_pos h2]
      have hm : id ∈ st.1 := (h.mem id).2 ⟨h1, .inl h2⟩
      refine ⟨h.nodup, fun y => ?_, h.lead, ?_⟩
      · rw [h.mem, List.mem_append, List.mem_singleton]
        constructor
        · rintro ⟨a, b | b⟩
          · exact ⟨a, .inl b⟩
          · exact ⟨a, .inr (.inl b)⟩
        · rintro ⟨a, b | b | b⟩
          · exact ⟨a, .inl b⟩
          · exact ⟨a, .inr b⟩
          · exact ⟨a, .inl (b ▸ h2)⟩
      · exact List.idxOf_lt_length_of_mem hm
    · rw [if_neg h2]
      have hm : id ∉ st.1 := fun hh => by
        rcases ((h.mem id).1 hh).2 with b | b
        · exact h2 b
        · exact hp b
      refine ⟨insAt_nodup h.nodup hm, fun y => ?_, h.lead.trans (insAt_sub _ _ _), ?_⟩
      · rw [insAt_mem, h.mem, List.mem_append, List.mem_singleton]
        constructor
        · rintro (b | ⟨a, b | b⟩)
          · exact ⟨b ▸ h1, .inr (.inr b)⟩
          · exact ⟨a, .inl b⟩
          · exact ⟨a, .inr (.inl b)⟩
        · rintro ⟨a, b | b | b⟩
          · exact .inr ⟨a, .inl b⟩
          · exact .inr ⟨a, .inr b⟩
          · exact .inl b
      · rw [insAt_length]; have := h.le; omega
  · rw [if_neg h1]
    refine ⟨h.nodup, fun y => ?_, h.lead, h.le⟩
    rw [h.mem, List.mem_append, List.mem_singleton]
    constructor
    · rintro ⟨a, b | b⟩
      · exact ⟨a, .inl b⟩
      · exact ⟨a, .inr (.inl b)⟩
    · rintro ⟨a, b | b | b⟩
      · exact ⟨a, .inl b⟩
      · exact ⟨a, .inr b⟩
      · exact absurd (b ▸ a) h1
theorem inv_fold (has : Int → Bool) (lead : List Int) : ∀ (r p : List Int) (st : List Int × Nat), Inv has lead p st → (p ++ r).Nodup → Inv has lead (p ++ r) (r.foldl (step has lead) st)
  | [], p, st, h, _ => by simpa using h
  | id :: r, p, st, h, hn => by
    have hp : id ∉ p := fun hh => (List.nodup_append.1 hn).2.2 _ hh id List.mem_cons_self rfl
    have := inv_fold has lead r (p ++ [id]) _ (inv_step h id hp) (by simpa using hn)
    simpa using this
/-- the order's ids: each id that has a block, once; and it keeps the leading list's order -/
theorem order_inv (has : Int → Bool) (lead follow : List Int) (hl : lead.Nodup) (hf : follow.Nodup) :
    (orderF has lead follow).Nodup ∧ (∀ y, y ∈ orderF has lead follow ↔ has y = true ∧ (y ∈ lead ∨ y ∈ follow)) ∧ List.Sublist (lead.filter has) (orderF has lead follow) := by
  have h := inv_fold has lead follow [] (lead.filter has, 0) (inv_start has lead hl) (by simpa using hf)
  rw [List.nil_append] at h
  exact ⟨h.nodup, h.mem, h.lead⟩
theorem not_in_take {l : List Int} {a b : Int} (hn : l.Nodup) (h : List.Sublist [a, b] l) : b ∉ l.take (l.idxOf a + 1) := by
  induction l with
  | nil => cases h
  | cons x l ih =>
    obtain ⟨hx, hn⟩ := List.nodup_cons.1 hn
    by_cases hxa : x = a
    · subst hxa
      have hi : (x :: l).idxOf x = 0 := by simp
      rw [hi]
      have hb : b ∈ l := by
        cases h with
        | cons _ h => exact absurd (h.subset List.mem_cons_self) hx
        | cons_cons _ h => exact h.subset List.mem_cons_self
      intro hh
      simp at hh
      exact hx (hh ▸ hb)
    · have h2 : List.Sublist [a, b] l := by
        cases h with
        | cons _ h => exact h
        | cons_cons _ h => exact absurd rfl hxa
      have hi : (x :: l).idxOf a = l.idxOf a + 1 := by
        rw [List.idxOf_cons]
        have : (x == a) = false := by simpa using hxa
        rw [this]; rfl
      rw [hi, List.take_succ_cons]
      intro hh
      rcases List.mem_cons.1 hh with e | e
      · subst e
        exact hx (h2.subset (by simp))
      · exact ih hn h2 e
/-- how far the following list's order is kept -/
structure Kept (has : Int → Bool) (lead p r : List Int) (st : List Int × Nat) : Prop where
  sub : List.Sublist (p.filter has) (st.1.take st.2)
  far : ∀ y, y ∈ r → y ∈ lead → y ∉ st.1.take st.2
theorem kept_step {has : Int → Bool} {lead p r : List Int} {st : List Int × Nat} {id : Int} (h : Inv has lead p st) (k : Kept has lead p (id :: r) st) (hr : (id :: r).Nodup) (hs : List.Sublist ((id :: r).filter (fun y => decide (y ∈ lead))) lead) :
    Kept has lead (p ++ [id]) r (step has lead st id) := by
  obtain ⟨hir, _⟩ := List.nodup_cons.1 hr
  unfold step
  by_cases h1 : has id = true
  · rw [if_pos h1]
    have hpf : (p ++ [id]).filter has = p.filter has ++ [id] := by rw [List.filter_append]; simp [h1]
    by_cases h2 : id ∈ lead
    · rw [if_pos h2]
      have hm : id ∈ st.1 := (h.mem id).2 ⟨h1, .inl h2⟩
      have hlt := List.idxOf_lt_length_of_mem hm
      have hfar := k.far id List.mem_cons_self h2
      have hle : st.2 ≤ st.1.idxOf id := by
        rcases Nat.lt_or_ge (st.1.idxOf id) st.2 with hh | hh
        · refine absurd ?_ hfar
          rw [List.mem_take_iff_getElem]
          exact ⟨st.1.idxOf id, by omega, by simp⟩
        · exact hh
      have htk : st.1.take (st.1.idxOf id + 1) = st.1.take (st.1.idxOf id) ++ [id] := by
        rw [List.take_succ_eq_append_getElem hlt, List.getElem_idxOf]
      refine ⟨?_, fun y hy hyl => ?_⟩
      · show List.Sublist _ (st.1.take (st.1.idxOf id + 1))
        rw [hpf, htk]
        refine (k.sub.trans ?_).append (List.Sublist.refl _)
        have : st.1.take st.2 = (st.1.take (st.1.idxOf id)).take st.2 := by rw [List.take_take, Nat.min_eq_left hle]
        rw [this]
        exact List.take_sublist _ _
      · show y ∉ st.1.take (st.1.idxOf id + 1)
        by_cases hy1 : has y = true
        · refine not_in_take h.nodup ?_
          have hs1 : List.Sublist [id, y] ((id :: r).filter (fun y => decide (y ∈ lead))) := by
            rw [List.filter_cons_of_pos (by simpa using h2)]
            exact List.Sublist.cons_cons _ (List.singleton_sublist.2 (List.mem_filter.2 ⟨hy, by simpa using hyl⟩))
          have hs2 := (hs1.trans hs).filter has
          rw [List.filter_cons_of_pos h1, List.filter_cons_of_pos hy1] at hs2
          exact hs2.trans h.lead
        · intro hh
          exact hy1 ((h.mem y).1 (List.mem_of_mem_take hh)).1
    · rw [if_neg h2]
      refine ⟨?_, fun y hy hyl => ?_⟩
      · show List.Sublist _ ((insAt st.1 st.2 id).take (st.2 + 1))
        rw [hpf, insAt_take _ _ _ h.le]
        exact k.sub.append (List.Sublist.refl _)
      · show y ∉ (insAt st.1 st.2 id).take (st.2 + 1)
        rw [insAt_take _ _ _ h.le, List.mem_append, List.mem_singleton]
        rintro (hh | hh)
        · exact k.far y (List.mem_cons_of_mem _ hy) hyl hh
        · exact h2 (hh ▸ hyl)
  · rw [if_neg h1]
    refine ⟨?_, fun y hy hyl => k.far y (List.mem_cons_of_mem _ hy) hyl⟩
    rw [List.filter_append, List.filter_cons_of_neg h1, List.filter_nil, List.append_nil]
    exact k.sub
theorem kept_fold (has : Int → Bool) (lead : List Int) : ∀ (r p : List Int) (st : List Int × Nat), Inv has lead p st → Kept has lead p r st → (p ++ r).Nodup → List.Sublist (r.filter (fun y => decide (y ∈ lead))) lead →
    Kept has lead (p ++ r) [] (r.foldl (step has lead) st)
  | [], p, st, _, k, _, _ => by simpa using k
  | id :: r, p, st, h, k, hn, hs => by
    have hr := (List.nodup_append.1 hn).2.1
    have hp : id ∉ p := fun hh => (List.nodup_append.1 hn).2.2 _ hh id List.mem_cons_self rfl
    have := kept_fold has lead r (p ++ [id]) _ (inv_step h id hp) (kept_step h k hr hs) (by simpa using hn) (((List.sublist_cons_self id r).filter _).trans hs)
    simpa using this
/-- where the two lists do not contradict each other, the following list's order is kept too -/
theorem order_follow (has : Int → Bool) (lead follow : List Int) (hl : lead.Nodup) (hf : follow.Nodup) (hs : List.Sublist (follow.filter (fun y => decide (y ∈ lead))) lead) :
    List.Sublist (follow.filter has) (orderF has lead follow) := by
  have h := kept_fold has lead follow [] (lead.filter has, 0) (inv_start has lead hl) ⟨by simp, by simp⟩ (by simpa using hf) hs
  rw [List.nil_append] at h
  exact h.sub.trans (List.take_sublist _ _)
end Go.Proofs.YtikpbknafhnieaaGreatDoor.Mg

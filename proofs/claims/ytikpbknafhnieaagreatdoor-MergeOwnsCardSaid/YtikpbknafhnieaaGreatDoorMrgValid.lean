/-
  WHAT IS PROVED HERE: when a list of blocks is valid; the merged list of valid lists, if it is not too long, is valid. No program, no condition.
-/
import Derived.Test.YtikpbknafhnieaaGreatDoorMrgMoved
namespace Go.Proofs.YtikpbknafhnieaaGreatDoor.Mg

def afterOK : Int → List Int → Bool
  | _, [] => true
  | last, s :: r => decide (last + 1 ≤ s) && decide (s ≤ 64) && afterOK s r
def validLab (l : Lab) : Bool := decide (0 ≤ l.till) && decide (l.till ≤ 1000000000) && decide (0 ≤ l.appr) && decide (l.appr ≤ 5) && decide (0 ≤ l.denied) && decide (l.denied ≤ 15) && afterOK 0 l.after
def textOK (s : ByteArray) : Bool := decide (s.size ≤ 300) && s.data.toList.all fun c => decide (32 ≤ c.toNat) && decide (c.toNat ≤ 126)
def nameByte (c : UInt8) : Bool := (decide (97 ≤ c.toNat) && decide (c.toNat ≤ 122)) || (decide (48 ≤ c.toNat) && decide (c.toNat ≤ 57)) || decide (c.toNat = 45)
def nameOK (s : ByteArray) : Bool := decide (1 ≤ s.size) && decide (s.size ≤ 20) && s.data.toList.all nameByte
/-- the text and the quotation, by kind -/
def kindOK (b : Blk) : Bool :=
  if b.kind = 1 ∨ b.kind = 2 ∨ b.kind = 4 then decide (1 ≤ b.text.size) && textOK b.text && decide (b.story = 0) && decide (b.ref = 0)
  else if b.kind = 5 then nameOK b.text && decide (b.story = 0) && decide (b.ref = 0)
  else if b.kind = 3 then textOK b.text && decide (1 ≤ b.story) && decide (b.story ≤ 64) && decide (1 ≤ b.ref) && decide (b.ref ≤ 1000)
  else false
def validBlk (b : Blk) : Bool := decide (1 ≤ b.id) && decide (b.id ≤ 1000) && validLab b.lab && kindOK b
def ValidL (l : List Blk) : Prop := l.length ≤ 24 ∧ (∀ b ∈ l, validBlk b = true) ∧ (ids l).Nodup
instance (l : List Blk) : Decidable (ValidL l) := by unfold ValidL; infer_instance
theorem ValidL.range {l : List Blk} (h : ValidL l) : ∀ i ∈ ids l, 1 ≤ i ∧ i ≤ 1000 := by
  intro i hi
  obtain ⟨b, hb, rfl⟩ := List.mem_map.1 hi
  have := h.2.1 b hb
  unfold validBlk at this
  simp only [Bool.and_eq_true, decide_eq_true_eq] at this
  omega
/-- a valid list stays valid as far as its loops have come -/
theorem valid_take {l : List Blk} (k : Nat) (hk : k < l.length) : ((∀ b ∈ l.take (k + 1), validBlk b = true) ∧ (ids (l.take (k + 1))).Nodup) ↔ ((∀ b ∈ l.take k, validBlk b = true) ∧ (ids (l.take k)).Nodup) ∧ validBlk l[k] = true ∧ l[k].id ∉ ids (l.take k) := by
  rw [List.take_succ_eq_append_getElem hk]
  unfold ids
  rw [List.map_append, List.nodup_append]
  constructor
  · rintro ⟨h1, h2, _, h3⟩
    exact ⟨⟨fun b hb => h1 b (List.mem_append_left _ hb), h2⟩, h1 _ (List.mem_append_right _ (List.mem_singleton.2 rfl)), fun hh => h3 _ hh _ (by simp) rfl⟩
  · rintro ⟨⟨h1, h2⟩, h3, h4⟩
    refine ⟨fun b hb => ?_, h2, by simp, fun x hx y hy e => ?_⟩
    · rcases List.mem_append.1 hb with hb | hb
      · exact h1 b hb
      · simp at hb; rw [hb]; exact h3
    · simp at hy
      subst hy
      exact h4 (e ▸ hx)
theorem merged_valid {base a b : List Blk} (ha : ValidL a) (hb : ValidL b) (hn : (merged base a b).length ≤ 24) : ValidL (merged base a b) :=
  ⟨hn, fun x hx => (merged_mem hx).elim (ha.2.1 x) (hb.2.1 x), merged_nodup ha.2.2 hb.2.2⟩
def confs (base a b : List Blk) : List Int := ((List.range 1000).map fun n : Nat => (n : Int) + 1).filter (fun i => (pickAt base a b i).2)
theorem mem_confs {base a b : List Blk} {i : Int} (h1 : 1 ≤ i ∧ i ≤ 1000) (h : (pickAt base a b i).2 = true) : i ∈ confs base a b := by
  unfold confs
  rw [List.mem_filter, List.mem_map]
  exact ⟨⟨(i - 1).toNat, by rw [List.mem_range]; omega, by omega⟩, h⟩
theorem confs_swap (base a b : List Blk) : confs base a b = confs base b a := by unfold confs; exact List.filter_congr fun i _ => pick_swap_conflict _ _ _
/-- what Merge gives: the blocks, the conflicts, the error -/
def mergeF (base a b : List Blk) : List Blk × List Int × Int :=
  if ValidL base ∧ ValidL a ∧ ValidL b then
    if (merged base a b).length ≤ 24 then (merged base a b, confs base a b, 0)
    else ([], [], 40)
  else ([], [], 40)
theorem mergeF_yes {base a b : List Blk} (h : ValidL base ∧ ValidL a ∧ ValidL b) (hn : (merged base a b).length ≤ 24) : mergeF base a b = (merged base a b, confs base a b, 0) := by unfold mergeF; rw [if_pos h, if_pos hn]
theorem mergeF_long {base a b : List Blk} (hn : ¬ (merged base a b).length ≤ 24) : mergeF base a b = ([], [], 40) := by
  unfold mergeF
  split
  · first | rw [if_neg hn] | rfl
  · rfl
theorem mergeF_bad {base a b : List Blk} (h : ¬ (ValidL base ∧ ValidL a ∧ ValidL b)) : mergeF base a b = ([], [], 40) := by unfold mergeF; rw [if_neg h]
theorem mergeF_ok {base a b : List Blk} (h : (mergeF base a b).2.2 = 0) : ValidL base ∧ ValidL a ∧ ValidL b ∧ ValidL (merged base a b) ∧ (mergeF base a b).1 = merged base a b := by
  unfold mergeF at h ⊢
  split at h
  · next hv =>
    split at h
    · next hn =>
      rw [if_pos hv, if_pos hn]
      exact ⟨hv.1, hv.2.1, hv.2.2, merged_valid hv.2.1 hv.2.2 hn, rfl⟩
    · cases h
  · cases h
theorem conflict_in {base a b : List Blk} {i : Int} (h : (pickAt base a b i).2 = true) : i ∈ ids base ∨ i ∈ ids a ∨ i ∈ ids b := by
  obtain ⟨h1, h2, h3⟩ := (pick_conflict _ _ _).1 h
  refine Classical.byContradiction fun hh => ?_
  have e1 : find a i = none := find_none.2 (fun e => hh (.inr (.inl e)))
  have e2 : find b i = none := find_none.2 (fun e => hh (.inr (.inr e)))
  exact h3 (e1.trans e2.symm)
/-- once more with one side: it succeeds, with the same blocks -/
theorem mergeF_again {base a b : List Blk} (h : (mergeF base a b).2.2 = 0) : (mergeF base a (merged base a b)).2.2 = 0 ∧ (mergeF base b (merged base a b)).2.2 = 0 := by
  obtain ⟨h1, h2, h3, h4, _⟩ := mergeF_ok h
  have l1 := find_ext (merged_nodup (base := base) h2.2.2 h4.2.2) h4.2.2 (again_a (base := base) h2.2.2 h3.2.2)
  have l2 := find_ext (merged_nodup (base := base) h3.2.2 h4.2.2) h4.2.2 (again_b (base := base) h2.2.2 h3.2.2)
  have h5 := h4.1
  rw [mergeF_yes ⟨h1, h2, h4⟩ (by omega), mergeF_yes ⟨h1, h3, h4⟩ (by omega)]
  exact ⟨rfl, rfl⟩
/-- the two sides exchanged: the same conflicts and the same error; without conflicts the same blocks -/
theorem mergeF_swap (base a b : List Blk) : (mergeF base a b).2.2 = (mergeF base b a).2.2 ∧ (mergeF base a b).2.1 = (mergeF base b a).2.1 ∧
    ((mergeF base a b).2.1 = [] → ∀ i, find (mergeF base a b).1 i = find (mergeF base b a).1 i) := by
  by_cases hv : ValidL base ∧ ValidL a ∧ ValidL b
  · have ha := hv.2.1.2.2
    have hb := hv.2.2.2.2
    have hl : (merged base a b).length = (merged base b a).length := by
      rw [merged_length ha hb, merged_length hb ha]
      refine perm_length (orderOf_inv ha hb).1 (orderOf_inv hb ha).1 fun y => ?_
      rw [(orderOf_inv ha hb).2, (orderOf_inv hb ha).2]
      unfold hasAt pickAt
      by_cases hc : (pick (find base y) (find a y) (find b y)).2 = true
      · have hc2 := hc
        rw [pick_swap_conflict] at hc2
        have h3 := ((pick_conflict _ _ _).1 hc).2.2
        rw [pick_taken _ _ _ hc, pick_taken _ _ _ hc2]
        generalize find a y = p at *
        generalize find b y = q at *
        cases p <;> cases q
        · exact absurd rfl h3
        all_goals simp
      · rw [pick_swap _ _ _ (by simpa using hc)]
    have hcf := confs_swap base a b
    have hcm : ∀ i, (1 ≤ i ∧ i ≤ 1000) → (pickAt base a b i).2 = true → i ∈ confs base a b := fun i h1 h2 => mem_confs h1 h2
    by_cases hn : (merged base a b).length ≤ 24
    · rw [mergeF_yes hv hn, mergeF_yes ⟨hv.1, hv.2.2, hv.2.1⟩ (by omega), ← hcf]
      generalize confs base a b = C at hcm
      show (0 : Int) = 0 ∧ C = C ∧ (C = [] → ∀ i, find (merged base a b) i = find (merged base b a) i)
      refine ⟨rfl, rfl, fun he i => ?_⟩
      refine exchanged ha hb i ?_
      rw [Bool.eq_false_iff]
      intro hc
      have hr : 1 ≤ i ∧ i ≤ 1000 := by
        rcases conflict_in hc with e | e | e
        · exact hv.1.range i e
        · exact hv.2.1.range i e
        · exact hv.2.2.range i e
      have h5 := hcm i hr hc
      rw [he] at h5
      exact absurd h5 List.not_mem_nil
    · rw [mergeF_long hn, mergeF_long (by omega)]
      exact ⟨rfl, rfl, fun _ _ => rfl⟩
  · rw [mergeF_bad hv, mergeF_bad (fun h => hv ⟨h.1, h.2.2, h.2.1⟩)]
    exact ⟨rfl, rfl, fun _ _ => rfl⟩
end Go.Proofs.YtikpbknafhnieaaGreatDoor.Mg

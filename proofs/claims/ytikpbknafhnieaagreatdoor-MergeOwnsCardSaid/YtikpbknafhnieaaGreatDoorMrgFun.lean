/-
  WHAT IS PROVED HERE: a plain function that merges lists of blocks (what merge.Merge computes), and the laws of merging. No program, no condition.
-/
import Derived.Test.YtikpbknafhnieaaGreatDoorMrgPlain
namespace Go.Proofs.YtikpbknafhnieaaGreatDoor.Mg

structure Lab where
  till : Int
  after : List Int
  appr : Int
  denied : Int
deriving DecidableEq
structure Blk where
  id : Int
  kind : Int
  text : ByteArray
  story : Int
  ref : Int
  lab : Lab
deriving DecidableEq
abbrev ids (l : List Blk) : List Int := l.map Blk.id
def find (l : List Blk) (i : Int) : Option Blk := l.find? (fun b => decide (b.id = i))
def pick (x y z : Option Blk) : Option Blk × Bool := if y = x then (z, false) else if z = x ∨ z = y then (y, false) else if z.isSome then (z, true) else (y, true)
def pickAt (base a b : List Blk) (i : Int) : Option Blk × Bool := pick (find base i) (find a i) (find b i)
def hasAt (base a b : List Blk) (i : Int) : Bool := (pickAt base a b i).1.isSome
/-- the ids of l that base has stand in base's order -/
def Keeps (l base : List Int) : Prop := List.Sublist (l.filter (fun y => decide (y ∈ base))) base
instance (l base : List Int) : Decidable (Keeps l base) := by unfold Keeps; infer_instance
def orderOf (base a b : List Blk) : List Int := if Keeps (ids b) (ids base) then orderF (hasAt base a b) (ids a) (ids b) else orderF (hasAt base a b) (ids b) (ids a)
def merged (base a b : List Blk) : List Blk := (orderOf base a b).filterMap fun i => (pickAt base a b i).1

theorem find_id {l : List Blk} {i : Int} {x : Blk} (h : find l i = some x) : x.id = i ∧ x ∈ l := by
  unfold find at h
  exact ⟨by simpa using List.find?_some h, List.mem_of_find?_eq_some h⟩
theorem find_none {l : List Blk} {i : Int} : find l i = none ↔ i ∉ ids l := by
  unfold find
  rw [List.find?_eq_none]
  simp
theorem find_some {l : List Blk} (hn : (ids l).Nodup) {i : Int} {x : Blk} : find l i = some x ↔ x ∈ l ∧ x.id = i := by
  constructor
  · intro h; exact ⟨(find_id h).2, (find_id h).1⟩
  · rintro ⟨hx, hi⟩
    induction l with
    | nil => cases hx
    | cons y l ih =>
      obtain ⟨h1, h2⟩ := List.nodup_cons.1 hn
      unfold find
      by_cases hy : y.id = i
      · rw [List.find?_cons_of_pos (by simpa using hy)]
        rcases List.mem_cons.1 hx with e | e
        · rw [e]
        · refine absurd ?_ h1
          rw [hy, ← hi]
          exact List.mem_map.2 ⟨x, e, rfl⟩
      · rw [List.find?_cons_of_neg (by simpa using hy)]
        rcases List.mem_cons.1 hx with e | e
        · exact absurd (e ▸ hi) hy
        · exact ih h2 e
theorem pick_cases (x y z : Option Blk) : (pick x y z).1 = y ∨ (pick x y z).1 = z := by
  unfold pick
  split
  · exact .inr rfl
  split
  · exact .inl rfl
  split
  · exact .inr rfl
  · exact .inl rfl
theorem pickAt_id {base a b : List Blk} {i : Int} {x : Blk} (h : (pickAt base a b i).1 = some x) : x.id = i ∧ (x ∈ a ∨ x ∈ b) := by
  rcases pick_cases (find base i) (find a i) (find b i) with e | e
  · have := find_id (e.symm.trans h); exact ⟨this.1, .inl this.2⟩
  · have := find_id (e.symm.trans h); exact ⟨this.1, .inr this.2⟩
theorem has_in {base a b : List Blk} {i : Int} (h : hasAt base a b i = true) : i ∈ ids a ∨ i ∈ ids b := by
  obtain ⟨x, hx⟩ := Option.isSome_iff_exists.1 h
  obtain ⟨h1, h2⟩ := pickAt_id hx
  rcases h2 with h2 | h2
  · exact .inl (List.mem_map.2 ⟨x, h2, h1⟩)
  · exact .inr (List.mem_map.2 ⟨x, h2, h1⟩)
theorem orderOf_inv {base a b : List Blk} (ha : (ids a).Nodup) (hb : (ids b).Nodup) : (orderOf base a b).Nodup ∧ ∀ i, i ∈ orderOf base a b ↔ hasAt base a b i = true := by
  unfold orderOf
  split
  · obtain ⟨h1, h2, _⟩ := order_inv (hasAt base a b) (ids a) (ids b) ha hb
    exact ⟨h1, fun i => by rw [h2]; exact ⟨fun h => h.1, fun h => ⟨h, has_in h⟩⟩⟩
  · obtain ⟨h1, h2, _⟩ := order_inv (hasAt base a b) (ids b) (ids a) hb ha
    exact ⟨h1, fun i => by rw [h2]; exact ⟨fun h => h.1, fun h => ⟨h, (has_in h).symm⟩⟩⟩
theorem ids_filterMap (f : Int → Option Blk) (hf : ∀ i x, f i = some x → x.id = i) : ∀ l : List Int, (∀ i ∈ l, (f i).isSome = true) → ids (l.filterMap f) = l
  | [], _ => rfl
  | i :: r, h => by
    obtain ⟨x, hx⟩ := Option.isSome_iff_exists.1 (h i List.mem_cons_self)
    rw [List.filterMap_cons_some hx]
    show x.id :: ids (r.filterMap f) = _
    rw [hf i x hx, ids_filterMap f hf r (fun j hj => h j (List.mem_cons_of_mem _ hj))]
theorem merged_ids {base a b : List Blk} (ha : (ids a).Nodup) (hb : (ids b).Nodup) : ids (merged base a b) = orderOf base a b :=
  ids_filterMap _ (fun _ _ h => (pickAt_id h).1) _ (fun i hi => ((orderOf_inv ha hb).2 i).1 hi)
/-- the heart: what the merged list has at an id -/
theorem find_merged {base a b : List Blk} (ha : (ids a).Nodup) (hb : (ids b).Nodup) (i : Int) : find (merged base a b) i = (pickAt base a b i).1 := by
  have hn : (ids (merged base a b)).Nodup := by rw [merged_ids ha hb]; exact (orderOf_inv ha hb).1
  cases hp : (pickAt base a b i).1 with
  | none =>
    rw [find_none, merged_ids ha hb, (orderOf_inv ha hb).2]
    unfold hasAt
    rw [hp]; simp
  | some x =>
    rw [find_some hn]
    refine ⟨?_, (pickAt_id hp).1⟩
    unfold merged
    rw [List.mem_filterMap]
    exact ⟨i, ((orderOf_inv ha hb).2 i).2 (by unfold hasAt; rw [hp]; rfl), hp⟩
end Go.Proofs.YtikpbknafhnieaaGreatDoor.Mg

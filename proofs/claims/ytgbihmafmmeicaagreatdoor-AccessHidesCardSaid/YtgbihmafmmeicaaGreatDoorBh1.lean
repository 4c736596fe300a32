/-
  WHAT IS PROVED HERE: 33 texts joined, each with its own head: what the walks of the program give. Conditions: each at its place.
-/
import Derived.WalkKit
import Derived.WalkSpells
import Derived.WalkLawsBesides
import Derived.Below
import Derived.Lib.ConvBytes
import Derived.Lib.Hide
import Derived.Laws.IdiomStrings
import Derived.Lib.AppendStr
import Derived.Lib.Strings
import Derived.Laws.OwnMore
import Derived.Deep.AppendLies
import Derived.Deep.Draws
import Derived.Maps.AppendAt
import Derived.RegionTactic
import Derived.OwnWalk
import Derived.Maps.OwnSet
import Derived.Maps.OwnOps
import Derived.Maps.OwnIn
import Derived.Maps.Ext
import Derived.Test.YtgbihmafmmeicaaGreatDoorProg
import Derived.Deep.QuietTactic
import Derived.BigQuiet
import Derived.RangeFuncBox
import Derived.Shelf.Abstract
import Derived.OwnWalkIn
import Derived.TacticsInMore
import Derived.LoopNIn
import Derived.LoopIn
import Derived.RangeFuncNested
import Derived.RangeFuncBound
import Derived.RangeFuncCalls
import Derived.RangeFuncLeaves
import Derived.RangeFuncWrites
import Derived.Deep.RegionHeld
import Derived.StillTail
import Derived.OrdersIn
namespace Go.Proofs.YtgbihmafmmeicaaGreatDoor.Mg

def insAt (l : List Int) (k : Nat) (x : Int) : List Int := l.take k ++ x :: l.drop k
def step (has : Int → Bool) (lead : List Int) (st : List Int × Nat) (id : Int) : List Int × Nat :=
  if has id then (if id ∈ lead then (st.1, st.1.idxOf id + 1) else (insAt st.1 st.2 id, st.2 + 1)) else st
def orderF (has : Int → Bool) (lead follow : List Int) : List Int := (follow.foldl (step has lead) (lead.filter has, 0)).1

theorem insAt_mem {l : List Int} {k : Nat} {x y : Int} : y ∈ insAt l k x ↔ y = x ∨ y ∈ l := by
  unfold insAt
  have h : y ∈ l ↔ y ∈ l.take k ∨ y ∈ l.drop k := by rw [← List.mem_append, List.take_append_drop]
  rw [List.mem_append, List.mem_cons, h]
  constructor
  · rintro (h | h | h)
    · exact .inr (.inl h)
    · exact .inl h
    · exact .inr (.inr h)
  · rintro (h | h | h)
    · exact .inr (.inl h)
    · exact .inl h
    · exact .inr (.inr h)
theorem insAt_sub (l : List Int) (k : Nat) (x : Int) : List.Sublist l (insAt l k x) := by
  have h : List.Sublist (l.take k ++ l.drop k) (l.take k ++ x :: l.drop k) := (List.Sublist.refl _).append (List.sublist_cons_self _ _)
  rwa [List.take_append_drop] at h
theorem insAt_nodup {l : List Int} {k : Nat} {x : Int} (h : l.Nodup) (hx : x ∉ l) : (insAt l k x).Nodup := by
  have hp : List.Perm (insAt l k x) (x :: l) := by
    unfold insAt
    have := (List.perm_middle (a := x) (l₁ := l.take k) (l₂ := l.drop k))
    rwa [List.take_append_drop] at this
  rw [hp.nodup_iff]
  exact List.nodup_cons.2 ⟨hx, h⟩
theorem insAt_take (l : List Int) (k : Nat) (x : Int) (hk : k ≤ l.length) : (insAt l k x).take (k + 1) = l.take k ++ [x] := by
  unfold insAt
  have hl : (l.take k).length = k := by simp; omega
  rw [List.take_append, List.take_of_length_le (by omega), hl, show k + 1 - k = 1 by omega]
  rfl
theorem insAt_length (l : List Int) (k : Nat) (x : Int) : (insAt l k x).length = l.length + 1 := by
  unfold insAt; simp; omega

structure Inv (has : Int → Bool) (lead p : List Int) (st : List Int × Nat) : Prop where
  nodup : st.1.Nodup
  mem : ∀ y, y ∈ st.1 ↔ has y = true ∧ (y ∈ lead ∨ y ∈ p)
  lead : List.Sublist (lead.filter has) st.1
  le : st.2 ≤ st.1.length
theorem inv_step {has : Int → Bool} {lead p : List Int} {st : List Int × Nat} (h : Inv has lead p st) (id : Int) (hp : id ∉ p) : Inv has lead (p ++ [id]) (step has lead st id) := by
  unfold step
  by_cases h1 : has id = true
  · rw [if_pos h1]
    by_cases h2 : id ∈ lead
    · rw [if_pos h2]
      have hm : id ∈ st.1 := (h.mem id).2 ⟨h1, .inl h2⟩
      refine ⟨h.nodup, fun y => ?_, h.lead, ?_⟩
      · rw [h.mem, List.mem_append, List.mem_singleton]
        constructor
        · rintro ⟨a, b | b⟩
          · exact ⟨a, .inl b⟩
          · exact ⟨a, .inr (.inl b)⟩
        · rintro ⟨a, b | b | b⟩
          · exact ⟨a, .inl b⟩
          · exact ⟨a, .inr b⟩
          · exact ⟨a, .inl (b ▸ h2)⟩
      · exact List.idxOf_lt_length_of_mem hm
    · rw [if_neg h2]
      have hm : id ∉ st.1 := fun hh => by
        rcases ((h.mem id).1 hh).2 with b | b
        · exact h2 b
        · exact hp b
      refine ⟨insAt_nodup h.nodup hm, fun y => ?_, h.lead.trans (insAt_sub _ _ _), ?_⟩
      · rw [insAt_mem, h.mem, List.mem_append, List.mem_singleton]
        constructor
        · rintro (b | ⟨a, b | b⟩)
          · exact ⟨b ▸ h1, .inr (.inr b)⟩
          · exact ⟨a, .inl b⟩
          · exact ⟨a, .inr (.inl b)⟩
        · rintro ⟨a, b | b | b⟩
          · exact .inr ⟨a, .inl b⟩
          · exact .inr ⟨a, .inr b⟩
          · exact .inl b
      · rw [insAt_length]; have := h.le; omega
  · rw [if_neg h1]
    refine ⟨h.nodup, fun y => ?_, h.lead, h.le⟩
    rw [h.mem, List.mem_append, List.mem_singleton]
    constructor
    · rintro ⟨a, b | b⟩
      · exact ⟨a, .inl b⟩
      · exact ⟨a, .inr (.inl b)⟩
    · rintro ⟨a, b | b | b⟩
      · exact ⟨a, .inl b⟩
      · exact ⟨a, .inr b⟩
      · exact absurd (b ▸ a) h1
theorem inv_fold (has : Int → Bool) (lead : List Int) : ∀ (r p : List Int) (st : List Int × Nat), Inv has lead p st → (p ++ r).Nodup → Inv has lead (p ++ r) (r.foldl (step has lead) st)
  | [], p, st, h, _ => by simpa using h
  | id :: r, p, st, h, hn => by
    have hp : id ∉ p := fun hh => (List.nodup_append.1 hn).2.2 _ hh id List.mem_cons_self rfl
    have := inv_fold has lead r (p ++ [id]) _ (inv_step h id hp) (by simpa using hn)
    simpa using this
theorem not_in_take {l : List Int} {a b : Int} (hn : l.Nodup) (h : List.Sublist [a, b] l) : b ∉ l.take (l.idxOf a + 1) := by
  induction l with
  | nil => cases h
  | cons x l ih =>
    obtain ⟨hx, hn⟩ := List.nodup_cons.1 hn
    by_cases hxa : x = a
    · subst hxa
      have hi : (x :: l).idxOf x = 0 := by simp
      rw [hi]
      have hb : b ∈ l := by
        cases h with
        | cons _ h => exact absurd (h.subset List.mem_cons_self) hx
        | cons_cons _ h => exact h.subset List.mem_cons_self
      intro hh
      simp at hh
      exact hx (hh ▸ hb)
    · have h2 : List.Sublist [a, b] l := by
        cases h with
        | cons _ h => exact h
        | cons_cons _ h => exact absurd rfl hxa
      have hi : (x :: l).idxOf a = l.idxOf a + 1 := by
        rw [List.idxOf_cons]
        have : (x == a) = false := by simpa using hxa
        rw [this]; rfl
      rw [hi, List.take_succ_cons]
      intro hh
      rcases List.mem_cons.1 hh with e | e
      · subst e
        exact hx (h2.subset (by simp))
      · exact ih hn h2 e
structure Kept (has : Int → Bool) (lead p r : List Int) (st : List Int × Nat) : Prop where
  sub : List.Sublist (p.filter has) (st.1.take st.2)
  far : ∀ y, y ∈ r → y ∈ lead → y ∉ st.1.take st.2
theorem kept_step {has : Int → Bool} {lead p r : List Int} {st : List Int × Nat} {id : Int} (h : Inv has lead p st) (k : Kept has lead p (id :: r) st) (hr : (id :: r).Nodup) (hs : List.Sublist ((id :: r).filter (fun y => decide (y ∈ lead))) lead) :
    Kept has lead (p ++ [id]) r (step has lead st id) := by
  obtain ⟨hir, _⟩ := List.nodup_cons.1 hr
  unfold step
  by_cases h1 : has id = true
  · rw [if_pos h1]
    have hpf : (p ++ [id]).filter has = p.filter has ++ [id] := by rw [List.filter_append]; simp [h1]
    by_cases h2 : id ∈ lead
    · rw [if_pos h2]
      have hm : id ∈ st.1 := (h.mem id).2 ⟨h1, .inl h2⟩
      have hlt := List.idxOf_lt_length_of_mem hm
      have hfar := k.far id List.mem_cons_self h2
      have hle : st.2 ≤ st.1.idxOf id := by
        rcases Nat.lt_or_ge (st.1.idxOf id) st.2 with hh | hh
        · refine absurd ?_ hfar
          rw [List.mem_take_iff_getElem]
          exact ⟨st.1.idxOf id, by omega, by simp⟩
        · exact hh
      have htk : st.1.take (st.1.idxOf id + 1) = st.1.take (st.1.idxOf id) ++ [id] := by
        rw [List.take_succ_eq_append_getElem hlt, List.getElem_idxOf]
      refine ⟨?_, fun y hy hyl => ?_⟩
      · show List.Sublist _ (st.1.take (st.1.idxOf id + 1))
        rw [hpf, htk]
        refine (k.sub.trans ?_).append (List.Sublist.refl _)
        have : st.1.take st.2 = (st.1.take (st.1.idxOf id)).take st.2 := by rw [List.take_take, Nat.min_eq_left hle]
        rw [this]
        exact List.take_sublist _ _
      · show y ∉ st.1.take (st.1.idxOf id + 1)
        by_cases hy1 : has y = true
        · refine not_in_take h.nodup ?_
          have hs1 : List.Sublist [id, y] ((id :: r).filter (fun y => decide (y ∈ lead))) := by
            rw [List.filter_cons_of_pos (by simpa using h2)]
            exact List.Sublist.cons_cons _ (List.singleton_sublist.2 (List.mem_filter.2 ⟨hy, by simpa using hyl⟩))
          have hs2 := (hs1.trans hs).filter has
          rw [List.filter_cons_of_pos h1, List.filter_cons_of_pos hy1] at hs2
          exact hs2.trans h.lead
        · intro hh
          exact hy1 ((h.mem y).1 (List.mem_of_mem_take hh)).1
    · rw [if_neg h2]
      refine ⟨?_, fun y hy hyl => ?_⟩
      · show List.Sublist _ ((insAt st.1 st.2 id).take (st.2 + 1))
        rw [hpf, insAt_take _ _ _ h.le]
        exact k.sub.append (List.Sublist.refl _)
      · show y ∉ (insAt st.1 st.2 id).take (st.2 + 1)
        rw [insAt_take _ _ _ h.le, List.mem_append, List.mem_singleton]
        rintro (hh | hh)
        · exact k.far y (List.mem_cons_of_mem _ hy) hyl hh
        · exact h2 (hh ▸ hyl)
  · rw [if_neg h1]
    refine ⟨?_, fun y hy hyl => k.far y (List.mem_cons_of_mem _ hy) hyl⟩
    rw [List.filter_append, List.filter_cons_of_neg h1, List.filter_nil, List.append_nil]
    exact k.sub
theorem kept_fold (has : Int → Bool) (lead : List Int) : ∀ (r p : List Int) (st : List Int × Nat), Inv has lead p st → Kept has lead p r st → (p ++ r).Nodup → List.Sublist (r.filter (fun y => decide (y ∈ lead))) lead →
    Kept has lead (p ++ r) [] (r.foldl (step has lead) st)
  | [], p, st, _, k, _, _ => by simpa using k
  | id :: r, p, st, h, k, hn, hs => by
    have hr := (List.nodup_append.1 hn).2.1
    have hp : id ∉ p := fun hh => (List.nodup_append.1 hn).2.2 _ hh id List.mem_cons_self rfl
    have := kept_fold has lead r (p ++ [id]) _ (inv_step h id hp) (kept_step h k hr hs) (by simpa using hn) (((List.sublist_cons_self id r).filter _).trans hs)
    simpa using this
end Go.Proofs.YtgbihmafmmeicaaGreatDoor.Mg
namespace Go.Proofs.YtgbihmafmmeicaaGreatDoor.Mg

structure Lab where
  till : Int
  after : List Int
  appr : Int
  denied : Int
deriving DecidableEq
structure Blk where
  id : Int
  kind : Int
  text : ByteArray
  story : Int
  ref : Int
  lab : Lab
deriving DecidableEq
abbrev ids (l : List Blk) : List Int := l.map Blk.id
def find (l : List Blk) (i : Int) : Option Blk := l.find? (fun b => decide (b.id = i))
def pick (x y z : Option Blk) : Option Blk × Bool := if y = x then (z, false) else if z = x ∨ z = y then (y, false) else if z.isSome then (z, true) else (y, true)
def pickAt (base a b : List Blk) (i : Int) : Option Blk × Bool := pick (find base i) (find a i) (find b i)
def hasAt (base a b : List Blk) (i : Int) : Bool := (pickAt base a b i).1.isSome
def Keeps (l base : List Int) : Prop := List.Sublist (l.filter (fun y => decide (y ∈ base))) base
instance (l base : List Int) : Decidable (Keeps l base) := by unfold Keeps; infer_instance
def orderOf (base a b : List Blk) : List Int := if Keeps (ids b) (ids base) then orderF (hasAt base a b) (ids a) (ids b) else orderF (hasAt base a b) (ids b) (ids a)
def merged (base a b : List Blk) : List Blk := (orderOf base a b).filterMap fun i => (pickAt base a b i).1

theorem ids_filterMap (f : Int → Option Blk) (hf : ∀ i x, f i = some x → x.id = i) : ∀ l : List Int, (∀ i ∈ l, (f i).isSome = true) → ids (l.filterMap f) = l
  | [], _ => rfl
  | i :: r, h => by
    obtain ⟨x, hx⟩ := Option.isSome_iff_exists.1 (h i List.mem_cons_self)
    rw [List.filterMap_cons_some hx]
    show x.id :: ids (r.filterMap f) = _
    rw [hf i x hx, ids_filterMap f hf r (fun j hj => h j (List.mem_cons_of_mem _ hj))]
end Go.Proofs.YtgbihmafmmeicaaGreatDoor.Mg
namespace Go.Proofs.YtgbihmafmmeicaaGreatDoor.Mg

end Go.Proofs.YtgbihmafmmeicaaGreatDoor.Mg
namespace Go.Proofs.YtgbihmafmmeicaaGreatDoor.Mg

theorem sorted_eq (key : Int → Int) (hk : ∀ x y, key x = key y → x = y) : ∀ (l r : List Int), l.Pairwise (fun x y => key x < key y) → r.Pairwise (fun x y => key x < key y) → (∀ y, y ∈ l ↔ y ∈ r) → l = r
  | [], [], _, _, _ => rfl
  | [], b :: r, _, _, h => absurd ((h b).2 List.mem_cons_self) (by simp)
  | a :: l, [], _, _, h => absurd ((h a).1 List.mem_cons_self) (by simp)
  | a :: l, b :: r, hl, hr, h => by
    obtain ⟨l1, l2⟩ := List.pairwise_cons.1 hl
    obtain ⟨r1, r2⟩ := List.pairwise_cons.1 hr
    have hab : a = b := by
      rcases List.mem_cons.1 ((h a).1 List.mem_cons_self) with e | e
      · exact e
      · rcases List.mem_cons.1 ((h b).2 List.mem_cons_self) with e2 | e2
        · exact e2.symm
        · have := r1 a e; have := l1 b e2; omega
    subst hab
    rw [sorted_eq key hk l r l2 r2 fun y => ?_]
    constructor
    · intro hy
      rcases List.mem_cons.1 ((h y).1 (List.mem_cons_of_mem _ hy)) with e | e
      · subst e; have := l1 y hy; omega
      · exact e
    · intro hy
      rcases List.mem_cons.1 ((h y).2 (List.mem_cons_of_mem _ hy)) with e | e
      · subst e; have := r1 y hy; omega
      · exact e

def movedL (base : List Int) : Int → List Int → Bool
  | _, [] => false
  | last, i :: r => if i ∈ base then (if (base.idxOf i : Int) < last then true else movedL base (base.idxOf i) r) else movedL base last r
theorem movedL_iff (base : List Int) : ∀ (l : List Int) (last : Int), movedL base last l = false ↔
    (l.filter (fun y => decide (y ∈ base))).Pairwise (fun x y => base.idxOf x ≤ base.idxOf y) ∧ ∀ y ∈ l.filter (fun y => decide (y ∈ base)), last ≤ (base.idxOf y : Int)
  | [], last => by simp [movedL]
  | i :: r, last => by
    unfold movedL
    by_cases hi : i ∈ base
    · rw [if_pos hi, List.filter_cons_of_pos (by simpa using hi), List.pairwise_cons]
      by_cases hlt : (base.idxOf i : Int) < last
      · rw [if_pos hlt]
        constructor
        · intro h; cases h
        · rintro ⟨_, h⟩
          have := h i List.mem_cons_self
          omega
      · rw [if_neg hlt, movedL_iff base r]
        constructor
        · rintro ⟨h1, h2⟩
          refine ⟨⟨fun y hy => by have := h2 y hy; omega, h1⟩, fun y hy => ?_⟩
          rcases List.mem_cons.1 hy with e | e
          · subst e; omega
          · have := h2 y e; omega
        · rintro ⟨⟨h1, h2⟩, _⟩
          exact ⟨h2, fun y hy => by have := h1 y hy; omega⟩
    · rw [if_neg hi, List.filter_cons_of_neg (by simpa using hi), movedL_iff base r]
end Go.Proofs.YtgbihmafmmeicaaGreatDoor.Mg
namespace Go.Proofs.YtgbihmafmmeicaaGreatDoor.Mg

def afterOK : Int → List Int → Bool
  | _, [] => true
  | last, s :: r => decide (last + 1 ≤ s) && decide (s ≤ 64) && afterOK s r
def validLab (l : Lab) : Bool := decide (0 ≤ l.till) && decide (l.till ≤ 1000000000) && decide (0 ≤ l.appr) && decide (l.appr ≤ 5) && decide (0 ≤ l.denied) && decide (l.denied ≤ 15) && afterOK 0 l.after
def textOK (s : ByteArray) : Bool := decide (s.size ≤ 300) && s.data.toList.all fun c => decide (32 ≤ c.toNat) && decide (c.toNat ≤ 126)
def nameByte (c : UInt8) : Bool := (decide (97 ≤ c.toNat) && decide (c.toNat ≤ 122)) || (decide (48 ≤ c.toNat) && decide (c.toNat ≤ 57)) || decide (c.toNat = 45)
def nameOK (s : ByteArray) : Bool := decide (1 ≤ s.size) && decide (s.size ≤ 20) && s.data.toList.all nameByte
def kindOK (b : Blk) : Bool :=
  if b.kind = 1 ∨ b.kind = 2 ∨ b.kind = 4 then decide (1 ≤ b.text.size) && textOK b.text && decide (b.story = 0) && decide (b.ref = 0)
  else if b.kind = 5 then nameOK b.text && decide (b.story = 0) && decide (b.ref = 0)
  else if b.kind = 3 then textOK b.text && decide (1 ≤ b.story) && decide (b.story ≤ 64) && decide (1 ≤ b.ref) && decide (b.ref ≤ 1000)
  else false
def validBlk (b : Blk) : Bool := decide (1 ≤ b.id) && decide (b.id ≤ 1000) && validLab b.lab && kindOK b
def ValidL (l : List Blk) : Prop := l.length ≤ 24 ∧ (∀ b ∈ l, validBlk b = true) ∧ (ids l).Nodup
instance (l : List Blk) : Decidable (ValidL l) := by unfold ValidL; infer_instance
theorem ValidL.range {l : List Blk} (h : ValidL l) : ∀ i ∈ ids l, 1 ≤ i ∧ i ≤ 1000 := by
  intro i hi
  obtain ⟨b, hb, rfl⟩ := List.mem_map.1 hi
  have := h.2.1 b hb
  unfold validBlk at this
  simp only [Bool.and_eq_true, decide_eq_true_eq] at this
  omega
theorem valid_take {l : List Blk} (k : Nat) (hk : k < l.length) : ((∀ b ∈ l.take (k + 1), validBlk b = true) ∧ (ids (l.take (k + 1))).Nodup) ↔ ((∀ b ∈ l.take k, validBlk b = true) ∧ (ids (l.take k)).Nodup) ∧ validBlk l[k] = true ∧ l[k].id ∉ ids (l.take k) := by
  rw [List.take_succ_eq_append_getElem hk]
  unfold ids
  rw [List.map_append, List.nodup_append]
  constructor
  · rintro ⟨h1, h2, _, h3⟩
    exact ⟨⟨fun b hb => h1 b (List.mem_append_left _ hb), h2⟩, h1 _ (List.mem_append_right _ (List.mem_singleton.2 rfl)), fun hh => h3 _ hh _ (by simp) rfl⟩
  · rintro ⟨⟨h1, h2⟩, h3, h4⟩
    refine ⟨fun b hb => ?_, h2, by simp, fun x hx y hy e => ?_⟩
    · rcases List.mem_append.1 hb with hb | hb
      · exact h1 b hb
      · simp at hb; rw [hb]; exact h3
    · simp at hy
      subst hy
      exact h4 (e ▸ hx)
def confs (base a b : List Blk) : List Int := ((List.range 1000).map fun n : Nat => (n : Int) + 1).filter (fun i => (pickAt base a b i).2)
def mergeF (base a b : List Blk) : List Blk × List Int × Int :=
  if ValidL base ∧ ValidL a ∧ ValidL b then
    if (merged base a b).length ≤ 24 then (merged base a b, confs base a b, 0)
    else ([], [], 40)
  else ([], [], 40)
end Go.Proofs.YtgbihmafmmeicaaGreatDoor.Mg
namespace Go.Proofs.YtgbihmafmmeicaaGreatDoor
open Go.RowKit

def bs (l : List UInt8) : ByteArray := ⟨l.toArray⟩
@[simp] theorem bs_size (l : List UInt8) : (bs l).size = l.length := by simp [bs, ByteArray.size]
@[simp] theorem bs_list (l : List UInt8) : (bs l).data.toList = l := by simp [bs]
theorem bs_get (l : List UInt8) (j : Nat) (h : j < (bs l).size) : (bs l)[j] = l[j]'(by simpa using h) := by simp [bs, ByteArray.getElem_eq_getElem_data]
theorem bs_of (s : ByteArray) : bs s.data.toList = s := by simp [bs]
theorem size_list (s : ByteArray) : s.data.toList.length = s.size := by simp
theorem get_list (s : ByteArray) (j : Nat) (h : j < s.size) : s.data.toList[j]'(by simpa using h) = s[j] := by simp [ByteArray.getElem_eq_getElem_data]
theorem str_ext {a b : ByteArray} (h : a.data.toList = b.data.toList) : a = b := by rw [← bs_of a, h, bs_of]
structure Upd (F : Nat → Prop) (w w' : World) : Prop where
  os : w'.os = w.os
  tape : w'.tape = w.tape
  output : w'.output = w.output
  size : w.heap.size ≤ w'.heap.size
  block : ∀ k, k < w.heap.size → ¬ F k → w'.heap[k]? = w.heap[k]?

section
variable {F : Nat → Prop} {a w w' : World}
theorem Upd.refl (F : Nat → Prop) (w : World) : Upd F w w := ⟨rfl, rfl, rfl, Nat.le_refl _, fun _ _ _ => rfl⟩
theorem Upd.trans {G : Nat → Prop} (h : Upd F a w) (k : Upd G w w') (hG : ∀ i, G i → F i ∨ a.heap.size ≤ i) : Upd F a w' :=
  ⟨k.os.trans h.os, k.tape.trans h.tape, k.output.trans h.output, Nat.le_trans h.size k.size, fun i hi hn =>
    (k.block i (Nat.lt_of_lt_of_le hi h.size) (fun g => by rcases hG i g with g | g; exact hn g; omega)).trans (h.block i hi hn)⟩
theorem Upd.mono {G : Nat → Prop} (h : Upd F a w) (hG : ∀ i, F i → G i ∨ a.heap.size ≤ i) : Upd G a w :=
  ⟨h.os, h.tape, h.output, h.size, fun i hi hn => h.block i hi (fun f => by rcases hG i f with g | g; exact hn g; omega)⟩
theorem Upd.drew (h : Upd F a w) : Upd F a w.drew := ⟨h.os, h.tape, h.output, h.size, h.block⟩
theorem Upd.alloc (h : Upd F a w) (o : Obj) : Upd F a (w.alloc o) :=
  ⟨h.os, h.tape, h.output, Nat.le_trans h.size (by simp), fun i hi hn => (Below.heap_alloc _ _ _ (Nat.lt_of_lt_of_le hi h.size)).trans (h.block i hi hn)⟩
theorem Upd.setCell (h : Upd F a w) {p : Addr} (hp : F p.block ∨ a.heap.size ≤ p.block) (u : Value) : Upd F a (w.setCell p u) :=
  ⟨h.os, h.tape, h.output, Nat.le_trans h.size (by simp [World.setCell]), fun i hi hn => by
    rw [Below.heap_setCell _ _ _ _ (fun e => by subst e; rcases hp with g | g; exact hn g; omega)]; exact h.block i hi hn⟩
theorem Upd.of_below {B : Nat} (h : Below B w w') : Upd (fun k => B ≤ k) w w' := ⟨h.os, h.tape, h.output, h.size, fun i _ hn => h.block i (by omega)⟩
theorem Upd.below {B : Nat} (h : Upd F w w') (hF : ∀ i, F i → B ≤ i) (hB : B ≤ w.heap.size) : Below B w w' :=
  ⟨h.os, h.tape, h.output, h.size, fun i hi => h.block i (by omega) (fun f => by have := hF i f; omega)⟩
theorem Upd.grown {row : Option Nat} (h : Upd F a w) (hg : w.grownBy w' row) (hr : ∀ k, row = some k → F k ∨ a.heap.size ≤ k) : Upd F a w' :=
  h.trans (G := fun k => row = some k) ⟨hg.os, hg.tape, hg.output, hg.size, fun k hk hn => hg.block k hk (fun e => hn e.symm)⟩ (fun i e => hr i e)
theorem Upd.cell (h : Upd F w w') {p : Addr} (hp : p.block < w.heap.size) (hn : ¬ F p.block) : w'.cell? p = w.cell? p := World.cell?_of_block (h.block p.block hp hn)
theorem Upd.frozen (h : Upd F w w') {p : Addr} (hp : p.block < w.heap.size) (hn : ¬ F p.block) : w'.frozen? p = w.frozen? p := World.frozen?_of_block (h.block p.block hp hn)
theorem Upd.cell_some (h : Upd F w w') {p : Addr} {v : Value} (hv : w.cell? p = some v) (hn : ¬ F p.block) : w'.cell? p = some v :=
  (h.cell (World.block_lt_of_cell? w p hv) hn).trans hv
end
theorem named {α : Sort _} (x : α) : ∃ y, Hid (y = x) := ⟨x, Lib.hid rfl⟩
end Go.Proofs.YtgbihmafmmeicaaGreatDoor
namespace Go.Proofs.YtgbihmafmmeicaaGreatDoor.Mg

structure Fct where
  n : Int
  time : Int
  kind : Int
  story : Int
  lang : ByteArray
  rev : Int
  base : Int
  title : ByteArray
  author : ByteArray
  topics : List ByteArray
  blocks : List Blk
  lab : Lab
  editor : Int
  block : Int
  sentence : Int
  text : ByteArray
  name : ByteArray
  partner : Int
  cls : Int
  till : Int
deriving DecidableEq

def lab0 : Lab := ⟨0, [], 0, 0⟩
def str0 : ByteArray := ⟨#[]⟩
def bare (f : Fct) : Fct := ⟨f.n, f.time, f.kind, 0, str0, 0, 0, str0, str0, [], [], lab0, 0, 0, 0, str0, str0, 0, 0, 0⟩
def fullOK (s : ByteArray) : Bool := decide (1 ≤ s.size) && textOK s
def srcByte (c : UInt8) : Bool := decide (c.toNat = 10) || (decide (32 ≤ c.toNat) && decide (c.toNat ≤ 126))
def srcOK (s : ByteArray) : Bool := decide (s.size ≤ 1000) && s.data.toList.all srcByte
def topicsUp : List ByteArray → Bool
  | [] => true
  | [a] => nameOK a
  | a :: b :: r => nameOK a && Op.bytesLess a.toList b.toList && topicsUp (b :: r)
def topicsOK (l : List ByteArray) : Bool := decide (l.length ≤ 4) && topicsUp l
def inR (n a b : Int) : Bool := decide (a ≤ n) && decide (n ≤ b)
def usedF (f : Fct) : Fct :=
  if f.kind = 1 then { bare f with story := f.story, lang := f.lang, rev := f.rev, base := f.base, title := f.title, author := f.author, topics := f.topics, blocks := f.blocks, lab := f.lab }
  else if f.kind = 2 then { bare f with story := f.story, editor := f.editor }
  else if f.kind = 3 then { bare f with story := f.story, lab := f.lab }
  else if f.kind = 4 then { bare f with story := f.story, lang := f.lang, block := f.block, sentence := f.sentence, text := f.text }
  else if f.kind = 5 then { bare f with story := f.story, text := f.text }
  else if f.kind = 6 ∨ f.kind = 10 then { bare f with story := f.story }
  else if f.kind = 7 then { bare f with name := f.name, text := f.text }
  else if f.kind = 8 then { bare f with partner := f.partner, cls := f.cls, till := f.till }
  else if f.kind = 9 then { bare f with partner := f.partner, till := f.till }
  else { bare f with story := f.story }
def storyOK (f : Fct) : Bool := inR f.story 1 64
def reviseOK (f : Fct) : Bool := nameOK f.lang && inR f.rev 1 100 && inR f.base 0 (f.rev - 1) && fullOK f.title && nameOK f.author && topicsOK f.topics && decide (ValidL f.blocks) && validLab f.lab
def correctOK (f : Fct) : Bool := nameOK f.lang && inR f.block 1 1000 && inR f.sentence 0 299 && fullOK f.text
def partnerOK (f : Fct) : Bool := inR f.partner 1 8 && inR f.till 0 1000000000
def fieldsOK (f : Fct) : Bool :=
  if f.kind = 1 then storyOK f && reviseOK f
  else if f.kind = 2 then storyOK f && inR f.editor 1 5
  else if f.kind = 3 then storyOK f && validLab f.lab
  else if f.kind = 4 then storyOK f && correctOK f
  else if f.kind = 5 then storyOK f && fullOK f.text
  else if f.kind = 6 ∨ f.kind = 10 then storyOK f
  else if f.kind = 7 then nameOK f.name && srcOK f.text
  else if f.kind = 8 then partnerOK f && inR f.cls 0 3
  else if f.kind = 9 then partnerOK f
  else false
def validF (f : Fct) : Bool := inR f.n 0 500 && inR f.time 0 1000000000 && fieldsOK f && decide (f = usedF f)

theorem inR_iff {n a b : Int} : inR n a b = true ↔ a ≤ n ∧ n ≤ b := by unfold inR; simp
theorem validF_kind {f : Fct} (h : validF f = true) : 1 ≤ f.kind ∧ f.kind ≤ 10 := by
  unfold validF at h
  simp only [Bool.and_eq_true, decide_eq_true_eq] at h
  have h2 := h.1.2
  unfold fieldsOK at h2
  repeat' split at h2
  all_goals first | omega | (rename_i h3; rcases h3 with h3 | h3 <;> omega) | cases h2
theorem validF_story {f : Fct} (h : validF f = true) (hk : f.kind = 1 ∨ f.kind = 2 ∨ f.kind = 3 ∨ f.kind = 4 ∨ f.kind = 5 ∨ f.kind = 6 ∨ f.kind = 10) : 1 ≤ f.story ∧ f.story ≤ 64 := by
  unfold validF at h
  simp only [Bool.and_eq_true, decide_eq_true_eq] at h
  have h2 := h.1.2
  unfold fieldsOK at h2
  rw [← inR_iff]
  rcases hk with e | e | e | e | e | e | e <;> simp [e] at h2 <;> unfold storyOK at h2 <;> first | exact h2.1 | exact h2
theorem validF_editor {f : Fct} (h : validF f = true) (hk : f.kind = 2) : 1 ≤ f.editor ∧ f.editor ≤ 5 := by
  unfold validF at h
  simp only [Bool.and_eq_true, decide_eq_true_eq] at h
  have h2 := h.1.2
  unfold fieldsOK at h2
  rw [← inR_iff]
  simp [hk] at h2
  exact h2.2
theorem validF_revise {f : Fct} (h : validF f = true) (hk : f.kind = 1) : reviseOK f = true := by
  unfold validF at h
  simp only [Bool.and_eq_true, decide_eq_true_eq] at h
  have h2 := h.1.2
  unfold fieldsOK at h2
  simp [hk] at h2
  exact h2.2
theorem revise_parts {f : Fct} (h : reviseOK f = true) : (1 ≤ f.rev ∧ f.rev ≤ 100) ∧ (0 ≤ f.base ∧ f.base < f.rev) ∧ ValidL f.blocks ∧ validLab f.lab = true := by
  unfold reviseOK at h
  simp only [Bool.and_eq_true, decide_eq_true_eq, inR_iff] at h
  obtain ⟨⟨⟨⟨⟨⟨⟨_, h1⟩, h2⟩, _⟩, _⟩, _⟩, h3⟩, h4⟩ := h
  exact ⟨h1, by omega, h3, h4⟩
theorem validF_used {f : Fct} (h : validF f = true) : f = usedF f := by
  unfold validF at h
  simp only [Bool.and_eq_true, decide_eq_true_eq] at h
  exact h.2
end Go.Proofs.YtgbihmafmmeicaaGreatDoor.Mg
namespace Go.Proofs.YtgbihmafmmeicaaGreatDoor.Mg

def bitOf (d c : Int) : Bool := decide ((d.toNat / 2 ^ c.toNat) % 2 = 1)
def allows (x : Lab) (cls now : Int) (out : List Int) (n : Int) : Bool :=
  validLab x && inR cls 0 3 && decide (x.till ≤ now) && decide (x.appr ≤ n) && !bitOf x.denied cls && x.after.all (fun s => decide (s ∈ out))
theorem allows_mono {x : Lab} {cls now now' : Int} {out out' : List Int} {n n' : Int} (hn : now ≤ now') (ha : n ≤ n') (ho : ∀ s ∈ out, s ∈ out') (h : allows x cls now out n = true) : allows x cls now' out' n' = true := by
  unfold allows at h ⊢
  simp only [Bool.and_eq_true, decide_eq_true_eq, List.all_eq_true] at h ⊢
  obtain ⟨⟨⟨⟨⟨h1, h2⟩, h3⟩, h4⟩, h5⟩, h6⟩ := h
  exact ⟨⟨⟨⟨⟨h1, h2⟩, by omega⟩, by omega⟩, h5⟩, fun s hs => ho s (h6 s hs)⟩
theorem allows_congr {x : Lab} {cls now : Int} {out out' : List Int} {n : Int} (ho : ∀ s, s ∈ out ↔ s ∈ out') : allows x cls now out n = allows x cls now out' n := by
  rw [Bool.eq_iff_iff]
  exact ⟨fun h => allows_mono (Int.le_refl _) (Int.le_refl _) (fun s hs => (ho s).1 hs) h, fun h => allows_mono (Int.le_refl _) (Int.le_refl _) (fun s hs => (ho s).2 hs) h⟩
structure Dig where
  pub : Int → Bool
  lb : Int → Lab
  ap : Int → Int
def Dig.goes (d : Dig) (cls now : Int) (out : List Int) (s : Int) : Bool := d.pub s && allows (d.lb s) cls now out (d.ap s)
def Dig.Closed (d : Dig) (cls now : Int) (S : List Int) : Prop := ∀ s, 1 ≤ s → s ≤ 64 → d.goes cls now S s = true → s ∈ S
structure OutIs (d : Dig) (cls now : Int) (L : List Int) : Prop where
  sorted : L.Pairwise (· < ·)
  range : ∀ s ∈ L, 1 ≤ s ∧ s ≤ 64
  fair : ∀ s ∈ L, d.goes cls now L s = true
  closed : d.Closed cls now L
  least : ∀ S, d.Closed cls now S → ∀ s ∈ L, s ∈ S
theorem sorted_ext : ∀ {l m : List Int}, l.Pairwise (· < ·) → m.Pairwise (· < ·) → (∀ s, s ∈ l ↔ s ∈ m) → l = m
  | [], [], _, _, _ => rfl
  | [], y :: m, _, _, h => absurd ((h y).2 List.mem_cons_self) (by simp)
  | x :: l, [], _, _, h => absurd ((h x).1 List.mem_cons_self) (by simp)
  | x :: l, y :: m, hl, hm, h => by
    obtain ⟨hl1, hl2⟩ := List.pairwise_cons.1 hl
    obtain ⟨hm1, hm2⟩ := List.pairwise_cons.1 hm
    have e : x = y := by
      rcases List.mem_cons.1 ((h x).1 List.mem_cons_self) with e | e
      · exact e
      · rcases List.mem_cons.1 ((h y).2 List.mem_cons_self) with e2 | e2
        · exact e2.symm
        · have := hm1 x e; have := hl1 y e2; omega
    subst e
    rw [sorted_ext hl2 hm2 (fun s => ?_)]
    constructor
    · intro hs
      rcases List.mem_cons.1 ((h s).1 (List.mem_cons_of_mem _ hs)) with e | e
      · have := hl1 s hs; omega
      · exact e
    · intro hs
      rcases List.mem_cons.1 ((h s).2 (List.mem_cons_of_mem _ hs)) with e | e
      · have := hm1 s hs; omega
      · exact e
structure Found (d : Dig) (cls now : Int) (L : List Int) : Prop where
  nodup : L.Nodup
  range : ∀ s ∈ L, 1 ≤ s ∧ s ≤ 64
  fair : ∀ s ∈ L, d.goes cls now L s = true
  least : ∀ S, d.Closed cls now S → ∀ s ∈ L, s ∈ S
theorem goes_mono {d : Dig} {cls now : Int} {L M : List Int} {s : Int} (hs : ∀ t ∈ L, t ∈ M) (h : d.goes cls now L s = true) : d.goes cls now M s = true := by
  unfold Dig.goes at h ⊢
  rw [Bool.and_eq_true] at h ⊢
  exact ⟨h.1, allows_mono (Int.le_refl _) (Int.le_refl _) hs h.2⟩
theorem goes_congr {d : Dig} {cls now : Int} {L M : List Int} {s : Int} (hs : ∀ t, t ∈ L ↔ t ∈ M) : d.goes cls now L s = d.goes cls now M s := by
  unfold Dig.goes; rw [allows_congr hs]
theorem Found.nil (d : Dig) (cls now : Int) : Found d cls now [] := ⟨List.nodup_nil, by simp, by simp, by simp⟩
theorem Found.more {d : Dig} {cls now : Int} {L : List Int} (h : Found d cls now L) {s : Int} (h1 : 1 ≤ s) (h2 : s ≤ 64) (hn : s ∉ L) (hg : d.goes cls now L s = true) : Found d cls now (L ++ [s]) := by
  have hsub : ∀ t ∈ L, t ∈ L ++ [s] := fun t ht => List.mem_append_left _ ht
  refine ⟨?_, fun t ht => ?_, fun t ht => ?_, fun S hS t ht => ?_⟩
  · rw [List.nodup_append]
    exact ⟨h.nodup, by simp, fun a ha b hb e => by
      rw [List.mem_singleton] at hb
      subst hb
      exact hn (e ▸ ha)⟩
  · rcases List.mem_append.1 ht with ht | ht
    · exact h.range t ht
    · rw [List.mem_singleton] at ht; subst ht; exact ⟨h1, h2⟩
  · rcases List.mem_append.1 ht with ht | ht
    · exact goes_mono hsub (h.fair t ht)
    · rw [List.mem_singleton] at ht; subst ht; exact goes_mono hsub hg
  · rcases List.mem_append.1 ht with ht | ht
    · exact h.least S hS t ht
    · rw [List.mem_singleton] at ht; subst ht
      exact hS t h1 h2 (goes_mono (fun u hu => h.least S hS u hu) hg)
theorem Found.length {d : Dig} {cls now : Int} {L : List Int} (h : Found d cls now L) : L.length ≤ 64 := by
  have hs : ∀ s ∈ L, s ∈ (List.range 64).map fun n : Nat => (n : Int) + 1 := fun s hs => by
    obtain ⟨h1, h2⟩ := h.range s hs
    exact List.mem_map.2 ⟨(s - 1).toNat, List.mem_range.2 (by omega), by omega⟩
  have := List.Nodup.length_le_of_subset h.nodup hs
  simpa using this
theorem Found.out {d : Dig} {cls now : Int} {L M : List Int} (h : Found d cls now L) (hc : d.Closed cls now L) (hs : M.Pairwise (· < ·)) (hm : ∀ s, s ∈ M ↔ s ∈ L) : OutIs d cls now M :=
  ⟨hs, fun s k => h.range s ((hm s).1 k), fun s k => by rw [goes_congr hm]; exact h.fair s ((hm s).1 k), fun s h1 h2 hg => (hm s).2 (hc s h1 h2 (by rwa [← goes_congr hm])), fun S hS s k => h.least S hS s ((hm s).1 k)⟩
end Go.Proofs.YtgbihmafmmeicaaGreatDoor.Mg
namespace Go.Proofs.YtgbihmafmmeicaaGreatDoor.Mg

def all64 (k : Nat) : List Int := (List.range k).map fun n : Nat => (n : Int) + 1
theorem all64_succ (k : Nat) : all64 (k + 1) = all64 k ++ [(k : Int) + 1] := by unfold all64; rw [List.range_succ, List.map_append]; rfl
theorem mem_all64 {k : Nat} {s : Int} : s ∈ all64 k ↔ 1 ≤ s ∧ s ≤ k := by
  unfold all64
  rw [List.mem_map]
  constructor
  · rintro ⟨n, hn, rfl⟩
    have := List.mem_range.1 hn
    omega
  · rintro ⟨h1, h2⟩
    exact ⟨(s - 1).toNat, List.mem_range.2 (by omega), by omega⟩
theorem all64_sorted : ∀ k, (all64 k).Pairwise (· < ·)
  | 0 => List.Pairwise.nil
  | k + 1 => by
    rw [all64_succ, List.pairwise_append]
    exact ⟨all64_sorted k, by simp, fun a ha b hb => by
      have := mem_all64.1 ha
      rw [List.mem_singleton] at hb
      omega⟩
def stepR (d : Dig) (cls now : Int) (S : List Int) (k : Nat) : List Int := (all64 k).filter (d.goes cls now S)
theorem stepR_yes {d : Dig} {cls now : Int} {S : List Int} {k : Nat} (h : d.goes cls now S ((k : Int) + 1) = true) : stepR d cls now S (k + 1) = stepR d cls now S k ++ [(k : Int) + 1] := by
  unfold stepR
  rw [all64_succ, List.filter_append]
  simp [h]
theorem stepR_no {d : Dig} {cls now : Int} {S : List Int} {k : Nat} (h : d.goes cls now S ((k : Int) + 1) = false) : stepR d cls now S (k + 1) = stepR d cls now S k := by
  unfold stepR
  rw [all64_succ, List.filter_append]
  simp [h]
theorem mem_stepR {d : Dig} {cls now : Int} {S : List Int} {k : Nat} {s : Int} : s ∈ stepR d cls now S k ↔ (1 ≤ s ∧ s ≤ k) ∧ d.goes cls now S s = true := by
  unfold stepR
  rw [List.mem_filter, mem_all64]
theorem stepR_len (d : Dig) (cls now : Int) (S : List Int) (k : Nat) : (stepR d cls now S k).length ≤ k := by
  unfold stepR
  have := List.length_filter_le (d.goes cls now S) (all64 k)
  unfold all64 at this
  rw [List.length_map, List.length_range] at this
  exact this
def iterR (d : Dig) (cls now : Int) : Nat → List Int
  | 0 => []
  | r + 1 => stepR d cls now (iterR d cls now r) 64
theorem iterR_sorted (d : Dig) (cls now : Int) : ∀ r, (iterR d cls now r).Pairwise (· < ·)
  | 0 => List.Pairwise.nil
  | _ + 1 => (all64_sorted 64).filter _
theorem iterR_range (d : Dig) (cls now : Int) : ∀ r, ∀ s ∈ iterR d cls now r, 1 ≤ s ∧ s ≤ 64
  | 0, s, h => by cases h
  | r + 1, s, h => by
    have := (mem_stepR.1 h).1
    omega
theorem iterR_len (d : Dig) (cls now : Int) : ∀ r, (iterR d cls now r).length ≤ 64
  | 0 => Nat.zero_le _
  | _ + 1 => stepR_len _ _ _ _ _
theorem iterR_up (d : Dig) (cls now : Int) : ∀ r, ∀ s ∈ iterR d cls now r, s ∈ iterR d cls now (r + 1)
  | 0, s, h => by cases h
  | r + 1, s, h => by
    have h2 := mem_stepR.1 h
    exact mem_stepR.2 ⟨h2.1, goes_mono (iterR_up d cls now r) h2.2⟩
theorem nodup_of_lt {l : List Int} (h : l.Pairwise (· < ·)) : l.Nodup := h.imp fun h => by omega
theorem iterR_stop (d : Dig) (cls now : Int) : ∀ r, r ≤ (iterR d cls now r).length ∨ ∀ s ∈ iterR d cls now (r + 1), s ∈ iterR d cls now r
  | 0 => .inl (Nat.zero_le _)
  | r + 1 => by
    rcases iterR_stop d cls now r with h | h
    · by_cases hx : ∀ s ∈ iterR d cls now (r + 1), s ∈ iterR d cls now r
      · exact .inr fun s hs => by
          have h2 := mem_stepR.1 hs
          exact mem_stepR.2 ⟨h2.1, goes_mono hx h2.2⟩
      · refine .inl ?_
        have hx2 : ∃ s, s ∈ iterR d cls now (r + 1) ∧ s ∉ iterR d cls now r := by
          refine Classical.byContradiction fun hn => hx fun s hs => Classical.byContradiction fun h2 => hn ⟨s, hs, h2⟩
        obtain ⟨s, h1, h2⟩ := hx2
        have := List.Nodup.length_le_of_subset (l₁ := s :: iterR d cls now r) (l₂ := iterR d cls now (r + 1)) (List.nodup_cons.2 ⟨h2, nodup_of_lt (iterR_sorted d cls now r)⟩) (fun t ht => by
          rcases List.mem_cons.1 ht with rfl | ht
          · exact h1
          · exact iterR_up d cls now r t ht)
        rw [List.length_cons] at this
        omega
    · exact .inr fun s hs => by
        have h2 := mem_stepR.1 hs
        exact mem_stepR.2 ⟨h2.1, goes_mono h h2.2⟩
theorem iterR_out (d : Dig) (cls now : Int) : OutIs d cls now (iterR d cls now 65) := by
  have hd : ∀ s ∈ iterR d cls now 66, s ∈ iterR d cls now 65 := by
    rcases iterR_stop d cls now 65 with h | h
    · have := iterR_len d cls now 65
      omega
    · exact h
  refine ⟨iterR_sorted d cls now 65, iterR_range d cls now 65, fun s hs => ?_, fun s h1 h2 hg => hd s (mem_stepR.2 ⟨⟨h1, h2⟩, hg⟩), fun S hS => ?_⟩
  · exact (mem_stepR.1 (iterR_up d cls now 65 s hs)).2
  · have hall : ∀ r, ∀ s ∈ iterR d cls now r, s ∈ S := fun r => by
      induction r with
      | zero => intro s hs; cases hs
      | succ r ih =>
        intro s hs
        have h2 := mem_stepR.1 hs
        exact hS s h2.1.1 h2.1.2 (goes_mono ih h2.2)
    exact hall 65
end Go.Proofs.YtgbihmafmmeicaaGreatDoor.Mg
namespace Go.Proofs.YtgbihmafmmeicaaGreatDoor
open Go.RowKit
theorem block_of_add (a : Addr) (n : Nat) : (a.add n).block = a.block := by unfold Addr.add; split <;> rfl
def Reads (w : World) (B size : Nat) (A : Option Addr) (n : Nat) (xs : List Value) : Prop :=
  xs.length = n * size ∧ (0 < n → ∃ ad, A = some ad ∧ ad.block < B ∧ ∀ j u, xs[j]? = some u → w.cell? (ad.add j) = some u)

section
variable {w w' : World} {B B' size n : Nat} {A : Option Addr} {xs : List Value}
theorem Reads.none_ : Reads w B size A 0 [] := ⟨by simp, fun h => absurd h (by omega)⟩
theorem Reads.at_ {k : Nat} (h : Reads w B 1 A n xs) (hk : k < n) : ∃ ad u, A = some ad ∧ ad.block < B ∧ xs[k]? = some u ∧ w.cell? (ad.add k) = some u := by
  obtain ⟨ad, e, hb, hc⟩ := h.2 (by omega)
  have hl : k < xs.length := by have := h.1; omega
  exact ⟨ad, xs[k], e, hb, List.getElem?_eq_getElem hl, hc k _ (List.getElem?_eq_getElem hl)⟩
theorem Reads.keep (h : Reads w B size A n xs) (hk : ∀ p : Addr, p.block < B → w'.cell? p = w.cell? p) : Reads w' B size A n xs :=
  ⟨h.1, fun hn => by
    obtain ⟨ad, e, hb, hc⟩ := h.2 hn
    exact ⟨ad, e, hb, fun j u hu => (hk _ (by rw [block_of_add]; exact hb)).trans (hc j u hu)⟩⟩
theorem Reads.more (h : Reads w B size A n xs) (hB : B ≤ B') : Reads w B' size A n xs :=
  ⟨h.1, fun hn => by
    obtain ⟨ad, e, hb, hc⟩ := h.2 hn
    exact ⟨ad, e, by omega, hc⟩⟩
theorem Reads.below (h : Reads w B size A n xs) (hb : Below B w w') : Reads w' B size A n xs := h.keep fun _ hp => hb.cell hp
theorem Reads.drew (h : Reads w B size A n xs) : Reads w.drew B size A n xs := h
theorem Reads.drewN (h : Reads w B size A n xs) (k : Nat) : Reads (w.drewN k) B size A n xs := h
theorem Reads.alloc (h : Reads w B size A n xs) (hB : B ≤ w.heap.size) (o : Obj) : Reads (w.alloc o) B size A n xs := h.keep fun p hp => World.cell?_alloc_lt w o p (by omega)
theorem Reads.setCell (h : Reads w B size A n xs) {p : Addr} (hB : B ≤ p.block) (u : Value) : Reads (w.setCell p u) B size A n xs :=
  h.keep fun q hq => World.cell?_setCell_other w p q u (fun e => by subst e; omega)
theorem Reads.grown (h : Reads w B size A n xs) {row : Option Nat} (hg : w.grownBy w' row) (hB : B ≤ w.heap.size) (hr : ∀ g, row = some g → B ≤ g) : Reads w' B size A n xs :=
  h.keep fun p hp => World.cell?_of_block (hg.block p.block (by omega) (fun e => by have := hr _ e.symm; omega))
end

section
variable {P : Program} (w : World)

theorem run_append_of_nil (base : Nat) (t ty e : TypeId) (i : TypeInfo) (size : Nat) (ht : P.underlying t = some (.slice e)) (hi : P.info? e = some i)
    (v : Value) (n : Nat) (xs : List Value) (hown : w.ownsRow base e size v n xs) (c : Nat) : (Builtin.append_ #[t, t] ty #[v, .slice none 0 c]).run P w = .ok v w := by
  rcases hown.2 with ⟨rfl, rfl⟩ | ⟨g, cap, cur, rfl, _, _, hnc, _⟩
  · simp [Builtin.append_, run_underlying ht, sizeOf, typeInfo, hi, Builtin.lenOf, Builtin.firstCells]
  · simp [Builtin.append_, run_underlying ht, sizeOf, typeInfo, hi, Builtin.lenOf, Builtin.firstCells, hnc, storeCells]

theorem run_append_any (base : Nat) (t ty e : TypeId) (i : TypeInfo) (z : Value) (size bytes : Nat) (ht : P.underlying t = some (.slice e)) (hi : P.info? e = some i) (hz : i.zero = some z)
    (hsize : i.size = size) (hby : i.bytes = bytes) (hzs : z.cells.size = size) (hsz : 0 < size)
    (v : Value) (n : Nat) (xs : List Value) (hown : w.ownsRow base e size v n xs)
    (B : Nat) (A : Option Addr) (m c : Nat) (news : List Value) (hr : Reads w B size A m news) (h1 : ∀ u ∈ news, u.oneCell' = true)
    (h63 : n + m ≤ maxLen) (hbytes : (n + m) * bytes ≤ 140737488355328) (hbase : base ≤ w.heap.size) :
    ∃ v' w', (Builtin.append_ #[t, t] ty #[v, .slice A m c]).run P w = .ok v' w' ∧ w'.ownsRow base e size v' (n + m) (xs ++ news) ∧ w.grownBy w' v.ownBlock ∧
      (v'.ownBlock = v.ownBlock ∨ v'.ownBlock = some w.heap.size) := by
  rcases A with _ | ad
  · have hm : m = 0 := by
      rcases Nat.eq_zero_or_pos m with h0 | h0
      · exact h0
      · obtain ⟨ad, h, _⟩ := hr.2 h0
        cases h
    subst hm
    have hn : news = [] := List.eq_nil_of_length_eq_zero (by simpa using hr.1)
    subst hn
    exact ⟨v, w, run_append_of_nil w base t ty e i size ht hi v n xs hown c, by simpa using hown, World.grownBy.refl w _, .inl rfl⟩
  · have hcells : ∀ j u, news[j]? = some u → w.cell? (ad.add j) = some u := by
      intro j u hu
      rcases Nat.eq_zero_or_pos m with h0 | h0
      · subst h0
        have hn : news = [] := List.eq_nil_of_length_eq_zero (by simpa using hr.1)
        subst hn
        simp at hu
      · obtain ⟨ad', h, _, hc⟩ := hr.2 h0
        injection h with h
        subst h
        exact hc j u hu
    obtain ⟨v', w', hrun, h2, h3, _, h5⟩ := run_append_own_at (P := P) w base t ty e i z size bytes ht hi hz hsize hby hzs hsz v n xs hown ad m c news hr.1 hcells h1 h63 hbytes hbase
    exact ⟨v', w', hrun, h2, h3, h5⟩

theorem wp_append_any {o : Oper} {a : Act} {K : Act → World → Prop} {Q : Exit → Act → World → Prop} (s x : Operand) (t : TypeId)
    (ho : o.op = .call { callee := .builtin .append, args := #[s, x], argTypes := #[t, t] })
    (base : Nat) (e : TypeId) (i : TypeInfo) (z : Value) (size bytes : Nat) (ht : P.underlying t = some (.slice e)) (hi : P.info? e = some i) (hz : i.zero = some z)
    (hsize : i.size = size) (hby : i.bytes = bytes) (hzs : z.cells.size = size) (hsz : 0 < size)
    (v : Value) (n : Nat) (xs : List Value) (hs : a.eval s = v) (hown : w.ownsRow base e size v n xs)
    (B : Nat) (A : Option Addr) (m c : Nat) (news : List Value) (hx : a.eval x = .slice A m c) (hr : Reads w B size A m news) (h1 : ∀ u ∈ news, u.oneCell' = true)
    (h63 : n + m ≤ maxLen) (hbytes : (n + m) * bytes ≤ 140737488355328) (hbase : base ≤ w.heap.size)
    (h : ∀ v' w', w'.ownsRow base e size v' (n + m) (xs ++ news) → w.grownBy w' v.ownBlock → (v'.ownBlock = v.ownBlock ∨ v'.ownBlock = some w.heap.size) → K (a.put o.dst v') w') : o.wp P a w K Q := by
  obtain ⟨v', w', hrun, h2, h3, h4⟩ := run_append_any (P := P) w base t o.type e i z size bytes ht hi hz hsize hby hzs hsz v n xs hown B A m c news hr h1 h63 hbytes hbase
  unfold Oper.wp execOp
  simp only [ho, resolve, invoke, builtin, Sem.run_bind, Sem.run_pure, Result.andThen_ok, List.map_toArray, List.map_cons, List.map_nil, hs, hx, hrun]
  exact h v' w' h2 h3 h4

theorem wpList_append_any {ops : Array Oper} {rest : List Oper} {o : Oper} {a : Act} {Q : Exit → Act → World → Prop} (hgd : o.guard = none) (s x : Operand) (t : TypeId)
    (ho : o.op = .call { callee := .builtin .append, args := #[s, x], argTypes := #[t, t] })
    (base : Nat) (e : TypeId) (i : TypeInfo) (z : Value) (size bytes : Nat) (ht : P.underlying t = some (.slice e)) (hi : P.info? e = some i) (hz : i.zero = some z)
    (hsize : i.size = size) (hby : i.bytes = bytes) (hzs : z.cells.size = size) (hsz : 0 < size)
    (v : Value) (n : Nat) (xs : List Value) (hs : a.eval s = v) (hown : w.ownsRow base e size v n xs)
    (B : Nat) (A : Option Addr) (m c : Nat) (news : List Value) (hx : a.eval x = .slice A m c) (hr : Reads w B size A m news) (h1 : ∀ u ∈ news, u.oneCell' = true)
    (h63 : n + m ≤ maxLen) (hbytes : (n + m) * bytes ≤ 140737488355328) (hbase : base ≤ w.heap.size)
    (h : ∀ v' w', w'.ownsRow base e size v' (n + m) (xs ++ news) → w.grownBy w' v.ownBlock → (v'.ownBlock = v.ownBlock ∨ v'.ownBlock = some w.heap.size) → wpList P ops Q rest (a.put o.dst v') w') : wpList P ops Q (o :: rest) a w :=
  wpList_plain hgd fun _ hK => wp_append_any w s x t ho base e i z size bytes ht hi hz hsize hby hzs hsz v n xs hs hown B A m c news hx hr h1 h63 hbytes hbase fun v' w' h2 h3 h4 => hK _ _ (h v' w' h2 h3 h4)

end

end Go.Proofs.YtgbihmafmmeicaaGreatDoor
namespace Go.Proofs.YtgbihmafmmeicaaGreatDoor
open Go.RowKit Go.Maps

def heldV (v : Value) : Option (DataW Value × List MemPlace) := some (.held v, [])
def okI (i : Int) : Prop := -9223372036854775808 ≤ i ∧ i ≤ 9223372036854775807
theorem okI_wf {i : Int} (h : okI i) : (Lit.int .i64 i).wf = true := by
  obtain ⟨h1, h2⟩ := h
  have e1 : IntKind.i64.min = -9223372036854775808 := by decide
  have e2 : IntKind.i64.max = 9223372036854775807 := by decide
  simp only [Lit.wf, e1, e2, Bool.and_eq_true, decide_eq_true_eq]
  exact ⟨h1, h2⟩
def keysL (l : List (Int × Value)) : List Int := l.map Prod.fst
def getL (l : List (Int × Value)) (i : Int) : Option Value := (l.find? (fun p => decide (p.1 = i))).map Prod.snd
theorem getL_none {l : List (Int × Value)} {i : Int} (h : i ∉ keysL l) : getL l i = none := by
  unfold getL
  rw [List.find?_eq_none.2]
  · rfl
  · intro p hp e
    exact h (List.mem_map.2 ⟨p, hp, by simpa using e⟩)
theorem getL_isSome {l : List (Int × Value)} {i : Int} : (getL l i).isSome = decide (i ∈ keysL l) := by
  by_cases h : i ∈ keysL l
  · rw [decide_eq_true h]
    obtain ⟨p, hp, rfl⟩ := List.mem_map.1 h
    unfold getL
    rw [Option.isSome_map, List.find?_isSome]
    exact ⟨p, hp, by simp⟩
  · rw [getL_none h, decide_eq_false h]; rfl
theorem getL_snoc_same {l : List (Int × Value)} {i : Int} {v : Value} (h : i ∉ keysL l) : getL (l ++ [(i, v)]) i = some v := by
  have := getL_none h
  unfold getL at this ⊢
  rw [List.find?_append]
  rw [Option.map_eq_none_iff] at this
  rw [this]; simp
theorem getL_snoc_other {l : List (Int × Value)} {i j : Int} {v : Value} (h : i ≠ j) : getL (l ++ [(i, v)]) j = getL l j := by
  unfold getL
  rw [List.find?_append, List.find?_singleton]
  rw [if_neg (by simpa using h), Option.or_none]

def IMap (P : Program) (k : TypeId) (w : World) (b : Nat) (l : List (Int × Value)) : Prop :=
  ∃ D : DataW Value, w.ownsMap P k heldV b l.length D ∧ (keysL l).Nodup ∧ (∀ p ∈ l, okI p.1) ∧ Maps.size D = l.length ∧
    ∀ i, okI i → Maps.has D (.int .i64 i) = decide (i ∈ keysL l) ∧ ∀ z, D.atKey (.int .i64 i) (.held z) = .held ((getL l i).getD z)

section
variable {P : Program} {k : TypeId} {w w' : World} {b : Nat} {l : List (Int × Value)}
theorem IMap.made (P : Program) (k : TypeId) (w : World) : IMap P k (w.alloc (.map #[] 0)) w.heap.size [] :=
  ⟨_, World.ownsMap_made w P k heldV, List.nodup_nil, by simp, rfl, fun i _ => ⟨rfl, fun _ => rfl⟩⟩
theorem IMap.lt (h : IMap P k w b l) : b < w.heap.size := by obtain ⟨D, h, _⟩ := h; exact h.lt
theorem IMap.nodup (h : IMap P k w b l) : (keysL l).Nodup := by obtain ⟨D, _, h, _⟩ := h; exact h
theorem IMap.okI (h : IMap P k w b l) : ∀ i ∈ keysL l, okI i := by
  obtain ⟨D, _, _, h, _⟩ := h
  intro i hi
  obtain ⟨p, hp, rfl⟩ := List.mem_map.1 hi
  exact h p hp
theorem IMap.of_block (h : IMap P k w b l) (e : w'.heap[b]? = w.heap[b]?) : IMap P k w' b l := by
  obtain ⟨D, ⟨es, clock, hb, r⟩, h2⟩ := h
  exact ⟨D, ⟨es, clock, e.trans hb, r⟩, h2⟩
theorem IMap.upd {F : Nat → Prop} (h : IMap P k w b l) (hu : Upd F w w') (hn : ¬ F b) : IMap P k w' b l := h.of_block (hu.block _ h.lt hn)
theorem IMap.below {B : Nat} (h : IMap P k w b l) (hu : Below B w w') (hn : b < B) : IMap P k w' b l := h.of_block (hu.block _ hn)
theorem IMap.grown {row : Option Nat} (h : IMap P k w b l) (hu : w.grownBy w' row) (hn : some b ≠ row) : IMap P k w' b l := h.of_block (hu.block _ h.lt hn)
theorem IMap.alloc (h : IMap P k w b l) (o : Obj) : IMap P k (w.alloc o) b l := h.of_block (Below.heap_alloc _ _ _ h.lt)
theorem IMap.drew (h : IMap P k w b l) : IMap P k w.drew b l := h
theorem IMap.setCell (h : IMap P k w b l) {p : Addr} (u : Value) (hn : b ≠ p.block) : IMap P k (w.setCell p u) b l := h.of_block (Below.heap_setCell _ _ _ _ hn)
theorem IMap.look (h : IMap P k w b l) (hk : P.underlying k = some (.int .i64)) {t e : TypeId} (ht : P.underlying t = some (.map k e)) {z : Value} (hz : (zeroValue e).run P w = .ok z w) {i : Int} (hi : Go.Proofs.YtgbihmafmmeicaaGreatDoor.okI i) :
    (Instr.lookup t (.map (some b)) (.int .i64 i) false).run P w = .ok ((getL l i).getD z) w := by
  obtain ⟨D, ho, _, _, _, hD⟩ := h
  obtain ⟨v, ps, hr, hv⟩ := ho.lookup (int_keyed hk) ht hz (zd := .held z) (zp := []) rfl (keyOf_int_mk hk (okI_wf hi))
  rw [(hD i hi).2 z] at hv
  have : v = (getL l i).getD z := by
    have := (Option.some.inj hv)
    injection this with h1 _
    injection h1
  rw [← this]; exact hr
theorem IMap.lookOk (h : IMap P k w b l) (hk : P.underlying k = some (.int .i64)) {t e : TypeId} (ht : P.underlying t = some (.map k e)) {z : Value} (hz : (zeroValue e).run P w = .ok z w) {i : Int} (hi : Go.Proofs.YtgbihmafmmeicaaGreatDoor.okI i) :
    (Instr.lookup t (.map (some b)) (.int .i64 i) true).run P w = .ok (.tuple #[(getL l i).getD z, .bool (getL l i).isSome]) w := by
  obtain ⟨D, ho, _, _, _, hD⟩ := h
  obtain ⟨v, ps, hr, hv⟩ := ho.look_ok (int_keyed hk) ht hz (zd := .held z) (zp := []) rfl (keyOf_int_mk hk (okI_wf hi))
  rw [(hD i hi).2 z] at hv
  have : v = (getL l i).getD z := by
    have := (Option.some.inj hv)
    injection this with h1 _
    injection h1
  rw [← this, getL_isSome, ← (hD i hi).1]; exact hr
theorem IMap.store (h : IMap P k w b l) (hk : P.underlying k = some (.int .i64)) {t e : TypeId} (ht : P.underlying t = some (.map k e)) (hl : l.length < maxLen) {i : Int} (hi : Go.Proofs.YtgbihmafmmeicaaGreatDoor.okI i) (hn : i ∉ keysL l) (v : Value) :
    ∃ w', (Instr.mapUpdate t (.map (some b)) (.int .i64 i) v).run P w = .ok () w' ∧ IMap P k w' b (l ++ [(i, v)]) ∧ w.grownBy w' (some b) := by
  obtain ⟨D, ho, h1, h2, h3, hD⟩ := h
  have hkey := keyOf_int_mk (P := P) hk (okI_wf hi)
  obtain ⟨w', hr, ho', hg⟩ := ho.update (int_keyed hk) ht hl hkey (val := v) (d := .held v) (ps := []) rfl
  have hkl : WideAt.IsKeyLit (.int .i64 i) := trivial
  have hks : keysL (l ++ [(i, v)]) = keysL l ++ [i] := by unfold keysL; simp
  refine ⟨w', hr, ⟨_, by simpa using ho', ?_, ?_, ?_, fun j hj => ?_⟩, hg⟩
  · rw [hks]
    exact List.nodup_append.2 ⟨h1, by simp, fun a ha c hc e => by simp at hc; subst hc; subst e; exact hn ha⟩
  · intro p hp
    rcases List.mem_append.1 hp with hp | hp
    · exact h2 p hp
    · simp at hp; subst hp; exact hi
  · rw [size_put (ho.tidy (int_keyed hk)), (hD i hi).1, decide_eq_false hn, h3]; simp
  · rw [hks]
    by_cases e : j = i
    · subst e
      rw [has_put_same ho.isMap hkl]
      refine ⟨by simp, fun z => ?_⟩
      rw [atKey_put_same ho.isMap hkl, getL_snoc_same hn]; rfl
    · have hne : (Lit.int .i64 j) ≠ .int .i64 i := fun h => e (by injection h)
      rw [has_put_other hne, (hD j hj).1]
      refine ⟨by simp [e], fun z => ?_⟩
      rw [atKey_put_other hne, (hD j hj).2 z, getL_snoc_other (Ne.symm e)]
theorem IMap.len (h : IMap P k w b l) {t e : TypeId} (ht : P.underlying t = some (.map k e)) (ty : TypeId) : (Builtin.len_ #[t] ty #[.map (some b)]).run P w = .ok (.int .i64 l.length) w := by
  obtain ⟨D, ho, _, _, h3, _⟩ := h
  rw [← h3]; exact ho.len ht ty
end

section
variable {P : Program} (w : World) {ops : Array Oper} {rest : List Oper} {o : Oper} {a : Act} {Q : Exit → Act → World → Prop}
theorem wpList_imap_lookOk (hg : o.guard = none) (m x : Operand) (t : TypeId) (hop : o.op = Op.lookup t m x true) (k e : TypeId) (hk : P.underlying k = some (.int .i64)) (ht : P.underlying t = some (.map k e)) {z : Value} (hz : (zeroValue e).run P w = .ok z w) (b : Nat) (l : List (Int × Value))
    (hm : a.eval m = .map (some b)) (h : IMap P k w b l) (i : Int) (hx : a.eval x = .int .i64 i) (hi : okI i) (u : Value) (ok : Bool) (hu : (getL l i).getD z = u) (ho : (getL l i).isSome = ok)
    (hK : wpList P ops Q rest (a.put o.dst (.tuple #[u, .bool ok])) w) : wpList P ops Q (o :: rest) a w := by
  refine wpList_plain hg fun K' hK' => ?_
  have hrun := h.lookOk hk ht hz hi
  rw [hu, ho] at hrun
  unfold Oper.wp
  simp [execOp, hop, hm, hx, hrun, Result.andThen]
  exact hK' _ _ hK
variable {F : Fence} {nF : Nat}
end
end Go.Proofs.YtgbihmafmmeicaaGreatDoor
namespace Go.Proofs.YtgbihmafmmeicaaGreatDoor
open Go.RowKit Mg

def Sees (mem : Addr → Option Value) (w : World) : Prop := ∀ a v, mem a = some v → w.cell? a = some v
def SliceOf (v : Value) (n b o : Nat) : Prop := n ≤ maxLen ∧ ∃ ao cap, v = .slice ao n cap ∧ n ≤ cap ∧ cap ≤ maxLen ∧ (0 < n → ao = some ⟨b, o, none⟩)
def IntsM (mem : Addr → Option Value) (v : Value) (l : List Int) : Prop := ∃ b o, SliceOf v l.length b o ∧ ∀ j (h : j < l.length), mem ⟨b, o + j, none⟩ = some (.int .i64 l[j])
def BlkAt (mem : Addr → Option Value) (x : Blk) (b o : Nat) : Prop :=
  (mem ⟨b, o, none⟩ = some (.int .i64 x.id) ∧ mem ⟨b, o + 1, none⟩ = some (.int .i64 x.kind) ∧ mem ⟨b, o + 2, none⟩ = some (.string x.text) ∧ mem ⟨b, o + 3, none⟩ = some (.int .i64 x.story) ∧ mem ⟨b, o + 4, none⟩ = some (.int .i64 x.ref)) ∧
  (mem ⟨b, o + 5, none⟩ = some (.int .i64 x.lab.till) ∧ mem ⟨b, o + 7, none⟩ = some (.int .i64 x.lab.appr) ∧ mem ⟨b, o + 8, none⟩ = some (.int .i64 x.lab.denied)) ∧ (x.text.size ≤ maxLen ∧ okI x.kind ∧ okI x.id) ∧
  ∃ av, mem ⟨b, o + 6, none⟩ = some av ∧ IntsM mem av x.lab.after
def BlksAt (mem : Addr → Option Value) (l : List Blk) (b o : Nat) : Prop := ∀ j (h : j < l.length), BlkAt mem l[j] b (o + j * 9)
def BlksM (mem : Addr → Option Value) (v : Value) (l : List Blk) : Prop := ∃ b o, SliceOf v l.length b o ∧ BlksAt mem l b o
abbrev labCells (x : Lab) (av : Value) : Array Value := #[.int .i64 x.till, av, .int .i64 x.appr, .int .i64 x.denied]
abbrev blkCells (x : Blk) (av : Value) : Array Value := #[.int .i64 x.id, .int .i64 x.kind, .string x.text, .int .i64 x.story, .int .i64 x.ref, .int .i64 x.lab.till, av, .int .i64 x.lab.appr, .int .i64 x.lab.denied]

section
variable {mem mem' : Addr → Option Value} {w w' : World}
theorem Sees.upd {G : Nat → Prop} (h : Sees mem w) (hu : Upd G w w') (hn : ∀ a v, mem a = some v → ¬ G a.block) : Sees mem w' :=
  fun a v hv => hu.cell_some (h a v hv) (hn a v hv)
theorem Sees.below {B : Nat} (h : Sees mem w) (hB : w.heap.size ≤ B) (hb : Below B w w') : Sees mem w' :=
  fun a v hv => (hb.cell (Nat.lt_of_lt_of_le (World.block_lt_of_cell? w a (h a v hv)) hB)).trans (h a v hv)
theorem Sees.bel (h : Sees mem w) (hb : Below w.heap.size w w') : Sees mem w' := h.below (Nat.le_refl _) hb
theorem Sees.alloc (h : Sees mem w) (o : Obj) : Sees mem (w.alloc o) := h.bel ((Below.refl _ w).alloc (Nat.le_refl _) _)
theorem Sees.drew (h : Sees mem w) : Sees mem w.drew := h
theorem Sees.drewN (h : Sees mem w) (n : Nat) : Sees mem (w.drewN n) := h
theorem Sees.self (w : World) : Sees (fun a => w.cell? a) w := fun _ _ h => h
theorem IntsM.mono {v : Value} {l : List Int} (h : IntsM mem v l) (hm : ∀ a u, mem a = some u → mem' a = some u) : IntsM mem' v l := by
  obtain ⟨b, o, h1, h2⟩ := h
  exact ⟨b, o, h1, fun j hj => hm _ _ (h2 j hj)⟩
theorem BlkAt.mono {x : Blk} {b o : Nat} (h : BlkAt mem x b o) (hm : ∀ a u, mem a = some u → mem' a = some u) : BlkAt mem' x b o := by
  obtain ⟨⟨h0, h1, h2, h3, h4⟩, ⟨h5, h7, h8⟩, hs, av, h6, hi⟩ := h
  exact ⟨⟨hm _ _ h0, hm _ _ h1, hm _ _ h2, hm _ _ h3, hm _ _ h4⟩, ⟨hm _ _ h5, hm _ _ h7, hm _ _ h8⟩, hs, av, hm _ _ h6, hi.mono hm⟩
theorem BlksAt.mono {l : List Blk} {b o : Nat} (h : BlksAt mem l b o) (hm : ∀ a u, mem a = some u → mem' a = some u) : BlksAt mem' l b o := fun j hj => (h j hj).mono hm
theorem BlksM.mono {v : Value} {l : List Blk} (h : BlksM mem v l) (hm : ∀ a u, mem a = some u → mem' a = some u) : BlksM mem' v l := by
  obtain ⟨b, o, h1, h2⟩ := h
  exact ⟨b, o, h1, h2.mono hm⟩
theorem sliceNil : SliceOf (.slice none 0 0) 0 0 0 := ⟨by unfold maxLen; omega, none, 0, rfl, Nat.le_refl _, by unfold maxLen; omega, fun h => absurd h (by omega)⟩
theorem IntsM.nil (mem : Addr → Option Value) : IntsM mem (.slice none 0 0) [] := ⟨0, 0, sliceNil, fun j hj => absurd hj (by simp)⟩
theorem BlksM.nil (mem : Addr → Option Value) : BlksM mem (.slice none 0 0) [] := ⟨0, 0, sliceNil, fun j hj => absurd hj (by simp)⟩
theorem IntsM.open_ {v : Value} {l : List Int} (h : IntsM mem v l) (hs : Sees mem w) : ∃ ao cap b o, v = .slice ao l.length cap ∧ l.length ≤ cap ∧ cap ≤ maxLen ∧ (0 < l.length → ao = some ⟨b, o, none⟩) ∧ ∀ j (h : j < l.length), w.cell? ⟨b, o + j, none⟩ = some (.int .i64 l[j]) := by
  obtain ⟨b, o, ⟨_, ao, cap, h1, h2, h3, h4⟩, h5⟩ := h
  exact ⟨ao, cap, b, o, h1, h2, h3, h4, fun j hj => hs _ _ (h5 j hj)⟩
theorem IntsM.slice {v : Value} {l : List Int} (h : IntsM mem v l) : ∃ ao cap, v = .slice ao l.length cap := by
  obtain ⟨b, o, ⟨_, ao, cap, h1, _⟩, _⟩ := h
  exact ⟨ao, cap, h1⟩
theorem BlkAt.cells {x : Blk} {b o : Nat} (h : BlkAt mem x b o) (hs : Sees mem w) : ∃ av, IntsM mem av x.lab.after ∧ ∀ j (hj : j < 9), w.cell? ⟨b, o + j, none⟩ = some ((blkCells x av)[j]'(by simpa using hj)) := by
  obtain ⟨⟨h0, h1, h2, h3, h4⟩, ⟨h5, h7, h8⟩, _, av, h6, hi⟩ := h
  refine ⟨av, hi, fun j hj => ?_⟩
  match j, hj with
  | 0, _ => exact hs _ _ h0
  | 1, _ => exact hs _ _ h1
  | 2, _ => exact hs _ _ h2
  | 3, _ => exact hs _ _ h3
  | 4, _ => exact hs _ _ h4
  | 5, _ => exact hs _ _ h5
  | 6, _ => exact hs _ _ h6
  | 7, _ => exact hs _ _ h7
  | 8, _ => exact hs _ _ h8
end
structure Cells9 (w : World) (b o : Nat) (x : Blk) (av : Value) : Prop where
  c0 : w.cell? ⟨b, o, none⟩ = some (.int .i64 x.id)
  c1 : w.cell? ⟨b, o + 1, none⟩ = some (.int .i64 x.kind)
  c2 : w.cell? ⟨b, o + 2, none⟩ = some (.string x.text)
  c3 : w.cell? ⟨b, o + 3, none⟩ = some (.int .i64 x.story)
  c4 : w.cell? ⟨b, o + 4, none⟩ = some (.int .i64 x.ref)
  c5 : w.cell? ⟨b, o + 5, none⟩ = some (.int .i64 x.lab.till)
  c6 : w.cell? ⟨b, o + 6, none⟩ = some av
  c7 : w.cell? ⟨b, o + 7, none⟩ = some (.int .i64 x.lab.appr)
  c8 : w.cell? ⟨b, o + 8, none⟩ = some (.int .i64 x.lab.denied)
theorem BlkAt.nine {mem : Addr → Option Value} {w : World} {x : Blk} {b o : Nat} (h : BlkAt mem x b o) (hs : Sees mem w) : (x.text.size ≤ maxLen ∧ okI x.kind ∧ okI x.id) ∧ ∃ ao cap, IntsM mem (.slice ao x.lab.after.length cap) x.lab.after ∧ Cells9 w b o x (.slice ao x.lab.after.length cap) := by
  obtain ⟨⟨h0, h1, h2, h3, h4⟩, ⟨h5, h7, h8⟩, hp, av, h6, hi⟩ := h
  obtain ⟨ao, cap, rfl⟩ := hi.slice
  exact ⟨hp, ao, cap, hi, hs _ _ h0, hs _ _ h1, hs _ _ h2, hs _ _ h3, hs _ _ h4, hs _ _ h5, hs _ _ h6, hs _ _ h7, hs _ _ h8⟩
theorem BlksM.open_ {mem : Addr → Option Value} {v : Value} {l : List Blk} (h : BlksM mem v l) : ∃ ao cap b o, v = .slice ao l.length cap ∧ l.length ≤ cap ∧ cap ≤ maxLen ∧ (0 < l.length → ao = some ⟨b, o, none⟩) ∧ BlksAt mem l b o := by
  obtain ⟨b, o, ⟨_, ao, cap, h1, h2, h3, h4⟩, h5⟩ := h
  exact ⟨ao, cap, b, o, h1, h2, h3, h4, h5⟩
theorem BlksM.slice {mem : Addr → Option Value} {v : Value} {l : List Blk} (h : BlksM mem v l) : ∃ ao cap, v = .slice ao l.length cap := by
  obtain ⟨ao, cap, _, _, h, _⟩ := h.open_; exact ⟨ao, cap, h⟩
end Go.Proofs.YtgbihmafmmeicaaGreatDoor
namespace Go.Proofs.YtgbihmafmmeicaaGreatDoor
open Go.RowKit Mg

theorem ret_bool {a b : Bool} (h : a = b) : Ending.returned (.bool a) = .returned (.bool b) := by rw [h]
def inB (x : Int × Int × Int) : Bool := decide (x.2.1 ≤ x.1) && decide (x.1 ≤ x.2.2)
theorem all_take {α : Type} {p : α → Bool} {l : List α} (k : Nat) (hk : k < l.length) : (l.take (k + 1)).all p = ((l.take k).all p && p l[k]) := by
  rw [List.take_succ_eq_append_getElem hk, List.all_append]; simp
theorem all_of_not {α : Type} {p : α → Bool} {l : List α} (k : Nat) (hk : k < l.length) (h : p l[k] = false) : l.all p = false := by
  rw [List.all_eq_false]; exact ⟨l[k], List.getElem_mem hk, by rw [h]; simp⟩
theorem all_full {α : Type} {p : α → Bool} {l : List α} (h : (l.take l.length).all p = true) : l.all p = true := by rwa [List.take_length] at h

set_option maxHeartbeats 400000 in
theorem within_any (g cap : Nat) (l : List (Int × Int × Int)) (w : World) (hl : l.length ≤ 1000) (hc : l.length ≤ cap)
    (h : ∀ j (hj : j < l.length), w.cell? ⟨g, j * 3, none⟩ = some (.int .i64 l[j].1) ∧ w.cell? ⟨g, j * 3 + 1, none⟩ = some (.int .i64 l[j].2.1) ∧ w.cell? ⟨g, j * 3 + 2, none⟩ = some (.int .i64 l[j].2.2)) :
    Calls Tryz.prog 73 #[.slice (some ⟨g, 0, none⟩) l.length cap] w fun e w' => e = .returned (.bool (l.all inB)) ∧ Below w.heap.size w w' := by
  have H := Lib.hid h
  have HC := Lib.hid hc
  clear h hc
  go_enter Tryz.func73, Tryz.ntmps73
  go_wp2
  go_loopw [7] (fun i wr => ∃ k : Nat, k ≤ l.length ∧ i = .int .i64 k ∧ Below w.heap.size w wr ∧ (l.take k).all inB = true) (fun i _ => l.length - (intOf i).toNat)
  case atStart => exact ⟨0, Nat.zero_le _, rfl, Below.refl _ _, rfl⟩
  case round =>
    obtain ⟨k, hk, rfl, hb, ha⟩ := hrel
    have HA := Lib.hid ha
    clear ha
    by_cases hlt : k < l.length
    · obtain ⟨c0, c1, c2⟩ := H.out k hlt
      have hcell : ∀ (o : Nat) (v : Value), w.cell? ⟨g, o, none⟩ = some v → wr.cell? ⟨g, o, none⟩ = some v := fun o v hv => (hb.cell (p := ⟨g, o, none⟩) (World.block_lt_of_cell? w _ hv)).trans hv
      replace c0 := hcell _ _ c0
      replace c1 := hcell _ _ c1
      replace c2 := hcell _ _ c2
      have HS : Hid ((l.take (k + 1)).all inB = (decide (l[k].2.1 ≤ l[k].1) && decide (l[k].1 ≤ l[k].2.2))) := Lib.hid (by rw [all_take k hlt, HA.out]; rfl)
      have HN : Hid (inB l[k] = false → l.all inB = false) := Lib.hid (all_of_not k hlt)
      have HE : Hid (inB l[k] = (decide (l[k].2.1 ≤ l[k].1) && decide (l[k].1 ≤ l[k].2.2))) := Lib.hid rfl
      generalize l[k].1 = x at *
      generalize l[k].2.1 = y at *
      generalize l[k].2.2 = z at *
      clear hcell
      go_wp2
      all_goals first
        | (go_roundw
           case rel => exact ⟨k + 1, by omega, by go_num, hb.alloc hb.size _, by rw [HS.out, Bool.and_eq_true, decide_eq_true_eq, decide_eq_true_eq]; omega⟩
           case measure => simp [intOf]; omega)
        | (go_ret
           exact ⟨ret_bool (by rw [HN.out (by rw [HE.out, Bool.and_eq_false_iff, decide_eq_false_iff_not, decide_eq_false_iff_not]; omega)]), hb.alloc hb.size _⟩)
    · have e : k = l.length := by omega
      subst e
      go_wp2
      go_ret
      exact ⟨ret_bool (by rw [all_full HA.out]), hb⟩
theorem cell_new {w : World} {cs : Array Value} {t : TypeId} {g j : Nat} {v : Value} (hg : g = w.heap.size) (h : cs[j]? = some v) : (w.alloc (.cells cs t)).cell? ⟨g, j, none⟩ = some v := by
  subst hg
  rw [World.cell?_alloc_at _ _ _ _ (by first | rfl | simp)]; exact h
theorem cell_old {w : World} {o : Obj} {p : Addr} {v : Value} (h : w.cell? p = some v) : (w.alloc o).cell? p = some v := by
  rw [World.cell?_alloc_lt _ _ _ (World.block_lt_of_cell? w p h)]; exact h
theorem afterOK_cons {last s : Int} {r : List Int} : afterOK last (s :: r) = (decide (last + 1 ≤ s) && decide (s ≤ 64) && afterOK s r) := rfl

set_option maxRecDepth 10000 in
set_option maxHeartbeats 1000000 in
theorem labValid_any {mem : Addr → Option Value} (x : Lab) (av : Value) (hi : IntsM mem av x.after) (w : World) (hs : Sees mem w) :
    Calls Tryz.prog 72 #[.agg (labCells x av)] w fun e w' => e = .returned (.bool (validLab x)) ∧ Below w.heap.size w w' := by
  obtain ⟨ao, cap, b, o, rfl, hcap, hm, hao, hcells⟩ := hi.open_ hs
  have HAO := Lib.hid hao
  have HC := Lib.hid hcells
  have hlen : (x.after.length : Int) ≤ 9223372036854775807 := by unfold maxLen at hm; omega
  clear hao hcells hi hs hcap hm
  have HV : Hid (validLab x = (([(x.till, 0, 1000000000), (x.appr, 0, 5), (x.denied, 0, 15)] : List (Int × Int × Int)).all inB && afterOK 0 x.after)) := Lib.hid (by
    unfold validLab
    simp [inB, Bool.and_assoc])
  go_enter Tryz.func72, Tryz.ntmps72
  go_wp2_with fail
  refine (within_any _ _ [(x.till, 0, 1000000000), (x.appr, 0, 5), (x.denied, 0, 15)] _ (by simp) (by simp) ?_).mono ?_
  · intro j hj
    match j, hj with
    | 0, _ => exact ⟨cell_new (by simp) rfl, cell_new (by simp) rfl, cell_new (by simp) rfl⟩
    | 1, _ => exact ⟨cell_new (by simp) rfl, cell_new (by simp) rfl, cell_new (by simp) rfl⟩
    | 2, _ => exact ⟨cell_new (by simp) rfl, cell_new (by simp) rfl, cell_new (by simp) rfl⟩
  rintro e w1 ⟨rfl, hb1⟩
  have hB1 : Below w.heap.size w w1 := (((Below.refl _ w).alloc (Nat.le_refl _) _).alloc (by simp) _).trans (hb1.mono (by simp; omega))
  have hc1 : w1.cell? ⟨w.heap.size, 1, none⟩ = some (.slice ao x.after.length cap) := (hb1.cell (p := ⟨w.heap.size, 1, none⟩) (by simp <;> omega)).trans (cell_old (cell_new rfl rfl))
  clear hb1
  generalize hP : ([(x.till, 0, 1000000000), (x.appr, 0, 5), (x.denied, 0, 15)] : List (Int × Int × Int)).all inB = P at *
  clear hP
  cases P with
  | false =>
    go_wp2_with fail
    go_ret
    exact ⟨ret_bool (by rw [HV.out]; rfl), hB1⟩
  | true =>
    go_wp2_with fail
    go_loopw [21, 3] (fun i s wr => ∃ (k : Nat) (last : Int), k ≤ x.after.length ∧ i = .int .i64 k ∧ s = .int .i64 last ∧ 0 ≤ last ∧ last ≤ 64 ∧ Below w.heap.size w wr ∧ Hid (afterOK 0 x.after = afterOK last (x.after.drop k))) (fun i _ _ => x.after.length - (intOf i).toNat)
    case atStart => exact ⟨0, 0, Nat.zero_le _, rfl, rfl, by omega, by omega, hB1, Lib.hid rfl⟩
    case round =>
      obtain ⟨k, last, hk, rfl, rfl, hl0, hl1, hb, ha⟩ := hrel
      by_cases hlt : k < x.after.length
      · have hcell := HC.out k hlt
        obtain rfl := HAO.out (by omega)
        have hcw := (hb.cell (p := ⟨b, o + k, none⟩) (World.block_lt_of_cell? w _ hcell)).trans hcell
        have HD : Hid (afterOK 0 x.after = (inB (x.after[k], last + 1, 64) && afterOK x.after[k] (x.after.drop (k + 1)))) := Lib.hid (by rw [ha.out, List.drop_eq_getElem_cons hlt, afterOK_cons]; rfl)
        have HI : Hid (inB (x.after[k], last + 1, 64) = true → last + 1 ≤ x.after[k] ∧ x.after[k] ≤ 64) := Lib.hid (by simp [inB])
        clear hcell ha
        generalize x.after[k] = s at *
        go_wp2_with fail
        refine (within_any _ _ [(s, last + 1, 64)] _ (by simp) (by simp) ?_).mono ?_
        · intro j hj
          match j, hj with
          | 0, _ => exact ⟨cell_new (by simp) rfl, cell_new (by simp) rfl, cell_new (by simp) rfl⟩
        rintro e w2 ⟨rfl, hb2⟩
        have hB2 : Below w.heap.size w w2 := (hb.alloc hb.size _).trans (hb2.mono (by have := hb.size; simp; omega))
        have e1 : ([(s, last + 1, 64)] : List (Int × Int × Int)).all inB = inB (s, last + 1, 64) := by simp
        rw [e1]
        clear hb2 e1
        generalize inB (s, last + 1, 64) = Q at *
        cases Q with
        | false =>
          go_wp2_with fail
          go_ret
          exact ⟨ret_bool (by rw [HV.out, HD.out]; rfl), hB2⟩
        | true =>
          have hq := HI.out rfl
          go_wp2_with fail
          go_roundw
          case rel => exact ⟨k + 1, s, by omega, by go_num, rfl, by omega, by omega, hB2, Lib.hid HD.out⟩
          case measure => simp [intOf]; omega
      · have e : k = x.after.length := by omega
        subst e
        have HF : Hid (afterOK 0 x.after = true) := Lib.hid (by rw [ha.out, List.drop_length]; rfl)
        go_wp2_with fail
        go_ret
        exact ⟨ret_bool (by rw [HV.out, HF.out]; rfl), hb⟩
end Go.Proofs.YtgbihmafmmeicaaGreatDoor
namespace Go.Proofs.YtgbihmafmmeicaaGreatDoor
open Go.RowKit Mg

theorem below_drewN {B : Nat} {a w : World} (h : Below B a w) (n : Nat) : Below B a (w.drewN n) := ⟨h.os, h.tape, h.output, h.size, h.block⟩
theorem take_step {α : Type} {l m : List α} {k : Nat} (h1 : k < l.length) (h2 : k < m.length) (h : l.take k = m.take k) (e : l[k] = m[k]) : l.take (k + 1) = m.take (k + 1) := by
  rw [List.take_succ_eq_append_getElem h1, List.take_succ_eq_append_getElem h2, h, e]
theorem ne_of_get {α : Type} {l m : List α} {k : Nat} (h1 : k < l.length) (h2 : k < m.length) (e : l[k] ≠ m[k]) : l ≠ m := fun h => by subst h; exact e rfl
theorem eq_full {α : Type} {l m : List α} (hl : l.length = m.length) (h : l.take l.length = m.take l.length) : l = m := by
  rw [List.take_length] at h
  rw [h]; rw [hl, List.take_length]

set_option maxHeartbeats 1000000 in
theorem equal_any {mem : Addr → Option Value} (v u : Value) (l m : List Int) (h1 : IntsM mem v l) (h2 : IntsM mem u m) (w : World) (hs : Sees mem w) :
    Calls Tryz.prog 100 #[v, u] w fun e w' => e = .returned (.bool (decide (l = m))) ∧ Below w.heap.size w w' := by
  obtain ⟨ao, cap, b, o, rfl, hcap, hm, hao, hcells⟩ := h1.open_ hs
  obtain ⟨ao2, cap2, b2, o2, rfl, hcap2, hm2, hao2, hcells2⟩ := h2.open_ hs
  have HA := Lib.hid hao
  have HA2 := Lib.hid hao2
  have HC := Lib.hid hcells
  have HC2 := Lib.hid hcells2
  have hlen : (l.length : Int) ≤ 9223372036854775807 := by unfold maxLen at hm; omega
  have hlen2 : (m.length : Int) ≤ 9223372036854775807 := by unfold maxLen at hm2; omega
  clear hao hao2 hcells hcells2 hs h1 h2 hcap hcap2 hm hm2
  by_cases hl : l.length = m.length
  · have HL := Lib.hid hl
    rw [← hl]
    clear hl
    go_enter Tryz.func100, Tryz.ntmps100
    go_wp2_with fail
    go_loopw [13] (fun i wr => ∃ k : Nat, k ≤ l.length ∧ i = .int .i64 k ∧ Below w.heap.size w wr ∧ Hid (l.take k = m.take k)) (fun i _ => l.length - (intOf i).toNat)
    case atStart => exact ⟨0, Nat.zero_le _, rfl, Below.refl _ _, Lib.hid rfl⟩
    case round =>
      obtain ⟨k, hk, rfl, hb, ht⟩ := hrel
      by_cases hlt : k < l.length
      · have hlt2 : k < m.length := by rw [← HL.out]; exact hlt
        have c1 := HC.out k hlt
        have c2 := HC2.out k hlt2
        obtain rfl := HA.out (by omega)
        obtain rfl := HA2.out (by omega)
        replace c1 := (hb.cell (p := ⟨b, o + k, none⟩) (World.block_lt_of_cell? w _ c1)).trans c1
        replace c2 := (hb.cell (p := ⟨b2, o2 + k, none⟩) (World.block_lt_of_cell? w _ c2)).trans c2
        have HE : Hid (l[k] = m[k] → l.take (k + 1) = m.take (k + 1)) := Lib.hid (take_step hlt hlt2 ht.out)
        have HN : Hid (l[k] ≠ m[k] → l ≠ m) := Lib.hid (ne_of_get hlt hlt2)
        generalize l[k] = x at *
        generalize m[k] = y at *
        have hk0 : (0 : Int) ≤ k := by omega
        have hk1 : (k : Int) < l.length := by omega
        clear ht hlt2
        by_cases hxy : x = y
        · subst hxy
          have HE2 := Lib.hid (HE.out rfl)
          clear HE
          go_wp2_with fail
          go_quiet (fail)
          go_wp2_with fail
          go_roundw
          case rel => exact ⟨k + 1, by omega, by go_num, below_drewN hb _, HE2⟩
          case measure => simp [intOf]; omega
        · have hne : (x != y) = true := by simpa using hxy
          have HNE := Lib.hid hxy
          clear hxy
          go_wp2_with fail
          go_quiet (fail)
          go_wp2_with fail
          go_ret
          exact ⟨ret_bool (by symm; exact decide_eq_false (HN.out HNE.out)), below_drewN hb _⟩
      · have e : k = l.length := by omega
        subst e
        have HF : Hid (l = m) := Lib.hid (eq_full HL.out ht.out)
        go_wp2_with fail
        go_ret
        exact ⟨ret_bool (by symm; exact decide_eq_true HF.out), hb⟩
  · have hne : decide (l.length = m.length) = false := decide_eq_false hl
    have HNE : Hid (l ≠ m) := Lib.hid (fun e => hl (by rw [e]))
    go_enter Tryz.func100, Tryz.ntmps100
    go_wp2_with fail
    all_goals first
      | (go_ret
         exact ⟨ret_bool (by symm; exact decide_eq_false HNE.out), Below.refl _ _⟩)
      | (exfalso; simp_all; done)
theorem lab_dec (t p d t2 p2 d2 : Int) (l m : List Int) : decide (({ till := t, after := l, appr := p, denied := d } : Lab) = { till := t2, after := m, appr := p2, denied := d2 }) = (decide (t = t2) && (decide (l = m) && (decide (p = p2) && decide (d = d2)))) := by
  simp only [Lab.mk.injEq, Bool.decide_and]

set_option maxRecDepth 10000 in
set_option maxHeartbeats 1000000 in
theorem labSame_any {mem : Addr → Option Value} (x y : Lab) (av bv : Value) (h1 : IntsM mem av x.after) (h2 : IntsM mem bv y.after) (w : World) (hs : Sees mem w) :
    Calls Tryz.prog 83 #[.agg (labCells x av), .agg (labCells y bv)] w fun e w' => e = .returned (.bool (decide (x = y))) ∧ Below w.heap.size w w' := by
  obtain ⟨t, l, p, d⟩ := x
  obtain ⟨t2, m, p2, d2⟩ := y
  obtain ⟨ao, cap, rfl⟩ := h1.slice
  obtain ⟨ao2, cap2, rfl⟩ := h2.slice
  dsimp only at h1 h2
  have HR := Lib.hid (lab_dec t p d t2 p2 d2 l m)
  have hB0 : ∀ o o', Below w.heap.size w ((w.alloc o).alloc o') := fun o o' => ((Below.refl _ w).alloc (Nat.le_refl _) _).alloc (by simp) _
  have HB0 := Lib.hid hB0
  clear hB0
  by_cases e1 : t = t2
  · subst e1
    have HE := Lib.hid (fun W hW => equal_any _ _ l m h1 h2 W hW)
    have HS := Lib.hid hs
    clear h1 h2 hs
    go_enter Tryz.func83, Tryz.ntmps83
    go_wp2_with fail
    refine (HE.out _ ((HS.out.alloc _).alloc _)).mono ?_
    rintro e w1 ⟨rfl, hb⟩
    have hB := (HB0.out _ _).trans (hb.mono (by simp <;> omega))
    have hc : ∀ (j : Nat) (u : Value), (labCells { till := t, after := l, appr := p, denied := d } (.slice ao l.length cap))[j]? = some u → w1.cell? ⟨w.heap.size, j, none⟩ = some u := fun j u hu => (hb.cell (p := ⟨w.heap.size, j, none⟩) (by simp <;> omega)).trans (cell_old (cell_new rfl hu))
    have hc' : ∀ (j : Nat) (u : Value), (labCells { till := t, after := m, appr := p2, denied := d2 } (.slice ao2 m.length cap2))[j]? = some u → w1.cell? ⟨w.heap.size + 1, j, none⟩ = some u := fun j u hu => (hb.cell (p := ⟨w.heap.size + 1, j, none⟩) (by simp <;> omega)).trans (cell_new (by simp) hu)
    have c2 := hc 2 _ rfl
    have c3 := hc 3 _ rfl
    have d2' := hc' 2 _ rfl
    have d3 := hc' 3 _ rfl
    clear hc hc' hb
    generalize decide (l = m) = q at *
    cases q with
    | false =>
      go_wp2_with fail
      go_ret
      exact ⟨ret_bool (by rw [HR.out]; simp), hB⟩
    | true =>
      by_cases e2 : p = p2
      · subst e2
        by_cases e3 : d = d2
        · subst e3
          go_wp2_with fail
          go_ret
          exact ⟨ret_bool (by rw [HR.out]; simp), hB⟩
        · have n3 : (d == d2) = false := by simpa using e3
          have E3 := Lib.hid e3
          clear e3
          go_wp2_with fail
          go_ret
          exact ⟨ret_bool (by rw [HR.out]; simp [E3.out]), hB⟩
      · have n2 : (p == p2) = false := by simpa using e2
        have E2 := Lib.hid e2
        clear e2
        go_wp2_with fail
        go_ret
        exact ⟨ret_bool (by rw [HR.out]; simp [E2.out]), hB⟩
  · have n1 : (t == t2) = false := by simpa using e1
    have E1 := Lib.hid e1
    clear e1 h1 h2 hs
    go_enter Tryz.func83, Tryz.ntmps83
    go_wp2_with fail
    go_ret
    exact ⟨ret_bool (by rw [HR.out]; simp [E1.out]), HB0.out _ _⟩
end Go.Proofs.YtgbihmafmmeicaaGreatDoor
namespace Go.Proofs.YtgbihmafmmeicaaGreatDoor
open Go.RowKit Mg Go.Shelf

def encI (i : Int) : Value := .int .i64 i
def IRow (w : World) (B : Nat) (v : Value) (l : List Int) : Prop := w.ownsRow B 3 1 v l.length (l.map encI)
theorem int_info : (Tryz.prog.info? 3).map (fun i => (i.zero, i.size, i.bytes)) = some (some (.int .i64 0), 1, 8) := by kernel_rfl
theorem setCells_heap (g : Nat) (e : TypeId) : ∀ (vs : List Value) (o : Nat) (w : World) (cur : Array Value), w.heap[g]? = some (.cells cur e (0, 0)) → ∃ cur', (w.setCells g o vs).heap[g]? = some (.cells cur' e (0, 0)) ∧ cur'.size = cur.size
  | [], _, _, cur, h => ⟨cur, h, rfl⟩
  | v :: r, o, w, cur, h => by
    obtain ⟨cur', h1, h2⟩ := setCells_heap g e r (o + 1) (w.setCell ⟨g, o, none⟩ v) _ (heap_setCell_same w g o cur e v h)
    exact ⟨cur', by rw [World.setCells]; exact h1, by rw [h2, Array.size_setIfInBounds]⟩
theorem setCells_grown (g : Nat) : ∀ (vs : List Value) (o : Nat) (w a : World), a.grownBy w (some g) → a.grownBy (w.setCells g o vs) (some g)
  | [], _, _, _, h => h
  | v :: r, o, w, a, h => by
    rw [World.setCells]
    exact setCells_grown g r (o + 1) _ a ⟨h.os, h.tape, h.output, by simpa [World.setCell] using h.size, fun k hk hn => (Below.heap_setCell w ⟨g, o, none⟩ v k (fun e => hn (by rw [e]))).trans (h.block k hk hn)⟩
theorem row_of_cells {w : World} {B g cap : Nat} {e : TypeId} {cur : Array Value} {xs : List Value} (hB : B ≤ g) (hh : w.heap[g]? = some (.cells cur e (0, 0))) (hn : xs.length ≤ cap) (hc : cap ≤ maxLen) (hs : cur.size = cap)
    (hx : ∀ j u, xs[j]? = some u → w.cell? ⟨g, j, none⟩ = some u) : w.ownsRow B e 1 (.slice (some ⟨g, 0, none⟩) xs.length cap) xs.length xs := by
  refine ⟨by simp, .inr ⟨g, cap, cur, rfl, hB, hh, hn, hc, by omega, ?_⟩⟩
  refine List.ext_getElem? fun j => ?_
  rw [Nat.mul_one, List.getElem?_take]
  by_cases h : j < xs.length
  · rw [if_pos h]
    have h1 := hx j xs[j] (List.getElem?_eq_getElem h)
    unfold World.cell? at h1
    simp [hh] at h1
    rw [Array.getElem?_toList, h1, List.getElem?_eq_getElem h]
  · rw [if_neg h, List.getElem?_eq_none (by omega)]
theorem IRow.shape {w : World} {B : Nat} {v : Value} {l : List Int} (h : IRow w B v l) : ∃ ao cap, v = .slice ao l.length cap := by
  rcases h.2 with ⟨h1, h2⟩ | ⟨g, cap, cur, h1, _⟩
  · exact ⟨none, 0, by rw [h1, h2]⟩
  · exact ⟨_, cap, h1⟩
theorem IRow.cells {w : World} {B : Nat} {v : Value} {l : List Int} (h : IRow w B v l) (j : Nat) (hj : j < l.length) : ∃ g cap, v = .slice (some ⟨g, 0, none⟩) l.length cap ∧ l.length ≤ cap ∧ cap ≤ maxLen ∧ B ≤ g ∧ w.cell? ⟨g, j, none⟩ = some (.int .i64 l[j]) := by
  rcases h.2 with ⟨_, h2⟩ | ⟨g, cap, cur, h1, hb, hh, h4, h5, h6, h7⟩
  · omega
  · refine ⟨g, cap, h1, h4, h5, hb, ?_⟩
    have := World.ownsRow.cells h (g := g) (by rw [h1]; rfl) j (encI l[j]) (by simp [hj])
    rwa [Addr.add_lit, Nat.zero_add] at this
theorem IRow.ints {w : World} {B : Nat} {v : Value} {l : List Int} (h : IRow w B v l) : IntsM (fun a => w.cell? a) v l := by
  rcases h.2 with ⟨h1, h2⟩ | ⟨g, cap, cur, h1, hb, hh, h4, h5, h6, h7⟩
  · have : l = [] := List.eq_nil_of_length_eq_zero h2
    subst this; subst h1; exact IntsM.nil _
  · refine ⟨g, 0, ⟨by omega, _, cap, h1, h4, h5, fun _ => rfl⟩, fun j hj => ?_⟩
    obtain ⟨g', cap', e, _, _, _, hc⟩ := h.cells j hj
    rw [h1] at e
    injection e with e1
    injection e1 with e1
    injection e1 with e1
    subst e1
    rw [Nat.zero_add]; exact hc
theorem IRow.kept {w w' : World} {B : Nat} {v : Value} {l : List Int} {F : Nat → Prop} (h : IRow w B v l) (hu : Upd F w w') (hn : ∀ k, v.ownBlock = some k → ¬ F k) : IRow w' B v l := by
  refine ⟨h.1, ?_⟩
  rcases h.2 with hn | ⟨g, cap, cur, rfl, hb, hgg, rest⟩
  · exact .inl hn
  · exact .inr ⟨g, cap, cur, rfl, hb, (hu.block g (Array.getElem?_eq_some_iff.1 hgg).1 (hn g rfl)).trans hgg, rest⟩
theorem IRow.ge {w : World} {B : Nat} {v : Value} {l : List Int} (h : IRow w B v l) : ∀ k, v.ownBlock = some k → B ≤ k := fun k hk => (World.ownsRow.lt h k hk).1
theorem IRow.lt {w : World} {B : Nat} {v : Value} {l : List Int} (h : IRow w B v l) : ∀ k, v.ownBlock = some k → k < w.heap.size := fun k hk => (World.ownsRow.lt h k hk).2

def idxI (l : List Int) (x : Int) : Int := if x ∈ l then (l.idxOf x : Nat) else -1
theorem ret_int {a b : Int} (h : a = b) : Ending.returned (.int .i64 a) = .returned (.int .i64 b) := by rw [h]
section
variable {ops : Array Oper} {rest : List Oper} {o : Oper} {a : Act} {w : World} {Q : Exit → Act → World → Prop}
theorem run_app_int {B : Nat} {v : Value} {l : List Int} (h : IRow w B v l) (x : Int) (g cap : Nat) (hc : w.cell? ⟨g, 0, none⟩ = some (.int .i64 x)) (hlen : l.length ≤ 100000) (hB : B ≤ w.heap.size) (ty : Nat) :
    ∃ v' w', (Builtin.append_ #[30, 30] ty #[v, .slice (some ⟨g, 0, none⟩) 1 cap]).run Tryz.prog w = .ok v' w' ∧ IRow w' B v' (l ++ [x]) ∧ w.grownBy w' v.ownBlock ∧ (v'.ownBlock = v.ownBlock ∨ v'.ownBlock = some w.heap.size) := by
  obtain ⟨i0, hi, hz0, hz1, hz2⟩ := info_parts int_info
  obtain ⟨v', w', hr, h2, h3, _, h5⟩ := run_append_own_at (P := Tryz.prog) w B 30 ty 3 i0 (.int .i64 0) 1 8 Tryz.underlying30 hi hz0 hz1 hz2 rfl (by decide) v l.length (l.map encI) h ⟨g, 0, none⟩ 1 cap [.int .i64 x] rfl
    (fun j u hj => by
      match j, hj with
      | 0, hj => simp at hj; subst hj; simpa [Addr.add] using hc)
    (by simp [Value.oneCell']) (by unfold maxLen; omega) (by omega) hB
  exact ⟨v', w', hr, by unfold IRow; simpa [encI] using h2, h3, h5⟩
theorem wpList_app_int (hgd : o.guard = none) (s x : Operand) (ho : o.op = .call { callee := .builtin .append, args := #[s, x], argTypes := #[30, 30] })
    (B : Nat) (v : Value) (l : List Int) (hs : a.eval s = v) (hown : IRow w B v l) (i : Int) (g cap : Nat) (hx : a.eval x = .slice (some ⟨g, 0, none⟩) 1 cap) (hc : w.cell? ⟨g, 0, none⟩ = some (.int .i64 i)) (hlen : l.length ≤ 100000) (hB : B ≤ w.heap.size)
    (h : ∀ v' w', IRow w' B v' (l ++ [i]) → w.grownBy w' v.ownBlock → (v'.ownBlock = v.ownBlock ∨ v'.ownBlock = some w.heap.size) → wpList Tryz.prog ops Q rest (a.put o.dst v') w') : wpList Tryz.prog ops Q (o :: rest) a w := by
  refine wpList_plain hgd fun K hK => ?_
  obtain ⟨v', w', hr, h2, h3, h4⟩ := run_app_int hown i g cap hc hlen hB o.type
  unfold Oper.wp execOp
  simp only [ho, resolve, invoke, builtin, Sem.run_bind, Sem.run_pure, Result.andThen_ok, List.map_toArray, List.map_cons, List.map_nil, hs, hx, hr]
  exact hK _ _ (h v' w' h2 h3 h4)
end

theorem IRow.alloc {w : World} {B : Nat} {v : Value} {l : List Int} (h : IRow w B v l) (o : Obj) : IRow (w.alloc o) B v l := World.ownsRow.alloc h o
theorem IRow.sl {w : World} {B : Nat} {v : Value} {l : List Int} (h : IRow w B v l) : ∃ ao n cap, v = .slice ao n cap := by
  obtain ⟨ao, cap, e⟩ := h.shape; exact ⟨ao, _, cap, e⟩
theorem grown_none {a b : World} (h : Below a.heap.size a b) : a.grownBy b none := ⟨h.os, h.tape, h.output, h.size, fun k hk _ => h.block k hk⟩

theorem cell_lt {W : World} {a : Addr} {u : Value} (h : W.cell? a = some u) : a.block < W.heap.size := World.block_lt_of_cell? W a h
theorem blk_cell {W : World} {g : Nat} {cs : Array Value} {t : TypeId} (h : W.heap[g]? = some (.cells cs t (0, 0))) (j : Nat) : W.cell? ⟨g, j, none⟩ = cs[j]? := by
  unfold World.cell?; simp [h]
theorem blk_free {W : World} {g : Nat} {cs : Array Value} {t : TypeId} (h : W.heap[g]? = some (.cells cs t (0, 0))) (j : Nat) : W.frozen? ⟨g, j, none⟩ = false := by
  unfold World.frozen?; simp only [h]; simp
theorem IRow.bel {w w' : World} {B : Nat} {v : Value} {l : List Int} (h : IRow w B v l) (hb : Below w.heap.size w w') : IRow w' B v l :=
  IRow.kept (F := fun k => w.heap.size ≤ k) h (Upd.of_below hb) (fun k e => by have := h.lt k e; omega)
theorem heap_new2 (w : World) (A B : Obj) : ((w.alloc A).alloc B).heap[w.heap.size + 1]? = some B := by
  have := World.alloc_heap_new (w.alloc A) B
  rwa [World.size_alloc] at this
end Go.Proofs.YtgbihmafmmeicaaGreatDoor
namespace Go.Proofs.YtgbihmafmmeicaaGreatDoor
open Go.RowKit Mg Go.Shelf

set_option maxHeartbeats 1000000 in
theorem index_any {mem : Addr → Option Value} (v : Value) (l : List Int) (h : IntsM mem v l) (x : Int) (w : World) (hs : Sees mem w) :
    Calls Tryz.prog 86 #[v, .int .i64 x] w fun e w' => e = .returned (.int .i64 (idxI l x)) ∧ w = w' := by
  obtain ⟨ao, cap, b, o, rfl, hcap, hm, hao, hcells⟩ := h.open_ hs
  have HA := Lib.hid hao
  have HC := Lib.hid hcells
  have hlen : (l.length : Int) ≤ 9223372036854775807 := by unfold maxLen at hm; omega
  clear hao hcells hs h hcap hm
  go_enter Tryz.func86, Tryz.ntmps86
  go_wp2_with fail
  go_loop [8] (fun i => ∃ k : Nat, k ≤ l.length ∧ i = .int .i64 k ∧ Hid (x ∉ l.take k)) (fun i => l.length - (intOf i).toNat)
  case atStart => exact ⟨0, Nat.zero_le _, rfl, Lib.hid (by simp)⟩
  case round =>
    obtain ⟨k, hk, rfl, hn⟩ := hrel
    by_cases hlt : k < l.length
    · have c1 := HC.out k hlt
      obtain rfl := HA.out (by omega)
      have HE : Hid (l[k] = x → idxI l x = k) := Lib.hid (fun e => by
        unfold idxI
        have hm : x ∈ l := e ▸ List.getElem_mem hlt
        rw [if_pos hm]
        have hs : l = l.take k ++ l[k] :: l.drop (k + 1) := by rw [← List.drop_eq_getElem_cons hlt, List.take_append_drop]
        have : l.idxOf x = k := by
          rw [hs, List.idxOf_append, if_neg hn.out, e]
          simp; omega
        rw [this])
      have HN : Hid (l[k] ≠ x → x ∉ l.take (k + 1)) := Lib.hid (fun e => by
        rw [List.take_succ_eq_append_getElem hlt]
        intro hm
        rcases List.mem_append.1 hm with hm | hm
        · exact hn.out hm
        · simp at hm; exact e hm.symm)
      generalize l[k] = y at *
      clear hn
      by_cases hxy : x = y
      · have e1 : (x == y) = true := by simpa using hxy
        have HF := Lib.hid (HE.out hxy.symm)
        clear hxy HE HN
        go_wp2_with fail
        go_ret
        exact ⟨ret_int (by rw [HF.out]), rfl⟩
      · have e1 : (x == y) = false := by simpa using hxy
        have HF := Lib.hid (HN.out (fun e => hxy e.symm))
        clear hxy HE HN
        go_wp2_with fail
        go_round
        case rel => exact ⟨k + 1, by omega, by go_num, HF⟩
        case measure => simp [intOf]; omega
    · have e : k = l.length := by omega
      subst e
      have HF : Hid (x ∉ l) := Lib.hid (by have := hn.out; rwa [List.take_length] at this)
      go_wp2_with fail
      go_ret
      exact ⟨ret_int (by unfold idxI; rw [if_neg HF.out]), rfl⟩

end Go.Proofs.YtgbihmafmmeicaaGreatDoor
namespace Go.Proofs.YtgbihmafmmeicaaGreatDoor.Mg

def isPub (s : Int) (f : Fct) : Bool := decide (f.kind = 3) && decide (f.story = s)
def lastPub : List Fct → Int → Option Fct
  | [], _ => none
  | f :: r, s => match lastPub r s with
    | some g => some g
    | none => if isPub s f then some f else none
def byEditor (s e : Int) (f : Fct) : Bool := decide (f.kind = 2) && decide (f.story = s) && decide (f.editor = e)
def apprF (D : List Fct) (s : Int) : Int := (((List.range 5).filter fun e : Nat => D.any (byEditor s ((e : Int) + 1))).length : Nat)
def isTake (s : Int) (f : Fct) : Bool := decide (f.kind = 6) && decide (f.story = s)
def takenF (D : List Fct) (s : Int) : Bool := D.any (isTake s)
def labOf (o : Option Fct) : Lab := match o with
  | some f => f.lab
  | none => lab0
def digF (D : List Fct) : Dig := ⟨fun s => (lastPub D s).isSome, fun s => labOf (lastPub D s), apprF D⟩
theorem lastPub_snoc (f : Fct) (s : Int) : ∀ D : List Fct, lastPub (D ++ [f]) s = if isPub s f then some f else lastPub D s
  | [] => by
    show lastPub [f] s = _
    unfold lastPub
    rfl
  | g :: r => by
    show lastPub (g :: (r ++ [f])) s = _
    unfold lastPub
    rw [lastPub_snoc f s r]
    by_cases h : isPub s f = true
    · rw [if_pos h, if_pos h]
    · rw [if_neg h, if_neg h]
theorem lastPub_mem : ∀ {D : List Fct} {s : Int} {f : Fct}, lastPub D s = some f → f ∈ D ∧ isPub s f = true
  | [], _, _, h => by cases h
  | g :: r, s, f, h => by
    unfold lastPub at h
    split at h
    · next e =>
      injection h with h
      subst h
      obtain ⟨h1, h2⟩ := lastPub_mem e
      exact ⟨List.mem_cons_of_mem _ h1, h2⟩
    · split at h
      · next hp => injection h with h; subst h; exact ⟨List.mem_cons_self, hp⟩
      · cases h
theorem lastPub_none : ∀ {D : List Fct} {s : Int}, lastPub D s = none ↔ ∀ f ∈ D, isPub s f = false
  | [], _ => by simp [lastPub]
  | g :: r, s => by
    have ih := lastPub_none (D := r) (s := s)
    unfold lastPub
    cases h : lastPub r s with
    | some x =>
      simp only [reduceCtorEq, false_iff]
      intro hh
      have := ih.2 (fun f hf => hh f (List.mem_cons_of_mem _ hf))
      rw [h] at this; cases this
    | none =>
      have h2 := ih.1 h
      by_cases hp : isPub s g = true
      · simp only [hp, if_true, reduceCtorEq, false_iff]
        intro hh
        have := hh g List.mem_cons_self
        rw [hp] at this; cases this
      · simp only [hp]
        simp only [Bool.not_eq_true] at hp
        refine ⟨fun _ f hf => ?_, fun _ => rfl⟩
        rcases List.mem_cons.1 hf with rfl | hf
        · exact hp
        · exact h2 f hf
structure Scn where
  D : List Fct
  cls : Int
  now : Int
  out : List Int
def Scn.ok (c : Scn) (s : Int) (l : Lab) : Bool := allows l c.cls c.now c.out (apprF c.D s)
def Scn.shown (c : Scn) (s : Int) : Bool := decide (s ∈ c.out) && !takenF c.D s
def Scn.isOpen (c : Scn) (s : Int) (l : Lab) : Bool := c.shown s && c.ok s l
def isRev (s : Int) (lang : ByteArray) (rev : Int) (f : Fct) : Bool := decide (f.kind = 1) && decide (f.story = s) && decide (f.lang = lang) && decide (f.rev = rev)
def lastRev : List Fct → Int → ByteArray → Int → Option Fct
  | [], _, _, _ => none
  | f :: r, s, lang, rev => match lastRev r s lang rev with
    | some g => some g
    | none => if isRev s lang rev f then some f else none
theorem lastRev_snoc (f : Fct) (s : Int) (lang : ByteArray) (rev : Int) : ∀ D : List Fct, lastRev (D ++ [f]) s lang rev = if isRev s lang rev f then some f else lastRev D s lang rev
  | [] => by
    show lastRev [f] s lang rev = _
    unfold lastRev
    rfl
  | g :: r => by
    show lastRev (g :: (r ++ [f])) s lang rev = _
    unfold lastRev
    rw [lastRev_snoc f s lang rev r]
    by_cases h : isRev s lang rev f = true
    · rw [if_pos h, if_pos h]
    · rw [if_neg h, if_neg h]
theorem lastRev_mem : ∀ {D : List Fct} {s : Int} {lang : ByteArray} {rev : Int} {f : Fct}, lastRev D s lang rev = some f → f ∈ D ∧ isRev s lang rev f = true
  | [], _, _, _, _, h => by cases h
  | g :: r, s, lang, rev, f, h => by
    unfold lastRev at h
    split at h
    · next e =>
      injection h with h
      subst h
      obtain ⟨h1, h2⟩ := lastRev_mem e
      exact ⟨List.mem_cons_of_mem _ h1, h2⟩
    · split at h
      · next hp => injection h with h; subst h; exact ⟨List.mem_cons_self, hp⟩
      · cases h
def ancF (c : Scn) (s : Int) (lang : ByteArray) : Nat → Int → Int
  | 0, _ => 0
  | n + 1, b => if b = 0 then 0 else match lastRev c.D s lang b with
    | none => 0
    | some p => if c.isOpen p.story p.lab then b else ancF c s lang n p.base
def bareB (b : Blk) : Blk := { b with lab := lab0 }
def stripF (f : Fct) : Fct := { f with topics := [], blocks := [], lab := lab0 }
def revisedF (c : Scn) (f : Fct) : Fct := { f with blocks := (f.blocks.filter fun b => c.isOpen f.story b.lab).map bareB, lab := lab0, base := ancF c f.story f.lang 101 f.base }
abbrev Plc := Int → ByteArray → Int → Bool
def placeB (s : Int) (lang : ByteArray) (v : Blk → Bool) (pl : Plc) (b : Blk) : Plc := fun s' lang' i => if s' = s ∧ lang' = lang ∧ i = b.id then v b else pl s' lang' i
def placeF (c : Scn) (pl : Plc) (f : Fct) : Plc :=
  if f.kind = 1 then f.blocks.foldl (placeB f.story f.lang fun b => c.isOpen f.story f.lab && c.isOpen f.story b.lab) pl else pl
def placesF (c : Scn) (l : List Fct) : Plc := l.foldl (placeF c) (fun _ _ _ => false)
def seenAt (c : Scn) (pl : Plc) (f : Fct) : List Fct :=
  if f.kind = 7 then [stripF f]
  else if f.kind = 3 ∨ f.kind = 6 then (if f.story ∈ c.out then [stripF f] else [])
  else if f.kind = 5 then (if c.shown f.story then [stripF f] else [])
  else if f.kind = 4 then (if pl f.story f.lang f.block then [stripF f] else [])
  else if f.kind = 1 then (if c.isOpen f.story f.lab then [revisedF c f] else [])
  else []
def visGo (c : Scn) : Plc → List Fct → List Fct
  | _, [] => []
  | pl, f :: r => seenAt c pl f ++ visGo c (placeF c pl f) r
def visC (c : Scn) : List Fct := visGo c (fun _ _ _ => false) c.D
theorem visGo_app (c : Scn) : ∀ (l m : List Fct) (pl : Plc), visGo c pl (l ++ m) = visGo c pl l ++ visGo c (l.foldl (placeF c) pl) m
  | [], _, _ => rfl
  | f :: l, m, pl => by
    show seenAt c pl f ++ visGo c _ (l ++ m) = _
    rw [visGo_app c l m, ← List.append_assoc]; rfl
def visK (c : Scn) (k : Nat) : List Fct := visGo c (fun _ _ _ => false) (c.D.take k)
theorem visK_succ (c : Scn) {k : Nat} (hk : k < c.D.length) : visK c (k + 1) = visK c k ++ seenAt c (placesF c (c.D.take k)) c.D[k] := by
  unfold visK
  rw [List.take_succ_eq_append_getElem hk, visGo_app]
  show _ ++ (seenAt c _ _ ++ []) = _
  rw [List.append_nil]; rfl
theorem places_succ (c : Scn) {k : Nat} (hk : k < c.D.length) : placesF c (c.D.take (k + 1)) = placeF c (placesF c (c.D.take k)) c.D[k] := by
  unfold placesF
  rw [List.take_succ_eq_append_getElem hk, List.foldl_append]; rfl
theorem visK_all (c : Scn) : visK c c.D.length = visC c := by unfold visK visC; rw [List.take_length]
def visOf (D : List Fct) (cls now : Int) (out : List Int) : List Fct := if 0 ≤ cls ∧ cls < 4 then visC ⟨D, cls, now, out⟩ else []
def endsAt (now : Int) (f : Fct) : List Int := ((if f.kind = 3 ∨ f.kind = 1 then [f.lab.till] else []) ++ f.blocks.map (fun b => b.lab.till)).filter (fun t => decide (now < t))
def endsF (now : Int) (D : List Fct) : List Int := D.flatMap (endsAt now)
end Go.Proofs.YtgbihmafmmeicaaGreatDoor.Mg
namespace Go.Proofs.YtgbihmafmmeicaaGreatDoor.Mg

theorem filter_len_mono {α : Type} {p q : α → Bool} (h : ∀ x, p x = true → q x = true) : ∀ l : List α, (l.filter p).length ≤ (l.filter q).length
  | [] => Nat.le_refl _
  | x :: l => by
    have ih := filter_len_mono h l
    by_cases hp : p x = true
    · rw [List.filter_cons_of_pos hp, List.filter_cons_of_pos (h x hp)]; simpa using ih
    · rw [List.filter_cons_of_neg hp]
      by_cases hq : q x = true
      · rw [List.filter_cons_of_pos hq]; simp; omega
      · rw [List.filter_cons_of_neg hq]; exact ih
theorem apprF_nonneg (D : List Fct) (s : Int) : 0 ≤ apprF D s := Int.natCast_nonneg _
end Go.Proofs.YtgbihmafmmeicaaGreatDoor.Mg
namespace Go.Proofs.YtgbihmafmmeicaaGreatDoor.Mg

theorem seenAt_form {c : Scn} {pl : Plc} {f g : Fct} (h : g ∈ seenAt c pl f) : seenAt c pl f = [g] ∧ g.n = f.n ∧ g.kind = f.kind ∧ g.story = f.story ∧ g.time = f.time ∧ g.lang = f.lang ∧ g.rev = f.rev ∧ g.lab = lab0 ∧ (∀ b ∈ g.blocks, b.lab = lab0) ∧ (g = stripF f ∨ g = revisedF c f ∧ f.kind = 1) := by
  have hs : ∀ x ∈ ([stripF f] : List Fct), x = g → ([stripF f] : List Fct) = [g] ∧ g.n = f.n ∧ g.kind = f.kind ∧ g.story = f.story ∧ g.time = f.time ∧ g.lang = f.lang ∧ g.rev = f.rev ∧ g.lab = lab0 ∧ (∀ b ∈ g.blocks, b.lab = lab0) ∧ (g = stripF f ∨ g = revisedF c f ∧ f.kind = 1) := by
    intro x hx e
    rw [List.mem_singleton] at hx
    subst hx e
    exact ⟨rfl, rfl, rfl, rfl, rfl, rfl, rfl, rfl, fun b hb => (by cases hb), .inl rfl⟩
  unfold seenAt at h ⊢
  by_cases h7 : f.kind = 7
  · rw [if_pos h7] at h ⊢; exact hs g h rfl
  rw [if_neg h7] at h ⊢
  by_cases h3 : f.kind = 3 ∨ f.kind = 6
  · rw [if_pos h3] at h ⊢
    by_cases hq : f.story ∈ c.out
    · rw [if_pos hq] at h ⊢; exact hs g h rfl
    · rw [if_neg hq] at h; cases h
  rw [if_neg h3] at h ⊢
  by_cases h5 : f.kind = 5
  · rw [if_pos h5] at h ⊢
    by_cases hq : c.shown f.story = true
    · rw [if_pos hq] at h ⊢; exact hs g h rfl
    · rw [if_neg hq] at h; cases h
  rw [if_neg h5] at h ⊢
  by_cases h4 : f.kind = 4
  · rw [if_pos h4] at h ⊢
    by_cases hq : pl f.story f.lang f.block = true
    · rw [if_pos hq] at h ⊢; exact hs g h rfl
    · rw [if_neg hq] at h; cases h
  rw [if_neg h4] at h ⊢
  by_cases h1 : f.kind = 1
  · rw [if_pos h1] at h ⊢
    by_cases hq : c.isOpen f.story f.lab = true
    · rw [if_pos hq] at h ⊢
      rw [List.mem_singleton] at h
      subst h
      refine ⟨rfl, rfl, rfl, rfl, rfl, rfl, rfl, rfl, fun b hb => ?_, .inr ⟨rfl, h1⟩⟩
      obtain ⟨x, _, rfl⟩ := List.mem_map.1 hb
      rfl
    · rw [if_neg hq] at h; cases h
  rw [if_neg h1] at h; cases h
theorem shown_out {c : Scn} {s : Int} (h : c.shown s = true) : s ∈ c.out ∧ takenF c.D s = false := by
  unfold Scn.shown at h
  simp only [Bool.and_eq_true, decide_eq_true_eq, Bool.not_eq_true'] at h
  exact h
theorem open_shown {c : Scn} {s : Int} {l : Lab} (h : c.isOpen s l = true) : c.shown s = true ∧ c.ok s l = true := by
  unfold Scn.isOpen at h
  rwa [Bool.and_eq_true] at h
def PlOK (c : Scn) (pl : Plc) : Prop := ∀ s lang i, pl s lang i = true → c.shown s = true
theorem PlOK.start (c : Scn) : PlOK c (fun _ _ _ => false) := fun _ _ _ h => by cases h
theorem PlOK.blocks {c : Scn} {s : Int} {lang : ByteArray} {v : Blk → Bool} (hv : ∀ b, v b = true → c.shown s = true) : ∀ (l : List Blk) {pl : Plc}, PlOK c pl → PlOK c (l.foldl (placeB s lang v) pl)
  | [], _, h => h
  | b :: l, pl, h => PlOK.blocks hv l (fun s' lang' i hp => by
    unfold placeB at hp
    split at hp
    · next e => rw [e.1]; exact hv b hp
    · exact h s' lang' i hp)
theorem PlOK.step {c : Scn} {pl : Plc} (h : PlOK c pl) (f : Fct) : PlOK c (placeF c pl f) := by
  unfold placeF
  split
  · exact PlOK.blocks (fun b hb => by rw [Bool.and_eq_true] at hb; exact (open_shown hb.1).1) _ h
  · exact h
theorem seenAt_out {c : Scn} {pl : Plc} (hp : PlOK c pl) {f g : Fct} (h : g ∈ seenAt c pl f) : (g.kind = 7 ∨ g.story ∈ c.out) ∧ (takenF c.D g.story = true → g.kind = 7 ∨ g.kind = 3 ∨ g.kind = 6) := by
  obtain ⟨_, _, hk, hs, _⟩ := seenAt_form h
  rw [hk, hs]
  unfold seenAt at h
  by_cases h7 : f.kind = 7
  · exact ⟨.inl h7, fun _ => .inl h7⟩
  rw [if_neg h7] at h
  by_cases h3 : f.kind = 3 ∨ f.kind = 6
  · rw [if_pos h3] at h
    by_cases hq : f.story ∈ c.out
    · exact ⟨.inr hq, fun _ => .inr h3⟩
    · rw [if_neg hq] at h; cases h
  rw [if_neg h3] at h
  have fin : c.shown f.story = true → (f.kind = 7 ∨ f.story ∈ c.out) ∧ (takenF c.D f.story = true → f.kind = 7 ∨ f.kind = 3 ∨ f.kind = 6) := fun hq =>
    ⟨.inr (shown_out hq).1, fun ht => by rw [(shown_out hq).2] at ht; cases ht⟩
  by_cases h5 : f.kind = 5
  · rw [if_pos h5] at h
    by_cases hq : c.shown f.story = true
    · exact fin hq
    · rw [if_neg hq] at h; cases h
  rw [if_neg h5] at h
  by_cases h4 : f.kind = 4
  · rw [if_pos h4] at h
    by_cases hq : pl f.story f.lang f.block = true
    · exact fin (hp _ _ _ hq)
    · rw [if_neg hq] at h; cases h
  rw [if_neg h4] at h
  by_cases h1 : f.kind = 1
  · rw [if_pos h1] at h
    by_cases hq : c.isOpen f.story f.lab = true
    · exact fin (open_shown hq).1
    · rw [if_neg hq] at h; cases h
  rw [if_neg h1] at h; cases h
theorem visGo_out {c : Scn} : ∀ {l : List Fct} {pl : Plc}, PlOK c pl → ∀ g ∈ visGo c pl l, (g.kind = 7 ∨ g.story ∈ c.out) ∧ (takenF c.D g.story = true → g.kind = 7 ∨ g.kind = 3 ∨ g.kind = 6)
  | [], _, _, g, h => by cases h
  | f :: l, pl, hp, g, h => by
    unfold visGo at h
    rcases List.mem_append.1 h with h | h
    · exact seenAt_out hp h
    · exact visGo_out (hp.step f) g h
theorem visGo_mem {c : Scn} : ∀ {l : List Fct} {pl : Plc} {g : Fct}, g ∈ visGo c pl l → ∃ pre f post, l = pre ++ f :: post ∧ g ∈ seenAt c (pre.foldl (placeF c) pl) f
  | [], _, _, h => by cases h
  | f :: l, pl, g, h => by
    unfold visGo at h
    rcases List.mem_append.1 h with h | h
    · exact ⟨[], f, l, rfl, h⟩
    · obtain ⟨pre, f', post, e, h2⟩ := visGo_mem h
      exact ⟨f :: pre, f', post, by rw [e]; rfl, h2⟩
theorem visGo_of {c : Scn} {l pre post : List Fct} {f g : Fct} {pl : Plc} (e : l = pre ++ f :: post) (h : g ∈ seenAt c (pre.foldl (placeF c) pl) f) : g ∈ visGo c pl l := by
  subst e
  rw [visGo_app]
  refine List.mem_append_right _ ?_
  unfold visGo
  exact List.mem_append_left _ h
theorem seenAt_len (c : Scn) (pl : Plc) (f : Fct) : seenAt c pl f = [] ∨ ∃ g, seenAt c pl f = [g] := by
  cases h : seenAt c pl f with
  | nil => exact .inl rfl
  | cons g r =>
    have := (seenAt_form (g := g) (by rw [h]; exact List.mem_cons_self)).1
    rw [h] at this
    exact .inr ⟨g, this⟩
theorem visGo_ns (c : Scn) : ∀ (l : List Fct) (pl : Plc), List.Sublist ((visGo c pl l).map Fct.n) (l.map Fct.n)
  | [], _ => List.Sublist.refl _
  | f :: l, pl => by
    unfold visGo
    rw [List.map_append]
    rcases seenAt_len c pl f with h | ⟨g, h⟩
    · rw [h]; exact (visGo_ns c l _).cons _
    · have := (seenAt_form (g := g) (by rw [h]; exact List.mem_cons_self)).2.1
      rw [h]
      show List.Sublist (g.n :: _) _
      rw [this]
      exact (visGo_ns c l _).cons_cons _
structure Again (c c' : Scn) : Prop where
  log : c'.D = visC c
  out : c'.out = c.out
  cls : 0 ≤ c'.cls ∧ c'.cls ≤ 3
  now : 0 ≤ c'.now
section
variable {c c' : Scn}
theorem ok_zero (h : Again c c') (s : Int) : c'.ok s lab0 = true := by
  have := apprF_nonneg c'.D s
  unfold Scn.ok allows lab0 validLab afterOK bitOf inR
  simp [h.cls.1, h.cls.2, h.now, this]
theorem taken_same (ha : Again c c') {s : Int} (h : takenF c'.D s = true) : takenF c.D s = true := by
  unfold takenF at h ⊢
  obtain ⟨g, hg, hk⟩ := List.any_eq_true.1 h
  rw [ha.log] at hg
  obtain ⟨pre, f, post, e, h2⟩ := visGo_mem hg
  obtain ⟨_, _, e2, e3, _⟩ := seenAt_form h2
  refine List.any_eq_true.2 ⟨f, by rw [e]; simp, ?_⟩
  unfold isTake at hk ⊢
  rwa [e2, e3] at hk
theorem shown_same (ha : Again c c') {s : Int} (h : c.shown s = true) : c'.shown s = true := by
  obtain ⟨h1, h2⟩ := shown_out h
  unfold Scn.shown
  rw [ha.out]
  have : takenF c'.D s = false := by
    cases hh : takenF c'.D s
    · rfl
    · rw [taken_same ha hh] at h2; cases h2
  rw [this]; simpa using h1
theorem open_same (ha : Again c c') {s : Int} (h : c.shown s = true) : c'.isOpen s lab0 = true := by
  unfold Scn.isOpen
  rw [shown_same ha h, ok_zero ha]; rfl
theorem ancF_succ (c : Scn) (s : Int) (lang : ByteArray) (n : Nat) (b : Int) : ancF c s lang (n + 1) b = if b = 0 then 0 else match lastRev c.D s lang b with
    | none => 0
    | some p => if c.isOpen p.story p.lab then b else ancF c s lang n p.base := rfl
theorem anc_same (ha : Again c c') {s : Int} {lang : ByteArray} : ∀ (n : Nat) (b : Int), ancF c' s lang 101 (ancF c s lang n b) = ancF c s lang n b
  | 0, _ => by unfold ancF; rfl
  | n + 1, b => by
    have h0 : ancF c' s lang 101 0 = 0 := by unfold ancF; rfl
    rw [ancF_succ c s lang n b]
    by_cases hb : b = 0
    · rw [if_pos hb]; exact h0
    rw [if_neg hb]
    cases hl : lastRev c.D s lang b with
    | none => exact h0
    | some p =>
      by_cases ho' : c.isOpen p.story p.lab = true
      · simp only [if_pos ho']
        obtain ⟨hp1, hp2⟩ := lastRev_mem hl
        unfold isRev at hp2
        simp only [Bool.and_eq_true, decide_eq_true_eq] at hp2
        obtain ⟨⟨⟨k1, k2⟩, k3⟩, k4⟩ := hp2
        obtain ⟨pre, post, e⟩ := List.append_of_mem hp1
        have hg : revisedF c p ∈ visC c := visGo_of e (by
          unfold seenAt
          rw [if_neg (by omega), if_neg (by omega), if_neg (by omega), if_neg (by omega), if_pos k1, if_pos ho']
          exact List.mem_singleton.2 rfl)
        have hv : ∃ q, lastRev c'.D s lang b = some q := by
          cases hq : lastRev c'.D s lang b with
          | some q => exact ⟨q, rfl⟩
          | none =>
            exfalso
            have : ∀ l : List Fct, revisedF c p ∈ l → lastRev l s lang b ≠ none := by
              intro l
              induction l with
              | nil => intro h; cases h
              | cons y l ih =>
                intro h
                unfold lastRev
                rcases List.mem_cons.1 h with h | h
                · subst h
                  cases lastRev l s lang b with
                  | some z => simp
                  | none =>
                    have : isRev s lang b (revisedF c p) = true := by unfold isRev revisedF; simp [k1, k2, k3, k4]
                    simp [this]
                · cases hz : lastRev l s lang b with
                  | some z => simp
                  | none => exact absurd hz (ih h)
            exact this _ (by rw [ha.log]; exact hg) hq
        obtain ⟨q, hq⟩ := hv
        obtain ⟨hq1, hq2⟩ := lastRev_mem hq
        rw [ha.log] at hq1
        obtain ⟨pre', f', post', e', h2⟩ := visGo_mem hq1
        obtain ⟨_, _, q1, q2, _, _, _, q3, _⟩ := seenAt_form h2
        unfold isRev at hq2
        simp only [Bool.and_eq_true, decide_eq_true_eq] at hq2
        have hsh : c.shown q.story = true := by rw [hq2.1.1.2, ← k2]; exact (open_shown ho').1
        rw [ancF_succ c' s lang 100 b, if_neg hb, hq]
        simp only [q3, open_same ha hsh, if_true]
      · simp only [if_neg ho']
        exact anc_same ha n p.base
end
end Go.Proofs.YtgbihmafmmeicaaGreatDoor.Mg
namespace Go.Proofs.YtgbihmafmmeicaaGreatDoor.Mg

theorem placeB_true {s : Int} {lang : ByteArray} {v : Blk → Bool} : ∀ (l : List Blk) (pl : Plc) {s' : Int} {lang' : ByteArray} {i : Int}, l.foldl (placeB s lang v) pl s' lang' i = true → (pl s' lang' i = true ∧ ∀ b ∈ l, s' = s ∧ lang' = lang ∧ i = b.id → v b = true) ∨ (s' = s ∧ lang' = lang ∧ ∃ b ∈ l, i = b.id ∧ v b = true)
  | [], pl, s', lang', i, h => .inl ⟨h, fun b hb => by cases hb⟩
  | b :: l, pl, s', lang', i, h => by
    rcases placeB_true l (placeB s lang v pl b) h with ⟨h1, h2⟩ | ⟨e1, e2, x, hx, e3, e4⟩
    · unfold placeB at h1
      by_cases hq : s' = s ∧ lang' = lang ∧ i = b.id
      · rw [if_pos hq] at h1
        exact .inr ⟨hq.1, hq.2.1, b, List.mem_cons_self, hq.2.2, h1⟩
      · rw [if_neg hq] at h1
        refine .inl ⟨h1, fun x hx hxe => ?_⟩
        rcases List.mem_cons.1 hx with rfl | hx
        · exact absurd hxe hq
        · exact h2 x hx hxe
    · exact .inr ⟨e1, e2, x, List.mem_cons_of_mem _ hx, e3, e4⟩
theorem placeB_up {s : Int} {lang : ByteArray} {v : Blk → Bool} : ∀ (l : List Blk) (_ : ∀ b ∈ l, v b = true) (pl : Plc) {s' : Int} {lang' : ByteArray} {i : Int}, (pl s' lang' i = true ∨ (s' = s ∧ lang' = lang ∧ ∃ b ∈ l, i = b.id)) → l.foldl (placeB s lang v) pl s' lang' i = true
  | [], _, pl, s', lang', i, h => by
    rcases h with h | ⟨_, _, b, hb, _⟩
    · exact h
    · cases hb
  | b :: l, hv, pl, s', lang', i, h => by
    refine placeB_up l (fun x hx => hv x (List.mem_cons_of_mem _ hx)) _ ?_
    by_cases hq : s' = s ∧ lang' = lang ∧ i = b.id
    · refine .inl ?_
      unfold placeB
      rw [if_pos hq]; exact hv b List.mem_cons_self
    · rcases h with h | ⟨e1, e2, x, hx, e3⟩
      · refine .inl ?_
        unfold placeB
        rw [if_neg hq]; exact h
      · rcases List.mem_cons.1 hx with rfl | hx
        · exact absurd ⟨e1, e2, e3⟩ hq
        · exact .inr ⟨e1, e2, x, hx, e3⟩
theorem place_other {c : Scn} {pl : Plc} {f : Fct} (hk : f.kind ≠ 1) : placeF c pl f = pl := by unfold placeF; rw [if_neg hk]
theorem revised_same {c c' : Scn} (ha : Again c c') {f : Fct} (ho : c.shown f.story = true) : revisedF c' (revisedF c f) = revisedF c f := by
  have hb : ((revisedF c f).blocks.filter fun b => c'.isOpen f.story b.lab).map bareB = (revisedF c f).blocks := by
    have h1 : ∀ b ∈ (revisedF c f).blocks, b.lab = lab0 := fun b hb => by
      obtain ⟨x, _, rfl⟩ := List.mem_map.1 hb
      rfl
    rw [List.filter_eq_self.2 (fun b hb => by rw [h1 b hb]; exact open_same ha ho)]
    conv => rhs; rw [← List.map_id (revisedF c f).blocks]
    refine List.map_congr_left fun b hb => ?_
    have := h1 b hb
    unfold bareB
    rw [← this]; rfl
  have hc : ancF c' f.story f.lang 101 (ancF c f.story f.lang 101 f.base) = ancF c f.story f.lang 101 f.base := anc_same ha 101 f.base
  show ({ (revisedF c f) with blocks := ((revisedF c f).blocks.filter fun b => c'.isOpen f.story b.lab).map bareB, lab := lab0, base := ancF c' f.story f.lang 101 (ancF c f.story f.lang 101 f.base) } : Fct) = _
  rw [hb, hc]; rfl
theorem seen_again {c c' : Scn} (ha : Again c c') {plD plV : Plc} (hp : PlOK c plD) (hR : ∀ s lang i, plD s lang i = true → plV s lang i = true) {f g : Fct} (h : seenAt c plD f = [g]) : seenAt c' plV g = [g] := by
  have hg : g ∈ seenAt c plD f := by rw [h]; exact List.mem_singleton.2 rfl
  obtain ⟨_, _, hk, hs, _, hl, _, hlab, _, hform⟩ := seenAt_form hg
  have hout := (seenAt_out hp hg)
  have hst : g.kind ≠ 1 → stripF g = g := fun h1 => by
    rcases hform with e | ⟨e, e1⟩
    · rw [e]; rfl
    · rw [hk] at h1; exact absurd e1 h1
  unfold seenAt at h ⊢
  rw [hk]
  by_cases h7 : f.kind = 7
  · rw [if_pos h7, hst (by omega)]
  rw [if_neg h7] at h ⊢
  by_cases h3 : f.kind = 3 ∨ f.kind = 6
  · rw [if_pos h3, hst (by omega)]
    have : g.story ∈ c'.out := by
      rw [ha.out]
      exact hout.1.resolve_left (by omega)
    rw [if_pos this]
  rw [if_neg h3] at h ⊢
  by_cases h5 : f.kind = 5
  · rw [if_pos h5, hst (by omega)]
    rw [if_pos h5] at h
    by_cases hq : c.shown f.story = true
    · rw [hs, if_pos (shown_same ha hq)]
    · rw [if_neg hq] at h; cases h
  rw [if_neg h5] at h ⊢
  by_cases h4 : f.kind = 4
  · rw [if_pos h4, hst (by omega)]
    rw [if_pos h4] at h
    by_cases hq : plD f.story f.lang f.block = true
    · have hb : g.block = f.block := by
        rcases hform with e | ⟨e, e1⟩
        · rw [e]; rfl
        · omega
      rw [hs, hl, hb, if_pos (hR _ _ _ hq)]
    · rw [if_neg hq] at h; cases h
  rw [if_neg h4] at h ⊢
  by_cases h1 : f.kind = 1
  · rw [if_pos h1] at h ⊢
    by_cases hq : c.isOpen f.story f.lab = true
    · rw [if_pos hq] at h
      have e : g = revisedF c f := (List.cons.inj h).1.symm
      have ho := (open_shown hq).1
      rw [hlab, hs, if_pos (open_same ha ho), e, revised_same ha ho]
    · rw [if_neg hq] at h; cases h
  · rw [if_neg h1] at h; cases h
theorem place_again {c c' : Scn} (ha : Again c c') {plD plV : Plc} (hR : ∀ s lang i, plD s lang i = true → plV s lang i = true) {f g : Fct} (h : seenAt c plD f = [g]) : ∀ s lang i, placeF c plD f s lang i = true → placeF c' plV g s lang i = true := by
  have hg : g ∈ seenAt c plD f := by rw [h]; exact List.mem_singleton.2 rfl
  obtain ⟨_, _, hk, _⟩ := seenAt_form hg
  intro s lang i hp
  by_cases h1 : f.kind = 1
  · unfold seenAt at h
    rw [if_neg (by omega), if_neg (by omega), if_neg (by omega), if_neg (by omega), if_pos h1] at h
    by_cases hq : c.isOpen f.story f.lab = true
    · rw [if_pos hq] at h
      have ho := (open_shown hq).1
      have e := (List.cons.inj h).1.symm
      subst e
      unfold placeF at hp ⊢
      rw [if_pos h1] at hp
      rw [if_pos (show (revisedF c f).kind = 1 from h1)]
      have hv : ∀ b ∈ (revisedF c f).blocks, (c'.isOpen (revisedF c f).story (revisedF c f).lab && c'.isOpen (revisedF c f).story b.lab) = true := fun b hb => by
        obtain ⟨x, _, rfl⟩ := List.mem_map.1 hb
        rw [Bool.and_eq_true]
        exact ⟨open_same ha ho, open_same ha ho⟩
      rcases placeB_true _ _ hp with ⟨k1, _⟩ | ⟨e1, e2, x, hx, e3, e4⟩
      · exact placeB_up _ hv _ (.inl (hR _ _ _ k1))
      · rw [Bool.and_eq_true] at e4
        exact placeB_up _ hv _ (.inr ⟨e1, e2, bareB x, List.mem_map.2 ⟨x, List.mem_filter.2 ⟨hx, e4.2⟩, rfl⟩, e3⟩)
    · rw [if_neg hq] at h; cases h
  · rw [place_other h1] at hp
    rw [place_other (by rw [hk]; exact h1)]
    exact hR _ _ _ hp
theorem place_hidden {c : Scn} {plD plV : Plc} (hR : ∀ s lang i, plD s lang i = true → plV s lang i = true) {f : Fct} (h : seenAt c plD f = []) : ∀ s lang i, placeF c plD f s lang i = true → plV s lang i = true := by
  intro s lang i hp
  by_cases h1 : f.kind = 1
  · unfold seenAt at h
    rw [if_neg (by omega), if_neg (by omega), if_neg (by omega), if_neg (by omega), if_pos h1] at h
    by_cases hq : c.isOpen f.story f.lab = true
    · rw [if_pos hq] at h; cases h
    · unfold placeF at hp
      rw [if_pos h1] at hp
      rcases placeB_true _ _ hp with ⟨k1, _⟩ | ⟨_, _, x, _, _, e4⟩
      · exact hR _ _ _ k1
      · rw [Bool.and_eq_true] at e4; exact absurd e4.1 hq
  · rw [place_other h1] at hp
    exact hR _ _ _ hp
theorem visGo_again {c c' : Scn} (ha : Again c c') : ∀ (l : List Fct) {plD plV : Plc}, PlOK c plD → (∀ s lang i, plD s lang i = true → plV s lang i = true) → visGo c' plV (visGo c plD l) = visGo c plD l
  | [], _, _, _, _ => rfl
  | f :: l, plD, plV, hp, hR => by
    show visGo c' plV (seenAt c plD f ++ visGo c (placeF c plD f) l) = seenAt c plD f ++ visGo c (placeF c plD f) l
    rcases seenAt_len c plD f with h | ⟨g, h⟩
    · rw [h]
      exact visGo_again ha l (hp.step f) (place_hidden hR h)
    · rw [h]
      show seenAt c' plV g ++ visGo c' (placeF c' plV g) (visGo c (placeF c plD f) l) = _
      rw [seen_again ha hp hR h, visGo_again ha l (hp.step f) (place_again ha hR h)]
end Go.Proofs.YtgbihmafmmeicaaGreatDoor.Mg
namespace Go.Proofs.YtgbihmafmmeicaaGreatDoor.Mg

theorem valid_mk {f : Fct} (h1 : 0 ≤ f.n ∧ f.n ≤ 500) (h2 : 0 ≤ f.time ∧ f.time ≤ 1000000000) (h3 : fieldsOK f = true) (h4 : f = usedF f) : validF f = true := by
  unfold validF
  rw [inR_iff.2 h1, inR_iff.2 h2, h3, decide_eq_true h4]; rfl
theorem valid_un {f : Fct} (h : validF f = true) : (0 ≤ f.n ∧ f.n ≤ 500) ∧ (0 ≤ f.time ∧ f.time ≤ 1000000000) ∧ fieldsOK f = true ∧ f = usedF f := by
  unfold validF at h
  simp only [Bool.and_eq_true, decide_eq_true_eq, inR_iff] at h
  exact ⟨h.1.1.1, h.1.1.2, h.1.2, h.2⟩
theorem anc_bound {c : Scn} (hD : ∀ f ∈ c.D, validF f = true) {s : Int} {lang : ByteArray} : ∀ (n : Nat) (b : Int), 0 ≤ b → 0 ≤ ancF c s lang n b ∧ ancF c s lang n b ≤ b
  | 0, b, h => ⟨Int.le_refl _, h⟩
  | n + 1, b, h => by
    rw [ancF_succ]
    by_cases hb : b = 0
    · rw [if_pos hb]; omega
    rw [if_neg hb]
    cases hl : lastRev c.D s lang b with
    | none => exact ⟨Int.le_refl _, h⟩
    | some p =>
      by_cases ho : c.isOpen p.story p.lab = true
      · simp only [if_pos ho]; omega
      · simp only [if_neg ho]
        obtain ⟨h1, h2⟩ := lastRev_mem hl
        unfold isRev at h2
        simp only [Bool.and_eq_true, decide_eq_true_eq] at h2
        have := (revise_parts (validF_revise (hD p h1) h2.1.1.1)).2.1
        have ih := anc_bound hD n p.base this.1 (s := s) (lang := lang)
        omega
end Go.Proofs.YtgbihmafmmeicaaGreatDoor.Mg
namespace Go.Proofs.YtgbihmafmmeicaaGreatDoor.Mg

structure Alike (c c' : Scn) (zs : List (Fct × Fct)) : Prop where
  l : c.D = zs.map Prod.fst
  r : c'.D = zs.map Prod.snd
  cls : c'.cls = c.cls
  now : c'.now = c.now
  out : c'.out = c.out
  appr : ∀ s, apprF c'.D s = apprF c.D s
  taken : ∀ s, takenF c'.D s = takenF c.D s
  rev : ∀ z ∈ zs, ∀ s lang b, c.shown s = true → isRev s lang b z.2 = isRev s lang b z.1 ∧ (isRev s lang b z.1 = true → z.2.story = z.1.story ∧ z.2.lab = z.1.lab ∧ z.2.base = z.1.base)
section
variable {c c' : Scn} {zs : List (Fct × Fct)}
theorem Alike.shown (h : Alike c c' zs) (s : Int) : c'.shown s = c.shown s := by unfold Scn.shown; rw [h.out, h.taken]
theorem Alike.open (h : Alike c c' zs) (s : Int) (l : Lab) : c'.isOpen s l = c.isOpen s l := by
  unfold Scn.isOpen Scn.ok
  rw [h.shown, h.cls, h.now, h.out, h.appr]
def keyR (p : Fct) : Int × Lab × Int := (p.story, p.lab, p.base)
theorem lastRev_alike {s : Int} {lang : ByteArray} {b : Int} : ∀ {zs : List (Fct × Fct)}, (∀ z ∈ zs, isRev s lang b z.2 = isRev s lang b z.1 ∧ (isRev s lang b z.1 = true → keyR z.2 = keyR z.1)) → (lastRev (zs.map Prod.snd) s lang b).map keyR = (lastRev (zs.map Prod.fst) s lang b).map keyR
  | [], _ => rfl
  | z :: zs, h => by
    have ih := lastRev_alike (fun x hx => h x (List.mem_cons_of_mem _ hx))
    obtain ⟨h1, h2⟩ := h z List.mem_cons_self
    simp only [List.map_cons]
    unfold lastRev
    cases hq : lastRev (zs.map Prod.fst) s lang b with
    | some p =>
      rw [hq] at ih
      cases hq' : lastRev (zs.map Prod.snd) s lang b with
      | some p' => rw [hq'] at ih; exact ih
      | none => rw [hq'] at ih; cases ih
    | none =>
      rw [hq] at ih
      cases hq' : lastRev (zs.map Prod.snd) s lang b with
      | some p' => rw [hq'] at ih; cases ih
      | none =>
        simp only [h1]
        by_cases hr : isRev s lang b z.1 = true
        · rw [if_pos hr, if_pos hr]
          show some _ = some _
          rw [h2 hr]
        · rw [if_neg hr, if_neg hr]
theorem Alike.anc (h : Alike c c' zs) {s : Int} (hs : c.shown s = true) {lang : ByteArray} : ∀ (n : Nat) (b : Int), ancF c' s lang n b = ancF c s lang n b
  | 0, _ => rfl
  | n + 1, b => by
    rw [ancF_succ, ancF_succ]
    have hl := lastRev_alike (s := s) (lang := lang) (b := b) (zs := zs) (fun z hz => ⟨(h.rev z hz s lang b hs).1, fun hr => by
      obtain ⟨e1, e2, e3⟩ := (h.rev z hz s lang b hs).2 hr
      unfold keyR; rw [e1, e2, e3]⟩)
    rw [← h.l, ← h.r] at hl
    by_cases hb : b = 0
    · rw [if_pos hb, if_pos hb]
    rw [if_neg hb, if_neg hb]
    cases hq : lastRev c.D s lang b with
    | none =>
      rw [hq] at hl
      cases hq' : lastRev c'.D s lang b with
      | none => rfl
      | some p' => rw [hq'] at hl; cases hl
    | some p =>
      rw [hq] at hl
      cases hq' : lastRev c'.D s lang b with
      | none => rw [hq'] at hl; cases hl
      | some p' =>
        rw [hq'] at hl
        have hk : keyR p' = keyR p := Option.some.inj hl
        unfold keyR at hk
        have e1 : p'.story = p.story := congrArg Prod.fst hk
        have e2 : p'.lab = p.lab := congrArg (fun x => x.2.1) hk
        have e3 : p'.base = p.base := congrArg (fun x => x.2.2) hk
        simp only [e1, e2, e3, h.open, h.anc hs n p.base]
theorem Alike.seen (h : Alike c c' zs) (pl : Plc) (f : Fct) : seenAt c' pl f = seenAt c pl f := by
  unfold seenAt
  rw [h.out, h.shown, h.open]
  by_cases ho : c.isOpen f.story f.lab = true
  · have hr : revisedF c' f = revisedF c f := by
      unfold revisedF
      rw [h.anc (open_shown ho).1]
      simp only [h.open]
    rw [hr]
  · simp only [if_neg ho]
theorem Alike.place (h : Alike c c' zs) (pl : Plc) (f : Fct) : placeF c' pl f = placeF c pl f := by
  unfold placeF
  simp only [h.open]
theorem visGo_pairs : ∀ (zs : List (Fct × Fct)) (pl : Plc), (∀ pre z post, zs = pre ++ z :: post → seenAt c' ((pre.map Prod.fst).foldl (placeF c) pl) z.2 = seenAt c ((pre.map Prod.fst).foldl (placeF c) pl) z.1 ∧ placeF c' ((pre.map Prod.fst).foldl (placeF c) pl) z.2 = placeF c ((pre.map Prod.fst).foldl (placeF c) pl) z.1) → visGo c' pl (zs.map Prod.snd) = visGo c pl (zs.map Prod.fst)
  | [], _, _ => rfl
  | z :: zs, pl, h => by
    obtain ⟨h1, h2⟩ := h [] z zs rfl
    have h1 : seenAt c' pl z.2 = seenAt c pl z.1 := h1
    have h2 : placeF c' pl z.2 = placeF c pl z.1 := h2
    show seenAt c' pl z.2 ++ visGo c' (placeF c' pl z.2) (zs.map Prod.snd) = seenAt c pl z.1 ++ visGo c (placeF c pl z.1) (zs.map Prod.fst)
    rw [h1, h2, visGo_pairs zs (placeF c pl z.1) (fun pre x post e => h (z :: pre) x post (by rw [e]; rfl))]
theorem PlOK.fold : ∀ (l : List Fct) {pl : Plc}, PlOK c pl → PlOK c (l.foldl (placeF c) pl)
  | [], _, h => h
  | f :: l, _, h => PlOK.fold l (h.step f)
theorem Alike.vis (h : Alike c c' zs) (hp : ∀ pre z post, zs = pre ++ z :: post → PlOK c (placesF c (pre.map Prod.fst)) → seenAt c' (placesF c (pre.map Prod.fst)) z.2 = seenAt c (placesF c (pre.map Prod.fst)) z.1 ∧ placeF c' (placesF c (pre.map Prod.fst)) z.2 = placeF c (placesF c (pre.map Prod.fst)) z.1) : visC c' = visC c := by
  unfold visC
  rw [h.l, h.r]
  exact visGo_pairs zs _ (fun pre z post e => hp pre z post e (PlOK.fold _ (PlOK.start c)))
theorem placeB_false {s : Int} {lang : ByteArray} {v : Blk → Bool} (hv : ∀ b, v b = false) : ∀ (l : List Blk) {pl : Plc}, (∀ lang i, pl s lang i = false) → l.foldl (placeB s lang v) pl = pl
  | [], _, _ => rfl
  | b :: l, pl, h => by
    have e : placeB s lang v pl b = pl := by
      funext s' lang' i
      unfold placeB
      split
      · next hq => rw [hv, hq.1, h]
      · rfl
    rw [List.foldl_cons, e]
    exact placeB_false hv l h
end

def goneF (f : Fct) : Fct := { bare f with kind := 10, story := f.story }
def redactF (f : Fct) : Fct := if f.kind = 1 ∨ f.kind = 4 ∨ f.kind = 5 then goneF f else f
def redIn (D : List Fct) (f : Fct) : Fct := if 0 < f.story ∧ takenF D f.story = true then redactF f else f
theorem redIn_cases (D : List Fct) (f : Fct) : redIn D f = f ∨ ((f.kind = 1 ∨ f.kind = 4 ∨ f.kind = 5) ∧ takenF D f.story = true ∧ redIn D f = goneF f) := by
  unfold redIn redactF
  by_cases h : 0 < f.story ∧ takenF D f.story = true
  · rw [if_pos h]
    by_cases hk : f.kind = 1 ∨ f.kind = 4 ∨ f.kind = 5
    · rw [if_pos hk]; exact .inr ⟨hk, h.2, rfl⟩
    · rw [if_neg hk]; exact .inl rfl
  · rw [if_neg h]; exact .inl rfl
theorem gone_not {D : List Fct} {p : Fct → Bool} (hp : ∀ f, p f = true → f.kind = 2 ∨ f.kind = 3 ∨ f.kind = 6) (f : Fct) : p (redIn D f) = p f := by
  rcases redIn_cases D f with e | ⟨hk, _, e⟩
  · rw [e]
  · rw [e]
    have h1 : p f = false := by
      cases h : p f
      · rfl
      · have := hp f h; omega
    have h2 : p (goneF f) = false := by
      cases h : p (goneF f)
      · rfl
      · have h3 := hp _ h
        have : (goneF f).kind = 10 := rfl
        omega
    rw [h1, h2]
theorem lastPub_red (D : List Fct) (s : Int) : ∀ l : List Fct, lastPub (l.map (redIn D)) s = lastPub l s
  | [] => rfl
  | f :: l => by
    have hg : isPub s (redIn D f) = isPub s f := gone_not (fun g hg => by
      unfold isPub at hg
      simp only [Bool.and_eq_true, decide_eq_true_eq] at hg
      omega) f
    simp only [List.map_cons]
    unfold lastPub
    rw [lastPub_red D s l, hg]
    cases lastPub l s with
    | some x => rfl
    | none =>
      by_cases hp : isPub s f = true
      · rw [if_pos hp, if_pos hp]
        rcases redIn_cases D f with e | ⟨hk, _, _⟩
        · rw [e]
        · unfold isPub at hp
          simp only [Bool.and_eq_true, decide_eq_true_eq] at hp
          omega
      · rw [if_neg hp, if_neg hp]
end Go.Proofs.YtgbihmafmmeicaaGreatDoor.Mg
namespace Go.Proofs.YtgbihmafmmeicaaGreatDoor.Mg

def w64 (x : Int) : Int := IntKind.i64.wrap x
def pickF (c n : Int) : Int := (if c < 0 then -(c + 1) else c) % n
theorem pickF_lt {c n : Int} (h : 0 < n) : 0 ≤ pickF c n ∧ pickF c n < n := ⟨Int.emod_nonneg _ (by omega), Int.emod_lt_of_pos _ h⟩
def labelF (c0 : Int) : Lab :=
  let c := (pickF c0 4096).toNat
  { till := [0, 0, 0, 5, 10, 15, 20, 20].getD (c % 8) 0
    after := if c / 8 % 4 = 2 then [1 + ((c / 32 % 4 : Nat) : Int)] else if c / 8 % 4 = 3 then [1 + ((c / 32 % 2 : Nat) : Int), 3 + ((c / 64 % 2 : Nat) : Int)] else []
    appr := [0, 0, 1, 2].getD (c / 128 % 4) 0
    denied := [0, 0, 0, 1, 2, 3, 8, 15].getD (c / 512 % 8) 0 }
def byteOf (n : Int) : UInt8 := UInt8.ofNat n.toNat
def wordL (n : Int) : List UInt8 := [83, 101, 110, 116, 101, 110, 99, 101, 32] ++ [byteOf (97 + pickF n 26), byteOf (97 + pickF (n.tdiv 26) 26)] ++ [46]
def wordF (n : Int) : ByteArray := ⟨(wordL n).toArray⟩
def strL (l : List UInt8) : ByteArray := ⟨l.toArray⟩
def fct0 : Fct := ⟨0, 0, 0, 0, str0, 0, 0, str0, str0, [], [], lab0, 0, 0, 0, str0, str0, 0, 0, 0⟩
structure Six where
  a : Int
  b : Int
  c : Int
  d : Int
  e : Int
  f : Int
def revBlkF (x : Six) (k : Nat) : Blk := ⟨1 + ((k : Int) + pickF x.c 3) % 4, 2, wordF (w64 (x.f + 3 * k)), 0, 0, labelF (x.f.tdiv 7 + 131 * k)⟩
def revF (x : Six) : Fct :=
  { fct0 with kind := 1, rev := 1 + pickF x.d 4, base := pickF x.e (1 + pickF x.d 4), title := wordF (w64 (x.f + 1)), author := strL [97, 110, 110], lab := labelF x.e
              topics := if x.f.tmod 2 = 0 then [strL [99, 105, 116, 121], strL [114, 97, 105, 110]] else []
              blocks := (List.range (pickF x.f 4).toNat).map (revBlkF x) }
def makeK (x : Six) : Fct :=
  let k := pickF x.a 16
  if k ≤ 4 then { revF x with lang := strL [101, 110] }
  else if k = 5 then { fct0 with kind := 2, editor := 1 + pickF x.d 3 }
  else if k ≤ 9 then { fct0 with kind := 3, lab := labelF x.d }
  else if k ≤ 11 then { fct0 with kind := 4, lang := strL [101, 110], block := 1 + pickF x.d 4, sentence := pickF x.e 3, text := wordF x.f }
  else if k = 12 then { fct0 with kind := 5, text := wordF x.f }
  else if k = 13 then { fct0 with kind := 6 }
  else { fct0 with kind := 2, editor := 9 }
def makeF (i : Nat) (x : Six) : Fct :=
  if pickF x.a 16 = 14 then { fct0 with n := i + 1, time := i, kind := 7, name := strL [102, 114, 111, 110, 116], text := wordF x.f }
  else
    let f := makeK x
    { f with lang := if f.lang.data.toList ≠ [] ∧ pickF x.c 3 = 0 then strL [100, 101] else f.lang, n := i + 1, time := i, story := 1 + pickF x.b 4 }
def logF (xs : List Six) : List Fct := (xs.take 24).zipIdx.map fun p => makeF p.2 p.1
end Go.Proofs.YtgbihmafmmeicaaGreatDoor.Mg
namespace Go.Proofs.YtgbihmafmmeicaaGreatDoor
open Go.RowKit Mg

def StrsM (mem : Addr → Option Value) (v : Value) (l : List ByteArray) : Prop := ∃ b o, SliceOf v l.length b o ∧ (∀ s ∈ l, s.size ≤ maxLen) ∧ ∀ j (h : j < l.length), mem ⟨b, o + j, none⟩ = some (.string l[j])
structure FOK (f : Fct) : Prop where
  i0 : okI f.n
  i1 : okI f.time
  i2 : okI f.kind
  i3 : okI f.story
  s4 : f.lang.size ≤ maxLen
  i5 : okI f.rev
  i6 : okI f.base
  s7 : f.title.size ≤ maxLen
  s8 : f.author.size ≤ maxLen
  i11 : okI f.lab.till
  i13 : okI f.lab.appr
  i14 : okI f.lab.denied
  i15 : okI f.editor
  i16 : okI f.block
  i17 : okI f.sentence
  s18 : f.text.size ≤ maxLen
  s19 : f.name.size ≤ maxLen
  i20 : okI f.partner
  i21 : okI f.cls
  i22 : okI f.till
  bl : ∀ x ∈ f.blocks, x.text.size ≤ maxLen ∧ okI x.kind ∧ okI x.id
abbrev fctCells (f : Fct) (tv bv av : Value) : Array Value := #[.int .i64 f.n, .int .i64 f.time, .int .i64 f.kind, .int .i64 f.story, .string f.lang, .int .i64 f.rev, .int .i64 f.base, .string f.title, .string f.author, tv, bv, .int .i64 f.lab.till, av, .int .i64 f.lab.appr, .int .i64 f.lab.denied, .int .i64 f.editor, .int .i64 f.block, .int .i64 f.sentence, .string f.text, .string f.name, .int .i64 f.partner, .int .i64 f.cls, .int .i64 f.till]
structure CellsF (M : Addr → Option Value) (b o : Nat) (f : Fct) (tv bv av : Value) : Prop where
  c0 : M ⟨b, o, none⟩ = some (.int .i64 f.n)
  c1 : M ⟨b, o + 1, none⟩ = some (.int .i64 f.time)
  c2 : M ⟨b, o + 2, none⟩ = some (.int .i64 f.kind)
  c3 : M ⟨b, o + 3, none⟩ = some (.int .i64 f.story)
  c4 : M ⟨b, o + 4, none⟩ = some (.string f.lang)
  c5 : M ⟨b, o + 5, none⟩ = some (.int .i64 f.rev)
  c6 : M ⟨b, o + 6, none⟩ = some (.int .i64 f.base)
  c7 : M ⟨b, o + 7, none⟩ = some (.string f.title)
  c8 : M ⟨b, o + 8, none⟩ = some (.string f.author)
  c9 : M ⟨b, o + 9, none⟩ = some (tv)
  c10 : M ⟨b, o + 10, none⟩ = some (bv)
  c11 : M ⟨b, o + 11, none⟩ = some (.int .i64 f.lab.till)
  c12 : M ⟨b, o + 12, none⟩ = some (av)
  c13 : M ⟨b, o + 13, none⟩ = some (.int .i64 f.lab.appr)
  c14 : M ⟨b, o + 14, none⟩ = some (.int .i64 f.lab.denied)
  c15 : M ⟨b, o + 15, none⟩ = some (.int .i64 f.editor)
  c16 : M ⟨b, o + 16, none⟩ = some (.int .i64 f.block)
  c17 : M ⟨b, o + 17, none⟩ = some (.int .i64 f.sentence)
  c18 : M ⟨b, o + 18, none⟩ = some (.string f.text)
  c19 : M ⟨b, o + 19, none⟩ = some (.string f.name)
  c20 : M ⟨b, o + 20, none⟩ = some (.int .i64 f.partner)
  c21 : M ⟨b, o + 21, none⟩ = some (.int .i64 f.cls)
  c22 : M ⟨b, o + 22, none⟩ = some (.int .i64 f.till)
structure CellsW (w : World) (b o : Nat) (f : Fct) (tv bv av : Value) : Prop where
  c0 : w.cell? ⟨b, o, none⟩ = some (.int .i64 f.n)
  c1 : w.cell? ⟨b, o + 1, none⟩ = some (.int .i64 f.time)
  c2 : w.cell? ⟨b, o + 2, none⟩ = some (.int .i64 f.kind)
  c3 : w.cell? ⟨b, o + 3, none⟩ = some (.int .i64 f.story)
  c4 : w.cell? ⟨b, o + 4, none⟩ = some (.string f.lang)
  c5 : w.cell? ⟨b, o + 5, none⟩ = some (.int .i64 f.rev)
  c6 : w.cell? ⟨b, o + 6, none⟩ = some (.int .i64 f.base)
  c7 : w.cell? ⟨b, o + 7, none⟩ = some (.string f.title)
  c8 : w.cell? ⟨b, o + 8, none⟩ = some (.string f.author)
  c9 : w.cell? ⟨b, o + 9, none⟩ = some (tv)
  c10 : w.cell? ⟨b, o + 10, none⟩ = some (bv)
  c11 : w.cell? ⟨b, o + 11, none⟩ = some (.int .i64 f.lab.till)
  c12 : w.cell? ⟨b, o + 12, none⟩ = some (av)
  c13 : w.cell? ⟨b, o + 13, none⟩ = some (.int .i64 f.lab.appr)
  c14 : w.cell? ⟨b, o + 14, none⟩ = some (.int .i64 f.lab.denied)
  c15 : w.cell? ⟨b, o + 15, none⟩ = some (.int .i64 f.editor)
  c16 : w.cell? ⟨b, o + 16, none⟩ = some (.int .i64 f.block)
  c17 : w.cell? ⟨b, o + 17, none⟩ = some (.int .i64 f.sentence)
  c18 : w.cell? ⟨b, o + 18, none⟩ = some (.string f.text)
  c19 : w.cell? ⟨b, o + 19, none⟩ = some (.string f.name)
  c20 : w.cell? ⟨b, o + 20, none⟩ = some (.int .i64 f.partner)
  c21 : w.cell? ⟨b, o + 21, none⟩ = some (.int .i64 f.cls)
  c22 : w.cell? ⟨b, o + 22, none⟩ = some (.int .i64 f.till)
def Parts (mem : Addr → Option Value) (f : Fct) (tv bv av : Value) : Prop := StrsM mem tv f.topics ∧ BlksM mem bv f.blocks ∧ IntsM mem av f.lab.after
def FctM (mem : Addr → Option Value) (f : Fct) (b o : Nat) : Prop := FOK f ∧ ∃ tv bv av, CellsF mem b o f tv bv av ∧ Parts mem f tv bv av
def FctsM (mem : Addr → Option Value) (v : Value) (l : List Fct) : Prop := ∃ b o, SliceOf v l.length b o ∧ ∀ j (h : j < l.length), FctM mem l[j] b (o + j * 23)

section
variable {mem mem' : Addr → Option Value} {w w' : World}
theorem StrsM.mono {v : Value} {l : List ByteArray} (h : StrsM mem v l) (hm : ∀ a u, mem a = some u → mem' a = some u) : StrsM mem' v l := by
  obtain ⟨b, o, h1, h2, h3⟩ := h
  exact ⟨b, o, h1, h2, fun j hj => hm _ _ (h3 j hj)⟩
theorem StrsM.nil (mem : Addr → Option Value) : StrsM mem (.slice none 0 0) [] := ⟨0, 0, sliceNil, by simp, fun j hj => absurd hj (by simp)⟩
theorem StrsM.slice {v : Value} {l : List ByteArray} (h : StrsM mem v l) : ∃ ao cap, v = .slice ao l.length cap := by
  obtain ⟨_, _, ⟨_, ao, cap, e, _⟩, _⟩ := h
  exact ⟨ao, cap, e⟩
theorem StrsM.open_ {v : Value} {l : List ByteArray} (h : StrsM mem v l) (hs : Sees mem w) : ∃ ao cap b o, v = .slice ao l.length cap ∧ l.length ≤ cap ∧ cap ≤ maxLen ∧ (0 < l.length → ao = some ⟨b, o, none⟩) ∧ (∀ s ∈ l, s.size ≤ maxLen) ∧ ∀ j (h : j < l.length), w.cell? ⟨b, o + j, none⟩ = some (.string l[j]) := by
  obtain ⟨b, o, ⟨_, ao, cap, e, h1, h2, h3⟩, h4, h5⟩ := h
  exact ⟨ao, cap, b, o, e, h1, h2, h3, h4, fun j hj => hs _ _ (h5 j hj)⟩
theorem Parts.mono {f : Fct} {tv bv av : Value} (h : Parts mem f tv bv av) (hm : ∀ a u, mem a = some u → mem' a = some u) : Parts mem' f tv bv av := ⟨h.1.mono hm, h.2.1.mono hm, h.2.2.mono hm⟩
theorem CellsF.mono {b o : Nat} {f : Fct} {tv bv av : Value} (h : CellsF mem b o f tv bv av) (hm : ∀ a u, mem a = some u → mem' a = some u) : CellsF mem' b o f tv bv av :=
  ⟨hm _ _ h.c0, hm _ _ h.c1, hm _ _ h.c2, hm _ _ h.c3, hm _ _ h.c4, hm _ _ h.c5, hm _ _ h.c6, hm _ _ h.c7, hm _ _ h.c8, hm _ _ h.c9, hm _ _ h.c10, hm _ _ h.c11, hm _ _ h.c12, hm _ _ h.c13, hm _ _ h.c14, hm _ _ h.c15, hm _ _ h.c16, hm _ _ h.c17, hm _ _ h.c18, hm _ _ h.c19, hm _ _ h.c20, hm _ _ h.c21, hm _ _ h.c22⟩
theorem CellsF.cells {b o : Nat} {f : Fct} {tv bv av : Value} (h : CellsF mem b o f tv bv av) (hs : Sees mem w) : CellsW w b o f tv bv av :=
  ⟨hs _ _ h.c0, hs _ _ h.c1, hs _ _ h.c2, hs _ _ h.c3, hs _ _ h.c4, hs _ _ h.c5, hs _ _ h.c6, hs _ _ h.c7, hs _ _ h.c8, hs _ _ h.c9, hs _ _ h.c10, hs _ _ h.c11, hs _ _ h.c12, hs _ _ h.c13, hs _ _ h.c14, hs _ _ h.c15, hs _ _ h.c16, hs _ _ h.c17, hs _ _ h.c18, hs _ _ h.c19, hs _ _ h.c20, hs _ _ h.c21, hs _ _ h.c22⟩
theorem CellsW.below {b o : Nat} {f : Fct} {tv bv av : Value} (h : CellsW w b o f tv bv av) {B : Nat} (hb : Below B w w') (hB : b < B) : CellsW w' b o f tv bv av := by
  have k : ∀ {j : Nat} {v : Value}, w.cell? ⟨b, j, none⟩ = some v → w'.cell? ⟨b, j, none⟩ = some v := fun {j} {_} e => (hb.cell (p := ⟨b, j, none⟩) hB).trans e
  exact ⟨k h.c0, k h.c1, k h.c2, k h.c3, k h.c4, k h.c5, k h.c6, k h.c7, k h.c8, k h.c9, k h.c10, k h.c11, k h.c12, k h.c13, k h.c14, k h.c15, k h.c16, k h.c17, k h.c18, k h.c19, k h.c20, k h.c21, k h.c22⟩
theorem FctM.mono {f : Fct} {b o : Nat} (h : FctM mem f b o) (hm : ∀ a u, mem a = some u → mem' a = some u) : FctM mem' f b o := by
  obtain ⟨h0, tv, bv, av, h1, h2⟩ := h
  exact ⟨h0, tv, bv, av, h1.mono hm, h2.mono hm⟩
theorem FctsM.mono {v : Value} {l : List Fct} (h : FctsM mem v l) (hm : ∀ a u, mem a = some u → mem' a = some u) : FctsM mem' v l := by
  obtain ⟨b, o, h1, h2⟩ := h
  exact ⟨b, o, h1, fun j hj => (h2 j hj).mono hm⟩
theorem FctsM.nil (mem : Addr → Option Value) : FctsM mem (.slice none 0 0) [] := ⟨0, 0, sliceNil, fun j hj => absurd hj (by simp)⟩
theorem FctsM.slice {v : Value} {l : List Fct} (h : FctsM mem v l) : ∃ ao cap, v = .slice ao l.length cap := by
  obtain ⟨_, _, ⟨_, ao, cap, e, _⟩, _⟩ := h
  exact ⟨ao, cap, e⟩
theorem FctsM.open_ {v : Value} {l : List Fct} (h : FctsM mem v l) : ∃ ao cap b o, v = .slice ao l.length cap ∧ l.length ≤ cap ∧ cap ≤ maxLen ∧ (0 < l.length → ao = some ⟨b, o, none⟩) ∧ ∀ j (h : j < l.length), FctM mem l[j] b (o + j * 23) := by
  obtain ⟨b, o, ⟨_, ao, cap, e, h1, h2, h3⟩, h4⟩ := h
  exact ⟨ao, cap, b, o, e, h1, h2, h3, h4⟩
theorem FctsM.ok {v : Value} {l : List Fct} (h : FctsM mem v l) : ∀ f ∈ l, FOK f := fun f hf => by
  obtain ⟨_, _, _, h2⟩ := h
  obtain ⟨j, hj, rfl⟩ := List.getElem_of_mem hf
  exact (h2 j hj).1
def FctV (mem : Addr → Option Value) (v : Value) (f : Fct) : Prop := ∃ tv bv av, v = .agg (fctCells f tv bv av) ∧ Parts mem f tv bv av
theorem Parts.shape {f : Fct} {tv bv av : Value} (h : Parts mem f tv bv av) : ∃ t1 t2 b1 b2 a1 a2, tv = .slice t1 f.topics.length t2 ∧ bv = .slice b1 f.blocks.length b2 ∧ av = .slice a1 f.lab.after.length a2 := by
  obtain ⟨t1, t2, e1⟩ := h.1.slice
  obtain ⟨b1, b2, e2⟩ := h.2.1.slice
  obtain ⟨a1, a2, e3⟩ := h.2.2.slice
  exact ⟨t1, t2, b1, b2, a1, a2, e1, e2, e3⟩
end
end Go.Proofs.YtgbihmafmmeicaaGreatDoor
namespace Go.Proofs.YtgbihmafmmeicaaGreatDoor
open Go.RowKit Mg

set_option maxRecDepth 10000 in
set_option maxHeartbeats 2000000 in
theorem labSameR_any {mem : Addr → Option Value} (x y : Lab) (av bv : Value) (h1 : IntsM mem av x.after) (h2 : IntsM mem bv y.after) (w : World) (hs : Sees mem w) :
    Calls Tryz.prog 26 #[.agg (labCells x av), .agg (labCells y bv)] w fun e w' => e = .returned (.bool (decide (x = y))) ∧ Below w.heap.size w w' := by
  obtain ⟨t, l, p, d⟩ := x
  obtain ⟨t2, m, p2, d2⟩ := y
  obtain ⟨ao, cap, b, o, rfl, hcap, hm, hao, hcells⟩ := h1.open_ hs
  obtain ⟨ao2, cap2, b2, o2, rfl, hcap2, hm2, hao2, hcells2⟩ := h2.open_ hs
  dsimp only at *
  have HA := Lib.hid hao
  have HA2 := Lib.hid hao2
  have HC := Lib.hid hcells
  have HC2 := Lib.hid hcells2
  have HR := Lib.hid (lab_dec t p d t2 p2 d2 l m)
  have hlen : (l.length : Int) ≤ 9223372036854775807 := by unfold maxLen at hm; omega
  have hlen2 : (m.length : Int) ≤ 9223372036854775807 := by unfold maxLen at hm2; omega
  have hB0 : ∀ o o', Below w.heap.size w ((w.alloc o).alloc o') := fun o o' => ((Below.refl _ w).alloc (Nat.le_refl _) _).alloc (by simp) _
  have HB0 := Lib.hid hB0
  clear hB0 hao hao2 hcells hcells2 hs h1 h2 hcap hcap2 hm hm2
  by_cases hl : l.length = m.length
  · have HL := Lib.hid hl
    rw [← hl]
    clear hl
    go_enter Tryz.func26, Tryz.ntmps26
    go_wp2_with fail
    obtain ⟨W1, HW1⟩ := named ((w.alloc (.cells (labCells { till := t, after := l, appr := p, denied := d } (.slice ao l.length cap)) 34)).alloc (.cells (labCells { till := t2, after := m, appr := p2, denied := d2 } (.slice ao2 l.length cap2)) 34))
    have hb0 : Below w.heap.size w W1 := by rw [HW1.out]; exact HB0.out _ _
    have hc : ∀ (j : Nat) (u : Value), (labCells { till := t, after := l, appr := p, denied := d } (.slice ao l.length cap))[j]? = some u → W1.cell? ⟨w.heap.size, j, none⟩ = some u := fun j u hu => by rw [HW1.out]; exact cell_old (cell_new rfl hu)
    have hc' : ∀ (j : Nat) (u : Value), (labCells { till := t2, after := m, appr := p2, denied := d2 } (.slice ao2 l.length cap2))[j]? = some u → W1.cell? ⟨w.heap.size + 1, j, none⟩ = some u := fun j u hu => by rw [HW1.out]; exact cell_new (by simp) hu
    have hz : w.heap.size + 1 < W1.heap.size := by rw [HW1.out]; simp
    have q0 := hc 0 _ rfl
    have q1 := hc 1 _ rfl
    have q2 := hc 2 _ rfl
    have q3 := hc 3 _ rfl
    have r0 := hc' 0 _ rfl
    have r1 := hc' 1 _ rfl
    have r2 := hc' 2 _ rfl
    have r3 := hc' 3 _ rfl
    have HQ := Lib.hid (And.intro (And.intro q0 (And.intro q1 (And.intro q2 q3))) (And.intro r0 (And.intro r1 (And.intro r2 r3))))
    clear hc hc' q0 q1 q2 q3 r0 r1 r2 r3
    rw [← HW1.out]
    go_loopw [5] (fun i wr => ∃ k : Nat, k ≤ l.length ∧ i = .int .i64 k ∧ Below W1.heap.size W1 wr ∧ Hid (l.take k = m.take k)) (fun i _ => l.length - (intOf i).toNat)
    case atStart => exact ⟨0, Nat.zero_le _, rfl, Below.refl _ _, Lib.hid rfl⟩
    case round =>
      obtain ⟨k, hk, rfl, hb, ht⟩ := hrel
      obtain ⟨⟨q0, q1, q2, q3⟩, ⟨r0, r1, r2, r3⟩⟩ := HQ.out
      have hx : ∀ (j : Nat) (u : Value), W1.cell? ⟨w.heap.size, j, none⟩ = some u → wr.cell? ⟨w.heap.size, j, none⟩ = some u := fun j u hu => (hb.cell (p := ⟨w.heap.size, j, none⟩) (by simp <;> omega)).trans hu
      have hx' : ∀ (j : Nat) (u : Value), W1.cell? ⟨w.heap.size + 1, j, none⟩ = some u → wr.cell? ⟨w.heap.size + 1, j, none⟩ = some u := fun j u hu => (hb.cell (p := ⟨w.heap.size + 1, j, none⟩) (by simp <;> omega)).trans hu
      replace q0 := hx _ _ q0
      replace q1 := hx _ _ q1
      replace q2 := hx _ _ q2
      replace q3 := hx _ _ q3
      replace r0 := hx' _ _ r0
      replace r1 := hx' _ _ r1
      replace r2 := hx' _ _ r2
      replace r3 := hx' _ _ r3
      have hB : Below w.heap.size w wr := hb0.trans (hb.mono (by omega))
      clear hx hx'
      by_cases hlt : k < l.length
      · have hlt2 : k < m.length := by rw [← HL.out]; exact hlt
        have c1 := HC.out k hlt
        have c2 := HC2.out k hlt2
        obtain rfl := HA.out (by omega)
        obtain rfl := HA2.out (by omega)
        replace c1 := (hB.cell (p := ⟨b, o + k, none⟩) (World.block_lt_of_cell? w _ c1)).trans c1
        replace c2 := (hB.cell (p := ⟨b2, o2 + k, none⟩) (World.block_lt_of_cell? w _ c2)).trans c2
        have HE : Hid (l[k] = m[k] → l.take (k + 1) = m.take (k + 1)) := Lib.hid (take_step hlt hlt2 ht.out)
        have HN : Hid (l[k] ≠ m[k] → l ≠ m) := Lib.hid (ne_of_get hlt hlt2)
        generalize l[k] = x at *
        generalize m[k] = y at *
        have hk0 : (0 : Int) ≤ k := by omega
        have hk1 : (k : Int) < l.length := by omega
        clear ht hlt2
        by_cases hxy : x = y
        · subst hxy
          have HE2 := Lib.hid (HE.out rfl)
          clear HE
          go_wp2_with fail
          go_quiet (fail)
          go_wp2_with fail
          go_roundw
          case rel => exact ⟨k + 1, by omega, by go_num, below_drewN hb _, HE2⟩
          case measure => simp [intOf]; omega
        · have hne : (x != y) = true := by simpa using hxy
          have HNE := Lib.hid (HN.out hxy)
          clear hxy HN
          go_wp2_with fail
          go_quiet (fail)
          go_wp2_with fail
          go_ret
          exact ⟨ret_bool (by first | (rw [HR.out]; simp [HNE.out]; done) | (simp [HNE.out]; done)), below_drewN hB _⟩
      · have e : k = l.length := by omega
        subst e
        have HF : Hid (l = m) := Lib.hid (eq_full HL.out ht.out)
        by_cases e1 : t = t2
        · subst e1
          by_cases e2 : p = p2
          · subst e2
            by_cases e3 : d = d2
            · subst e3
              go_wp2_with fail
              go_ret
              exact ⟨ret_bool (by first | (rw [HR.out]; simp [HF.out]; done) | (simp [HF.out]; done)), hB⟩
            · have n3 : (d == d2) = false := by simpa using e3
              have E3 := Lib.hid e3
              clear e3
              go_wp2_with fail
              go_ret
              exact ⟨ret_bool (by first | (rw [HR.out]; simp [E3.out]; done) | (simp [E3.out]; done)), hB⟩
          · have n2 : (p == p2) = false := by simpa using e2
            have E2 := Lib.hid e2
            clear e2
            go_wp2_with fail
            go_ret
            exact ⟨ret_bool (by first | (rw [HR.out]; simp [E2.out]; done) | (simp [E2.out]; done)), hB⟩
        · have n1 : (t == t2) = false := by simpa using e1
          have E1 := Lib.hid e1
          clear e1
          go_wp2_with fail
          go_ret
          exact ⟨ret_bool (by first | (rw [HR.out]; simp [E1.out]; done) | (simp [E1.out]; done)), hB⟩
  · have hne : decide (l.length = m.length) = false := decide_eq_false hl
    have HNE : Hid (l ≠ m) := Lib.hid (fun e => hl (by rw [e]))
    go_enter Tryz.func26, Tryz.ntmps26
    go_wp2_with fail
    all_goals first
      | (go_ret
         exact ⟨ret_bool (by first | (rw [HR.out]; simp [HNE.out]; done) | (simp [HNE.out]; done)), HB0.out _ _⟩)
      | (exfalso; simp_all; done)

def headOK (x : Lab) : Prop := 0 ≤ x.till ∧ x.till ≤ 1000000000 ∧ 0 ≤ x.appr ∧ x.appr ≤ 5 ∧ 0 ≤ x.denied ∧ x.denied ≤ 15
theorem validLab_yes {x : Lab} (h : headOK x) : validLab x = afterOK 0 x.after := by
  obtain ⟨h1, h2, h3, h4, h5, h6⟩ := h
  unfold validLab
  simp [h1, h2, h3, h4, h5, h6]
theorem validLab_no {x : Lab} (h : ¬ headOK x) : validLab x = false := by
  rw [Bool.eq_false_iff]
  intro e
  unfold validLab at e
  simp only [Bool.and_eq_true, decide_eq_true_eq] at e
  exact h ⟨e.1.1.1.1.1.1, e.1.1.1.1.1.2, e.1.1.1.1.2, e.1.1.1.2, e.1.1.2, e.1.2⟩

set_option maxRecDepth 10000 in
set_option maxHeartbeats 2000000 in
theorem labValidR_any {mem : Addr → Option Value} (x : Lab) (av : Value) (hi : IntsM mem av x.after) (w : World) (hs : Sees mem w) :
    Calls Tryz.prog 33 #[.agg (labCells x av)] w fun e w' => e = .returned (.bool (validLab x)) ∧ Below w.heap.size w w' := by
  obtain ⟨ao, cap, b, o, rfl, hcap, hm, hao, hcells⟩ := hi.open_ hs
  have HAO := Lib.hid hao
  have HC := Lib.hid hcells
  have hlen : (x.after.length : Int) ≤ 9223372036854775807 := by unfold maxLen at hm; omega
  have hB0 : ∀ o, Below w.heap.size w (w.alloc o) := fun o => (Below.refl _ w).alloc (Nat.le_refl _) _
  have HB0 := Lib.hid hB0
  clear hB0 hao hcells hi hs hcap hm
  by_cases hv : headOK x
  · have HV := Lib.hid (validLab_yes hv)
    obtain ⟨v1, v2, v3, v4, v5, v6⟩ := hv
    go_enter Tryz.func33, Tryz.ntmps33
    go_wp2_with fail
    obtain ⟨W1, HW1⟩ := named (w.alloc (.cells (labCells x (.slice ao x.after.length cap)) 34))
    have hb0 : Below w.heap.size w W1 := by rw [HW1.out]; exact HB0.out _
    have q1 : W1.cell? ⟨w.heap.size, 1, none⟩ = some (.slice ao x.after.length cap) := by rw [HW1.out]; exact cell_new rfl rfl
    have f1 : W1.heap.size = W1.heap.size := rfl
    rw [← HW1.out]
    go_loop [4, 3] (fun i s => ∃ (k : Nat) (last : Int), k ≤ x.after.length ∧ i = .int .i64 k ∧ s = .int .i64 last ∧ 0 ≤ last ∧ last ≤ 64 ∧ Hid (afterOK 0 x.after = afterOK last (x.after.drop k))) (fun i _ => x.after.length - (intOf i).toNat)
    case atStart => exact ⟨0, 0, Nat.zero_le _, rfl, rfl, by omega, by omega, Lib.hid rfl⟩
    case round =>
      obtain ⟨k, last, hk, rfl, rfl, hl0, hl1, ha⟩ := hrel
      by_cases hlt : k < x.after.length
      · have hcell := HC.out k hlt
        obtain rfl := HAO.out (by omega)
        have hcw := (hb0.cell (p := ⟨b, o + k, none⟩) (World.block_lt_of_cell? w _ hcell)).trans hcell
        have HD : Hid (afterOK 0 x.after = (decide (last + 1 ≤ x.after[k]) && decide (x.after[k] ≤ 64) && afterOK x.after[k] (x.after.drop (k + 1)))) := Lib.hid (by rw [ha.out, List.drop_eq_getElem_cons hlt, afterOK_cons])
        clear hcell ha
        generalize x.after[k] = s at *
        by_cases hok : last < s ∧ s ≤ 64
        · obtain ⟨hk1, hk2⟩ := hok
          have HD2 : Hid (afterOK 0 x.after = afterOK s (x.after.drop (k + 1))) := Lib.hid (by rw [HD.out, decide_eq_true (by omega), decide_eq_true hk2]; rfl)
          go_wp2_with fail
          go_round
          case rel => exact ⟨k + 1, s, by omega, by go_num, rfl, by omega, by omega, HD2⟩
          case measure => simp [intOf]; omega
        · have HD2 : Hid (afterOK 0 x.after = false) := Lib.hid (by
            rw [HD.out, Bool.and_eq_false_iff, Bool.and_eq_false_iff, decide_eq_false_iff_not, decide_eq_false_iff_not]
            by_cases h1 : last < s
            · exact .inl (.inr (by omega))
            · exact .inl (.inl (by omega)))
          go_wp2_with fail
          all_goals first
            | (go_ret
               exact ⟨ret_bool (by rw [HV.out, HD2.out]), hb0⟩)
            | (exfalso; omega)
      · have e : k = x.after.length := by omega
        subst e
        have HF : Hid (afterOK 0 x.after = true) := Lib.hid (by rw [ha.out, List.drop_length]; rfl)
        go_wp2_with fail
        go_ret
        exact ⟨ret_bool (by rw [HV.out, HF.out]), hb0⟩
  · have HV := Lib.hid (validLab_no hv)
    have hn : ¬ (0 ≤ x.till ∧ x.till ≤ 1000000000 ∧ 0 ≤ x.appr ∧ x.appr ≤ 5 ∧ 0 ≤ x.denied ∧ x.denied ≤ 15) := hv
    have HN := Lib.hid hn
    clear hn hv
    go_enter Tryz.func33, Tryz.ntmps33
    go_wp2_with fail
    all_goals first
      | (go_ret
         exact ⟨ret_bool (by rw [HV.out]), HB0.out _⟩)
      | (exfalso; have := HN.out; omega)
end Go.Proofs.YtgbihmafmmeicaaGreatDoor
namespace Go.Proofs.YtgbihmafmmeicaaGreatDoor
open Go.RowKit Mg Go.Shelf

theorem notTake {l : List Int} {x : Int} {k : Nat} (hlt : k < l.length) (hn : x ∉ l.take k) (e : l[k] ≠ x) : x ∉ l.take (k + 1) := by
  rw [List.take_succ_eq_append_getElem hlt]
  intro hm
  rcases List.mem_append.1 hm with hm | hm
  · exact hn hm
  · rw [List.mem_singleton] at hm; exact e hm.symm

set_option maxHeartbeats 1000000 in
theorem hasR_any {mem : Addr → Option Value} (v : Value) (l : List Int) (h : IntsM mem v l) (x : Int) (w : World) (hs : Sees mem w) :
    Calls Tryz.prog 19 #[v, .int .i64 x] w fun e w' => e = .returned (.bool (decide (x ∈ l))) ∧ w = w' := by
  obtain ⟨ao, cap, b, o, rfl, hcap, hm, hao, hcells⟩ := h.open_ hs
  have HA := Lib.hid hao
  have HC := Lib.hid hcells
  have hlen : (l.length : Int) ≤ 9223372036854775807 := by unfold maxLen at hm; omega
  clear hao hcells hs h hcap hm
  go_enter Tryz.func19, Tryz.ntmps19
  go_wp2_with fail
  go_loop [5] (fun i => ∃ k : Nat, k ≤ l.length ∧ i = .int .i64 k ∧ Hid (x ∉ l.take k)) (fun i => l.length - (Go.RowKit.intOf i).toNat)
  case atStart => exact ⟨0, Nat.zero_le _, rfl, Lib.hid (by simp)⟩
  case round =>
    obtain ⟨k, hk, rfl, hn⟩ := hrel
    by_cases hlt : k < l.length
    · have c1 := HC.out k hlt
      obtain rfl := HA.out (by omega)
      have HE : Hid (l[k] = x → x ∈ l) := Lib.hid (fun e => e ▸ List.getElem_mem hlt)
      have HN : Hid (l[k] ≠ x → x ∉ l.take (k + 1)) := Lib.hid (fun e => notTake hlt hn.out e)
      generalize l[k] = y at *
      clear hn
      by_cases hxy : y = x
      · have e1 : (y == x) = true := by simpa using hxy
        have HF := Lib.hid (HE.out hxy)
        clear hxy HE HN
        go_wp2_with fail
        go_ret
        exact ⟨ret_bool (decide_eq_true HF.out).symm, rfl⟩
      · have e1 : (y == x) = false := by simpa using hxy
        have HF := Lib.hid (HN.out hxy)
        clear hxy HE HN
        go_wp2_with fail
        go_round
        case rel => exact ⟨k + 1, by omega, by go_num, HF⟩
        case measure => simp [Go.RowKit.intOf]; omega
    · have e : k = l.length := by omega
      subst e
      have HF : Hid (x ∉ l) := Lib.hid (by have := hn.out; rwa [List.take_length] at this)
      go_wp2_with fail
      go_ret
      exact ⟨ret_bool (decide_eq_false HF.out).symm, rfl⟩

theorem contains_any {mem : Addr → Option Value} (v : Value) (l : List Int) (h : IntsM mem v l) (x : Int) (w : World) (hs : Sees mem w) :
    Calls Tryz.prog 74 #[v, .int .i64 x] w fun e w' => e = .returned (.bool (decide (x ∈ l))) ∧ w = w' := by
  have ci := index_any v l h x w hs
  obtain ⟨ao, cap, rfl⟩ := h.slice
  clear h hs
  by_cases hm : x ∈ l
  · have e1 : idxI l x = (l.idxOf x : Nat) := by unfold idxI; rw [if_pos hm]
    rw [e1] at ci
    have HR := Lib.hid (decide_eq_true hm)
    generalize l.idxOf x = j at *
    clear e1 hm
    go_enter Tryz.func74, Tryz.ntmps74
    go_wp2_with fail
    refine ci.mono ?_
    rintro e w' ⟨rfl, rfl⟩
    clear ci
    go_wp2_with fail
    go_ret
    refine ⟨ret_bool ?_, rfl⟩
    rw [HR.out]
    first | done | (simp; done) | (simp; omega)
  · have e1 : idxI l x = -1 := by unfold idxI; rw [if_neg hm]
    rw [e1] at ci
    have HR := Lib.hid (decide_eq_false hm)
    clear e1 hm
    go_enter Tryz.func74, Tryz.ntmps74
    go_wp2_with fail
    refine ci.mono ?_
    rintro e w' ⟨rfl, rfl⟩
    clear ci
    go_wp2_with fail
    go_ret
    refine ⟨ret_bool ?_, rfl⟩
    rw [HR.out]
    first | done | (simp; done) | (simp; omega)
theorem pick_any (c n : Int) (hc : okI c) (hn : 0 < n) (hn2 : n ≤ 1000000) (w : World) :
    Calls Tryz.prog 15 #[.int .i64 c, .int .i64 n] w fun e w' => e = .returned (.int .i64 (pickF c n)) ∧ w = w' := by
  obtain ⟨hc1, hc2⟩ := hc
  by_cases h : c < 0
  · have HR : Hid (pickF c n = -(c + 1) % n) := Lib.hid (by unfold pickF; rw [if_pos h])
    have h0 : 0 ≤ -(c + 1) := by omega
    go_enter Tryz.func15, Tryz.ntmps15
    go_wp2_with fail
    go_ret
    exact ⟨ret_int (by rw [HR.out, ← Int.neg_tmod]; exact Int.tmod_eq_emod_of_nonneg h0), rfl⟩
  · have HR : Hid (pickF c n = c % n) := Lib.hid (by unfold pickF; rw [if_neg h])
    have h0 : 0 ≤ c := by omega
    go_enter Tryz.func15, Tryz.ntmps15
    go_wp2_with fail
    go_ret
    exact ⟨ret_int (by rw [HR.out]), rfl⟩
theorem div_step (m k : Nat) : m / 2 ^ (k + 1) = m / 2 ^ k / 2 := by rw [Nat.pow_succ, Nat.div_div_eq_div_mul]
set_option maxHeartbeats 1000000 in
theorem bitR_any (m n : Nat) (hm : m ≤ 15) (hn : n ≤ 3) (w : World) :
    Calls Tryz.prog 34 #[.int .i64 m, .int .i64 n] w fun e w' => e = .returned (.bool (bitOf m n)) ∧ w = w' := by
  have HR : Hid (bitOf m n = decide ((m / 2 ^ n) % 2 = 1)) := Lib.hid rfl
  go_enter Tryz.func34, Tryz.ntmps34
  go_wp2_with fail
  go_loop [5, 0] (fun i d => ∃ k : Nat, k ≤ n ∧ i = .int .i64 k ∧ d = .int .i64 ((m / 2 ^ k : Nat) : Int)) (fun i _ => n - (Go.RowKit.intOf i).toNat)
  case atStart => exact ⟨0, Nat.zero_le _, rfl, by simp⟩
  case round =>
    obtain ⟨k, hk, rfl, rfl⟩ := hrel
    have hq : m / 2 ^ k ≤ 15 := Nat.le_trans (Nat.div_le_self _ _) hm
    have HS := Lib.hid (div_step m k)
    by_cases hlt : k < n
    · generalize m / 2 ^ k = q at *
      go_wp2_with fail
      go_round
      case rel => exact ⟨k + 1, by omega, by go_num, by rw [HS.out]; first | rfl | go_num | (simp; done)⟩
      case measure => simp [Go.RowKit.intOf]; omega
    · have e : k = n := by omega
      subst e
      generalize m / 2 ^ k = q at *
      go_wp2_with fail
      go_ret
      refine ⟨ret_bool ?_, rfl⟩
      rw [HR.out, Bool.eq_iff_iff]
      simp
      omega
def withinF (a b : List Int) : Int := if ∀ x ∈ a, x ∈ b then 1 else 0
end Go.Proofs.YtgbihmafmmeicaaGreatDoor
namespace Go.Proofs.YtgbihmafmmeicaaGreatDoor
open Go.RowKit Mg Go.Shelf

theorem allows_bad {x : Lab} {cls now : Int} {out : List Int} {n : Int} (h : ¬ (validLab x = true ∧ 0 ≤ cls ∧ cls ≤ 3 ∧ x.till ≤ now ∧ x.appr ≤ n)) : allows x cls now out n = false := by
  rw [Bool.eq_false_iff]
  intro e
  unfold allows at e
  simp only [Bool.and_eq_true, decide_eq_true_eq, inR_iff] at e
  exact h ⟨e.1.1.1.1.1, e.1.1.1.1.2.1, e.1.1.1.1.2.2, e.1.1.1.2, e.1.1.2⟩
theorem allows_good {x : Lab} {cls now : Int} {out : List Int} {n : Int} (h0 : validLab x = true) (h1 : 0 ≤ cls) (h2 : cls ≤ 3) (h3 : x.till ≤ now) (h4 : x.appr ≤ n) : allows x cls now out n = (!bitOf x.denied cls && x.after.all (fun s => decide (s ∈ out))) := by
  unfold allows
  rw [h0, inR_iff.2 ⟨h1, h2⟩, decide_eq_true h3, decide_eq_true h4]; rfl
theorem valid_denied {x : Lab} (h : validLab x = true) : 0 ≤ x.denied ∧ x.denied ≤ 15 := by
  unfold validLab at h
  simp only [Bool.and_eq_true, decide_eq_true_eq] at h
  exact ⟨h.1.1.2, h.1.2⟩
theorem all_step {l out : List Int} {k : Nat} (hk : k < l.length) (h : ∀ s ∈ l.take k, s ∈ out) (hx : l[k] ∈ out) : ∀ s ∈ l.take (k + 1), s ∈ out := fun s hs => by
  rw [List.take_succ_eq_append_getElem hk] at hs
  rcases List.mem_append.1 hs with h1 | h1
  · exact h s h1
  · rw [List.mem_singleton] at h1; rw [h1]; exact hx
theorem all_yes {l out : List Int} (h : ∀ s ∈ l.take l.length, s ∈ out) : l.all (fun s => decide (s ∈ out)) = true := by
  rw [List.all_eq_true]
  intro s hs
  rw [List.take_length] at h
  exact decide_eq_true (h s hs)
theorem all_no {l out : List Int} {k : Nat} (hk : k < l.length) (hx : l[k] ∉ out) : l.all (fun s => decide (s ∈ out)) = false := by
  rw [Bool.eq_false_iff]
  intro h
  have := List.all_eq_true.1 h _ (List.getElem_mem hk)
  exact hx (of_decide_eq_true this)

set_option maxRecDepth 10000 in
set_option maxHeartbeats 2000000 in
theorem allowsR_any {mem : Addr → Option Value} (x : Lab) (av : Value) (hi : IntsM mem av x.after) (cls now : Int) (ov : Value) (out : List Int) (ho : IntsM mem ov out) (n : Int) (w : World) (hs : Sees mem w) :
    Calls Tryz.prog 18 #[.agg (labCells x av), .int .i64 cls, .int .i64 now, ov, .int .i64 n] w fun e w' => e = .returned (.bool (allows x cls now out n)) ∧ Below w.heap.size w w' := by
  have cv := fun W hW => labValidR_any x av hi W hW
  have HH := Lib.hid (fun s W hW => hasR_any ov out ho s W hW)
  obtain ⟨oa, oc, rfl⟩ := ho.slice
  obtain ⟨ao, cap, b, o, rfl, hcap, hm, hao, hcells⟩ := hi.open_ hs
  have HA := Lib.hid hao
  have HC := Lib.hid hcells
  have HS := Lib.hid hs
  have hlen : (x.after.length : Int) ≤ 9223372036854775807 := by unfold maxLen at hm; omega
  clear hao hcells hs hi ho hcap hm
  have HBad := Lib.hid (@allows_bad x cls now out n)
  have HGood := Lib.hid (@allows_good x cls now out n)
  have HD := Lib.hid (@valid_denied x)
  cases hq : validLab x with
  | false =>
    have HR := Lib.hid (HBad.out (fun h => by rw [hq] at h; cases h.1))
    rw [hq] at cv
    clear hq
    go_enter Tryz.func18, Tryz.ntmps18
    go_wp2_with fail
    refine (cv _ (HS.out.alloc _)).mono ?_
    rintro e w1 ⟨rfl, hb⟩
    clear cv
    have hB : Below w.heap.size w w1 := ((Below.refl w.heap.size w).alloc (Nat.le_refl _) _).trans (hb.mono (by simp))
    clear hb
    go_wp2_with fail
    go_ret
    exact ⟨ret_bool (by rw [HR.out]), hB⟩
  | true =>
    have HQ := Lib.hid hq
    rw [hq] at cv
    clear hq
    go_enter Tryz.func18, Tryz.ntmps18
    go_wp2_with fail
    refine (cv _ (HS.out.alloc _)).mono ?_
    rintro e w1 ⟨rfl, hb⟩
    clear cv
    have hB : Below w.heap.size w w1 := ((Below.refl w.heap.size w).alloc (Nat.le_refl _) _).trans (hb.mono (by simp))
    have hh := (hb.block w.heap.size (by simp)).trans (World.alloc_heap_new w _)
    have d0 := blk_cell hh 0
    have d1 := blk_cell hh 1
    have d2 := blk_cell hh 2
    have d3 := blk_cell hh 3
    simp only [List.getElem?_toArray, List.getElem?_cons_zero, List.getElem?_cons_succ] at d0 d1 d2 d3
    have hs1 := Lib.hid (HS.out.bel hB)
    clear hb hh
    by_cases h1 : 0 ≤ cls
    rotate_left
    · have HR := Lib.hid (HBad.out (fun h => h1 h.2.1))
      have k1 : decide (cls < 0) = true := by simpa using h1
      go_wp2_with fail
      go_ret
      exact ⟨ret_bool (by rw [HR.out]), hB⟩
    by_cases h2 : cls ≤ 3
    rotate_left
    · have HR := Lib.hid (HBad.out (fun h => h2 h.2.2.1))
      have k1 : decide (cls < 0) = false := by simpa using h1
      have k2 : decide (3 < cls) = true := by simpa using h2
      go_wp2_with fail
      go_ret
      exact ⟨ret_bool (by rw [HR.out]), hB⟩
    by_cases h3 : x.till ≤ now
    rotate_left
    · have HR := Lib.hid (HBad.out (fun h => h3 h.2.2.2.1))
      have k1 : decide (cls < 0) = false := by simpa using h1
      have k2 : decide (3 < cls) = false := by simpa using h2
      have k3 : decide (now < x.till) = true := by simpa using h3
      go_wp2_with fail
      go_ret
      exact ⟨ret_bool (by rw [HR.out]), hB⟩
    by_cases h4 : x.appr ≤ n
    rotate_left
    · have HR := Lib.hid (HBad.out (fun h => h4 h.2.2.2.2))
      have k1 : decide (cls < 0) = false := by simpa using h1
      have k2 : decide (3 < cls) = false := by simpa using h2
      have k3 : decide (now < x.till) = false := by simpa using h3
      have k4 : decide (n < x.appr) = true := by simpa using h4
      go_wp2_with fail
      go_ret
      exact ⟨ret_bool (by rw [HR.out]), hB⟩
    have HR := Lib.hid (HGood.out HQ.out h1 h2 h3 h4)
    have k1 : decide (cls < 0) = false := by simpa using h1
    have k2 : decide (3 < cls) = false := by simpa using h2
    have k3 : decide (now < x.till) = false := by simpa using h3
    have k4 : decide (n < x.appr) = false := by simpa using h4
    obtain ⟨dn1, dn2⟩ := HD.out HQ.out
    clear HBad HGood HD HQ
    go_wp2_with fail
    go_loop [12] (fun i => ∃ k : Nat, k ≤ x.after.length ∧ i = .int .i64 k ∧ Hid (∀ s ∈ x.after.take k, s ∈ out)) (fun i => x.after.length - (Go.RowKit.intOf i).toNat)
    case atStart => exact ⟨0, Nat.zero_le _, rfl, Lib.hid (by simp)⟩
    case round =>
      obtain ⟨k, hk, rfl, hn⟩ := hrel
      by_cases hlt : k < x.after.length
      · have c1 := HC.out k hlt
        obtain rfl := HA.out (by omega)
        replace c1 := (hB.cell (p := ⟨b, o + k, none⟩) (World.block_lt_of_cell? w _ c1)).trans c1
        have hc := HH.out x.after[k] w1 hs1.out
        by_cases hx : x.after[k] ∈ out
        · have HN := Lib.hid (all_step hlt hn.out hx)
          rw [decide_eq_true hx] at hc
          clear hx hn
          generalize x.after[k] = y at *
          go_wp2_with fail
          refine hc.mono ?_
          rintro e w' ⟨rfl, rfl⟩
          clear hc
          go_wp2_with fail
          go_round
          case rel => exact ⟨k + 1, by omega, by go_num, HN⟩
          case measure => simp [Go.RowKit.intOf]; omega
        · have HF := Lib.hid (all_no hlt hx)
          rw [decide_eq_false hx] at hc
          clear hx hn
          generalize x.after[k] = y at *
          go_wp2_with fail
          refine hc.mono ?_
          rintro e w' ⟨rfl, rfl⟩
          clear hc
          go_wp2_with fail
          go_ret
          exact ⟨ret_bool (by rw [HR.out, HF.out, Bool.and_false]), hB⟩
      · have e : k = x.after.length := by omega
        subst e
        have HF := Lib.hid (all_yes hn.out)
        obtain ⟨dm, hdm⟩ : ∃ dm : Nat, x.denied = dm := ⟨x.denied.toNat, by omega⟩
        obtain ⟨cm, rfl⟩ : ∃ cm : Nat, cls = cm := ⟨cls.toNat, by omega⟩
        rw [hdm] at d3 HR dn1 dn2
        have cb := bitR_any dm cm (by omega) (by omega) w1
        clear hdm
        go_wp2_with fail
        refine cb.mono ?_
        rintro e w' ⟨rfl, rfl⟩
        clear cb
        cases hbt : bitOf dm cm with
        | true =>
          have HB2 := Lib.hid hbt
          clear hbt
          go_wp2_with fail
          go_ret
          exact ⟨ret_bool (by rw [HR.out, HF.out, HB2.out]; rfl), hB⟩
        | false =>
          have HB2 := Lib.hid hbt
          clear hbt
          go_wp2_with fail
          go_ret
          exact ⟨ret_bool (by rw [HR.out, HF.out, HB2.out]; rfl), hB⟩
end Go.Proofs.YtgbihmafmmeicaaGreatDoor
namespace Go.Proofs.YtgbihmafmmeicaaGreatDoor
open Go.RowKit Mg Go.Shelf

theorem bits_one : ∀ k : Fin 16, (bits BinOp.and IntKind.i64 ((k.1 : Nat) : Int) 1 == 1) = decide (k.1 % 2 = 1) := by decide
theorem bits_at (m : Nat) (h : m ≤ 15) : (bits BinOp.and IntKind.i64 (m : Int) 1 == 1) = decide (m % 2 = 1) := bits_one ⟨m, by omega⟩
theorem bit_k (dm d : Nat) (h : dm ≤ 15) : (bits BinOp.and IntKind.i64 ((dm : Int) / (d : Int)) 1 == 1) = decide (dm / d % 2 = 1) := by
  rw [← Int.natCast_ediv]
  exact bits_at _ (Nat.le_trans (Nat.div_le_self _ _) h)
set_option maxRecDepth 10000 in
set_option maxHeartbeats 2000000 in
theorem lallows_any {mem : Addr → Option Value} (x : Lab) (av : Value) (hi : IntsM mem av x.after) (cls now : Int) (ov : Value) (out : List Int) (ho : IntsM mem ov out) (n : Int) (w : World) (hs : Sees mem w) :
    Calls Tryz.prog 54 #[.agg (labCells x av), .int .i64 cls, .int .i64 now, ov, .int .i64 n] w fun e w' => e = .returned (.bool (allows x cls now out n)) ∧ Below w.heap.size w w' := by
  have cv := fun W hW => labValid_any x av hi W hW
  have HH := Lib.hid (fun s W hW => contains_any ov out ho s W hW)
  obtain ⟨oa, oc, rfl⟩ := ho.slice
  obtain ⟨ao, cap, b, o, rfl, hcap, hm, hao, hcells⟩ := hi.open_ hs
  have HA := Lib.hid hao
  have HC := Lib.hid hcells
  have HS := Lib.hid hs
  have hlen : (x.after.length : Int) ≤ 9223372036854775807 := by unfold maxLen at hm; omega
  clear hao hcells hs hi ho hcap hm
  have HBad := Lib.hid (@allows_bad x cls now out n)
  have HGood := Lib.hid (@allows_good x cls now out n)
  have HD := Lib.hid (@valid_denied x)
  cases hq : validLab x with
  | false =>
    have HR := Lib.hid (HBad.out (fun h => by rw [hq] at h; cases h.1))
    rw [hq] at cv
    clear hq
    go_enter Tryz.func54, Tryz.ntmps54
    go_wp2_with fail
    refine (cv _ (HS.out.alloc _)).mono ?_
    rintro e w1 ⟨rfl, hb⟩
    clear cv
    have hB : Below w.heap.size w w1 := ((Below.refl w.heap.size w).alloc (Nat.le_refl _) _).trans (hb.mono (by simp))
    clear hb
    go_wp2_with fail
    go_ret
    exact ⟨ret_bool (by rw [HR.out]), hB⟩
  | true =>
    have HQ := Lib.hid hq
    rw [hq] at cv
    clear hq
    go_enter Tryz.func54, Tryz.ntmps54
    go_wp2_with fail
    refine (cv _ (HS.out.alloc _)).mono ?_
    rintro e w1 ⟨rfl, hb⟩
    clear cv
    have hB0 : Below w.heap.size w w1 := ((Below.refl w.heap.size w).alloc (Nat.le_refl _) _).trans (hb.mono (by simp))
    have hh0 := (hb.block w.heap.size (by simp)).trans (World.alloc_heap_new w _)
    have hlt1 : w.heap.size < w1.heap.size := by have := hb.size; simp at this; omega
    clear hb
    have hz0 := hB0.size
    go_wp2_with fail
    refine (within_any _ _ [(cls, 0, 3)] _ (by simp) (by simp) ?_).mono ?_
    · intro j hj
      match j, hj with
      | 0, _ => exact ⟨cell_new (by simp) rfl, cell_new (by simp) rfl, cell_new (by simp) rfl⟩
    rintro e w2 ⟨rfl, hb⟩
    have hB : Below w.heap.size w w2 := (hB0.alloc hz0 _).trans (hb.mono (by simp; omega))
    have hh := (hb.block w.heap.size (by simp; omega)).trans ((Below.heap_alloc _ _ _ hlt1).trans hh0)
    have d0 := blk_cell hh 0
    have d1 := blk_cell hh 1
    have d2 := blk_cell hh 2
    have d3 := blk_cell hh 3
    simp only [List.getElem?_toArray, List.getElem?_cons_zero, List.getElem?_cons_succ] at d0 d1 d2 d3
    have hs1 := Lib.hid (HS.out.bel hB)
    have eW : ([(cls, 0, 3)] : List (Int × Int × Int)).all inB = inR cls 0 3 := by simp [inB, inR]
    rw [eW]
    clear hb hh hh0 hB0 hz0 hlt1 eW
    by_cases hc : 0 ≤ cls ∧ cls ≤ 3
    rotate_left
    · have HR := Lib.hid (HBad.out (fun h => hc ⟨h.2.1, h.2.2.1⟩))
      have k1 : inR cls 0 3 = false := by rw [Bool.eq_false_iff]; exact fun e => hc (inR_iff.1 e)
      rw [k1]
      clear k1
      go_wp2_with fail
      go_ret
      exact ⟨ret_bool (by rw [HR.out]), hB⟩
    obtain ⟨h1, h2⟩ := hc
    rw [inR_iff.2 ⟨h1, h2⟩]
    by_cases h3 : x.till ≤ now
    rotate_left
    · have HR := Lib.hid (HBad.out (fun h => h3 h.2.2.2.1))
      have k3 : decide (now < x.till) = true := by simpa using h3
      go_wp2_with fail
      go_ret
      exact ⟨ret_bool (by rw [HR.out]), hB⟩
    by_cases h4 : x.appr ≤ n
    rotate_left
    · have HR := Lib.hid (HBad.out (fun h => h4 h.2.2.2.2))
      have k3 : decide (now < x.till) = false := by simpa using h3
      have k4 : decide (n < x.appr) = true := by simpa using h4
      go_wp2_with fail
      go_ret
      exact ⟨ret_bool (by rw [HR.out]), hB⟩
    have HR := Lib.hid (HGood.out HQ.out h1 h2 h3 h4)
    have k3 : decide (now < x.till) = false := by simpa using h3
    have k4 : decide (n < x.appr) = false := by simpa using h4
    obtain ⟨dn1, dn2⟩ := HD.out HQ.out
    clear HBad HGood HD HQ
    obtain ⟨dm, hdm⟩ : ∃ dm : Nat, x.denied = dm := ⟨x.denied.toNat, by omega⟩
    obtain ⟨cm, rfl⟩ : ∃ cm : Nat, cls = cm := ⟨cls.toNat, by omega⟩
    rw [hdm] at d3 HR dn1 dn2
    clear hdm
    have hc4 : cm = 0 ∨ cm = 1 ∨ cm = 2 ∨ cm = 3 := by omega
    clear h1 h2
    rcases hc4 with rfl | rfl | rfl | rfl
    · have hbq : (bits BinOp.and IntKind.i64 (dm : Int) 1 == 1) = bitOf dm 0 := by rw [bits_at dm (by omega)]; unfold bitOf; simp
      have HB0 : Hid (bitOf dm ((0 : Nat) : Int) = bitOf dm 0) := Lib.hid rfl
      rw [HB0.out] at HR
      clear HB0
      generalize bitOf dm 0 = q at *
      cases q with
      | true =>
        go_wp2_with fail
        go_ret
        exact ⟨ret_bool (by rw [HR.out]; rfl), hB⟩
      | false =>
        go_wp2_with fail
        go_loop [44] (fun i => ∃ k : Nat, k ≤ x.after.length ∧ i = .int .i64 k ∧ Hid (∀ s ∈ x.after.take k, s ∈ out)) (fun i => x.after.length - (Go.RowKit.intOf i).toNat)
        case atStart => exact ⟨0, Nat.zero_le _, rfl, Lib.hid (by simp)⟩
        case round =>
          obtain ⟨k, hk, rfl, hn⟩ := hrel
          by_cases hlt : k < x.after.length
          · have c1 := HC.out k hlt
            obtain rfl := HA.out (by omega)
            replace c1 := (hB.cell (p := ⟨b, o + k, none⟩) (World.block_lt_of_cell? w _ c1)).trans c1
            have hc := HH.out x.after[k] w2 hs1.out
            by_cases hx : x.after[k] ∈ out
            · have HN := Lib.hid (all_step hlt hn.out hx)
              rw [decide_eq_true hx] at hc
              clear hx hn
              generalize x.after[k] = y at *
              go_wp2_with fail
              refine hc.mono ?_
              rintro e w' ⟨rfl, rfl⟩
              clear hc
              go_wp2_with fail
              go_round
              case rel => exact ⟨k + 1, by omega, by go_num, HN⟩
              case measure => simp [Go.RowKit.intOf]; omega
            · have HF := Lib.hid (all_no hlt hx)
              rw [decide_eq_false hx] at hc
              clear hx hn
              generalize x.after[k] = y at *
              go_wp2_with fail
              refine hc.mono ?_
              rintro e w' ⟨rfl, rfl⟩
              clear hc
              go_wp2_with fail
              go_ret
              exact ⟨ret_bool (by rw [HR.out, HF.out]; rfl), hB⟩
          · have e : k = x.after.length := by omega
            subst e
            have HF := Lib.hid (all_yes hn.out)
            go_wp2_with fail
            go_ret
            exact ⟨ret_bool (by have h := HR.out; rw [HF.out] at h; exact h.symm), hB⟩
    · have hbq : (bits BinOp.and IntKind.i64 ((dm : Int) / 2) 1 == 1) = bitOf dm 1 := by have := bit_k dm 2 (by omega); unfold bitOf; simpa using this
      have HB0 : Hid (bitOf dm ((1 : Nat) : Int) = bitOf dm 1) := Lib.hid rfl
      rw [HB0.out] at HR
      clear HB0
      generalize bitOf dm 1 = q at *
      cases q with
      | true =>
        go_wp2_with fail
        go_ret
        exact ⟨ret_bool (by rw [HR.out]; rfl), hB⟩
      | false =>
        go_wp2_with fail
        go_loop [44] (fun i => ∃ k : Nat, k ≤ x.after.length ∧ i = .int .i64 k ∧ Hid (∀ s ∈ x.after.take k, s ∈ out)) (fun i => x.after.length - (Go.RowKit.intOf i).toNat)
        case atStart => exact ⟨0, Nat.zero_le _, rfl, Lib.hid (by simp)⟩
        case round =>
          obtain ⟨k, hk, rfl, hn⟩ := hrel
          by_cases hlt : k < x.after.length
          · have c1 := HC.out k hlt
            obtain rfl := HA.out (by omega)
            replace c1 := (hB.cell (p := ⟨b, o + k, none⟩) (World.block_lt_of_cell? w _ c1)).trans c1
            have hc := HH.out x.after[k] w2 hs1.out
            by_cases hx : x.after[k] ∈ out
            · have HN := Lib.hid (all_step hlt hn.out hx)
              rw [decide_eq_true hx] at hc
              clear hx hn
              generalize x.after[k] = y at *
              go_wp2_with fail
              refine hc.mono ?_
              rintro e w' ⟨rfl, rfl⟩
              clear hc
              go_wp2_with fail
              go_round
              case rel => exact ⟨k + 1, by omega, by go_num, HN⟩
              case measure => simp [Go.RowKit.intOf]; omega
            · have HF := Lib.hid (all_no hlt hx)
              rw [decide_eq_false hx] at hc
              clear hx hn
              generalize x.after[k] = y at *
              go_wp2_with fail
              refine hc.mono ?_
              rintro e w' ⟨rfl, rfl⟩
              clear hc
              go_wp2_with fail
              go_ret
              exact ⟨ret_bool (by rw [HR.out, HF.out]; rfl), hB⟩
          · have e : k = x.after.length := by omega
            subst e
            have HF := Lib.hid (all_yes hn.out)
            go_wp2_with fail
            go_ret
            exact ⟨ret_bool (by have h := HR.out; rw [HF.out] at h; exact h.symm), hB⟩
    · have hbq : (bits BinOp.and IntKind.i64 ((dm : Int) / 4) 1 == 1) = bitOf dm 2 := by have := bit_k dm 4 (by omega); unfold bitOf; simpa using this
      have HB0 : Hid (bitOf dm ((2 : Nat) : Int) = bitOf dm 2) := Lib.hid rfl
      rw [HB0.out] at HR
      clear HB0
      generalize bitOf dm 2 = q at *
      cases q with
      | true =>
        go_wp2_with fail
        go_ret
        exact ⟨ret_bool (by rw [HR.out]; rfl), hB⟩
      | false =>
        go_wp2_with fail
        go_loop [44] (fun i => ∃ k : Nat, k ≤ x.after.length ∧ i = .int .i64 k ∧ Hid (∀ s ∈ x.after.take k, s ∈ out)) (fun i => x.after.length - (Go.RowKit.intOf i).toNat)
        case atStart => exact ⟨0, Nat.zero_le _, rfl, Lib.hid (by simp)⟩
        case round =>
          obtain ⟨k, hk, rfl, hn⟩ := hrel
          by_cases hlt : k < x.after.length
          · have c1 := HC.out k hlt
            obtain rfl := HA.out (by omega)
            replace c1 := (hB.cell (p := ⟨b, o + k, none⟩) (World.block_lt_of_cell? w _ c1)).trans c1
            have hc := HH.out x.after[k] w2 hs1.out
            by_cases hx : x.after[k] ∈ out
            · have HN := Lib.hid (all_step hlt hn.out hx)
              rw [decide_eq_true hx] at hc
              clear hx hn
              generalize x.after[k] = y at *
              go_wp2_with fail
              refine hc.mono ?_
              rintro e w' ⟨rfl, rfl⟩
              clear hc
              go_wp2_with fail
              go_round
              case rel => exact ⟨k + 1, by omega, by go_num, HN⟩
              case measure => simp [Go.RowKit.intOf]; omega
            · have HF := Lib.hid (all_no hlt hx)
              rw [decide_eq_false hx] at hc
              clear hx hn
              generalize x.after[k] = y at *
              go_wp2_with fail
              refine hc.mono ?_
              rintro e w' ⟨rfl, rfl⟩
              clear hc
              go_wp2_with fail
              go_ret
              exact ⟨ret_bool (by rw [HR.out, HF.out]; rfl), hB⟩
          · have e : k = x.after.length := by omega
            subst e
            have HF := Lib.hid (all_yes hn.out)
            go_wp2_with fail
            go_ret
            exact ⟨ret_bool (by have h := HR.out; rw [HF.out] at h; exact h.symm), hB⟩
    · have hbq : (bits BinOp.and IntKind.i64 ((dm : Int) / 8) 1 == 1) = bitOf dm 3 := by have := bit_k dm 8 (by omega); unfold bitOf; simpa using this
      have HB0 : Hid (bitOf dm ((3 : Nat) : Int) = bitOf dm 3) := Lib.hid rfl
      rw [HB0.out] at HR
      clear HB0
      generalize bitOf dm 3 = q at *
      cases q with
      | true =>
        go_wp2_with fail
        go_ret
        exact ⟨ret_bool (by rw [HR.out]; rfl), hB⟩
      | false =>
        go_wp2_with fail
        go_loop [44] (fun i => ∃ k : Nat, k ≤ x.after.length ∧ i = .int .i64 k ∧ Hid (∀ s ∈ x.after.take k, s ∈ out)) (fun i => x.after.length - (Go.RowKit.intOf i).toNat)
        case atStart => exact ⟨0, Nat.zero_le _, rfl, Lib.hid (by simp)⟩
        case round =>
          obtain ⟨k, hk, rfl, hn⟩ := hrel
          by_cases hlt : k < x.after.length
          · have c1 := HC.out k hlt
            obtain rfl := HA.out (by omega)
            replace c1 := (hB.cell (p := ⟨b, o + k, none⟩) (World.block_lt_of_cell? w _ c1)).trans c1
            have hc := HH.out x.after[k] w2 hs1.out
            by_cases hx : x.after[k] ∈ out
            · have HN := Lib.hid (all_step hlt hn.out hx)
              rw [decide_eq_true hx] at hc
              clear hx hn
              generalize x.after[k] = y at *
              go_wp2_with fail
              refine hc.mono ?_
              rintro e w' ⟨rfl, rfl⟩
              clear hc
              go_wp2_with fail
              go_round
              case rel => exact ⟨k + 1, by omega, by go_num, HN⟩
              case measure => simp [Go.RowKit.intOf]; omega
            · have HF := Lib.hid (all_no hlt hx)
              rw [decide_eq_false hx] at hc
              clear hx hn
              generalize x.after[k] = y at *
              go_wp2_with fail
              refine hc.mono ?_
              rintro e w' ⟨rfl, rfl⟩
              clear hc
              go_wp2_with fail
              go_ret
              exact ⟨ret_bool (by rw [HR.out, HF.out]; rfl), hB⟩
          · have e : k = x.after.length := by omega
            subst e
            have HF := Lib.hid (all_yes hn.out)
            go_wp2_with fail
            go_ret
            exact ⟨ret_bool (by have h := HR.out; rw [HF.out] at h; exact h.symm), hB⟩
end Go.Proofs.YtgbihmafmmeicaaGreatDoor
namespace Go.Proofs.YtgbihmafmmeicaaGreatDoor
open Go.RowKit Mg Go.Shelf

theorem lastPub_app_none {s : Int} {m : List Fct} (h : ∀ f ∈ m, isPub s f = false) : ∀ l : List Fct, lastPub (l ++ m) s = lastPub l s
  | [] => lastPub_none.2 h
  | g :: r => by
    show lastPub (g :: (r ++ m)) s = _
    unfold lastPub
    rw [lastPub_app_none h r]
theorem lastPub_at {s : Int} {l : List Fct} {k : Nat} (hk : k < l.length) (h : ∀ f ∈ l.drop (k + 1), isPub s f = false) (hp : isPub s l[k] = true) : lastPub l s = some l[k] := by
  have e := lastPub_app_none h (l.take (k + 1))
  rw [List.take_append_drop, List.take_succ_eq_append_getElem hk, lastPub_snoc, if_pos hp] at e
  exact e
theorem drop_none {s : Int} {l : List Fct} {k : Nat} (hk : k < l.length) (h : ∀ f ∈ l.drop (k + 1), isPub s f = false) (hp : isPub s l[k] = false) : ∀ f ∈ l.drop k, isPub s f = false := fun f hf => by
  rw [List.drop_eq_getElem_cons hk] at hf
  rcases List.mem_cons.1 hf with e | hf
  · rw [e]; exact hp
  · exact h f hf
theorem any_take {p : Fct → Bool} {l : List Fct} {k : Nat} (hk : k < l.length) (h : (l.take k).any p = false) (hp : p l[k] = false) : (l.take (k + 1)).any p = false := by
  rw [List.take_succ_eq_append_getElem hk, List.any_append, h]
  simp [hp]
theorem any_hit {p : Fct → Bool} {l : List Fct} {k : Nat} (hk : k < l.length) (hp : p l[k] = true) : l.any p = true := List.any_eq_true.2 ⟨_, List.getElem_mem hk, hp⟩

set_option maxRecDepth 10000 in
set_option maxHeartbeats 1000000 in
theorem takenR_any {mem : Addr → Option Value} {v : Value} {l : List Fct} (h : FctsM mem v l) (s : Int) (w : World) (hs : Sees mem w) :
    Calls Tryz.prog 27 #[v, .int .i64 s] w fun e w' => e = .returned (.bool (takenF l s)) ∧ w = w' := by
  obtain ⟨ao, cap, b, o, rfl, hcap, hm, hao, hf⟩ := h.open_
  have HA := Lib.hid hao
  have HC := Lib.hid hf
  have HS := Lib.hid hs
  have hlen : (l.length : Int) ≤ 9223372036854775807 := by unfold maxLen at hm; omega
  clear hao hf hs h hcap hm
  go_enter Tryz.func27, Tryz.ntmps27
  go_wp2_with fail
  go_loop [5] (fun i => ∃ k : Nat, k ≤ l.length ∧ i = .int .i64 k ∧ Hid ((l.take k).any (isTake s) = false)) (fun i => l.length - (Go.RowKit.intOf i).toNat)
  case atStart => exact ⟨0, Nat.zero_le _, rfl, Lib.hid rfl⟩
  case round =>
    obtain ⟨k, hk, rfl, hn⟩ := hrel
    by_cases hlt : k < l.length
    · obtain ⟨_, tv, bv, av, hc, _⟩ := HC.out k hlt
      have cc := hc.cells HS.out
      have c2 := cc.c2
      have c3 := cc.c3
      clear hc cc
      obtain rfl := HA.out (by omega)
      have HT : Hid (isTake s l[k] = (decide (l[k].kind = 6) && decide (l[k].story = s))) := Lib.hid rfl
      have HN := Lib.hid (fun hp => any_take hlt hn.out hp)
      have HY := Lib.hid (fun hp => any_hit (p := isTake s) hlt hp)
      generalize l[k] = f at *
      clear hn
      by_cases h6 : f.kind = 6
      · have e6 : (f.kind == 6) = true := by simpa using h6
        by_cases hst : f.story = s
        · have es : (f.story == s) = true := by simpa using hst
          have HF := Lib.hid (HY.out (by rw [HT.out, decide_eq_true h6, decide_eq_true hst]; rfl))
          clear h6 hst HN HY HT
          go_wp2_with fail
          go_ret
          exact ⟨ret_bool (by unfold takenF; rw [HF.out]), rfl⟩
        · have es : (f.story == s) = false := by simpa using hst
          have HF := Lib.hid (HN.out (by rw [HT.out, decide_eq_false hst, Bool.and_false]))
          clear h6 hst HN HY HT
          go_wp2_with fail
          go_round
          case rel => exact ⟨k + 1, by omega, by go_num, HF⟩
          case measure => simp [Go.RowKit.intOf]; omega
      · have e6 : (f.kind == 6) = false := by simpa using h6
        have HF := Lib.hid (HN.out (by rw [HT.out, decide_eq_false h6, Bool.false_and]))
        clear h6 HN HY HT
        go_wp2_with fail
        go_round
        case rel => exact ⟨k + 1, by omega, by go_num, HF⟩
        case measure => simp [Go.RowKit.intOf]; omega
    · have e : k = l.length := by omega
      subst e
      have HF : Hid (takenF l s = false) := Lib.hid (by have := hn.out; rw [List.take_length] at this; exact this)
      go_wp2_with fail
      go_ret
      exact ⟨ret_bool (by rw [HF.out]), rfl⟩

def apprTo (D : List Fct) (s : Int) (m : Nat) : Nat := ((List.range m).filter fun e : Nat => D.any (byEditor s ((e : Int) + 1))).length
theorem apprTo_all (D : List Fct) (s : Int) : apprF D s = (apprTo D s 5 : Nat) := rfl
theorem apprTo_step (D : List Fct) (s : Int) (m : Nat) : apprTo D s (m + 1) = apprTo D s m + if D.any (byEditor s ((m : Int) + 1)) = true then 1 else 0 := by
  unfold apprTo
  rw [List.range_succ, List.filter_append, List.length_append]
  congr 1
  by_cases h : D.any (byEditor s ((m : Int) + 1)) = true
  · rw [if_pos h, List.filter_cons_of_pos (p := fun e : Nat => D.any (byEditor s ((e : Int) + 1))) h]; rfl
  · rw [if_neg h, List.filter_cons_of_neg (p := fun e : Nat => D.any (byEditor s ((e : Int) + 1))) h]; rfl
theorem apprTo_le (D : List Fct) (s : Int) (m : Nat) : apprTo D s m ≤ m := by
  unfold apprTo
  have := List.length_filter_le (fun e : Nat => D.any (byEditor s ((e : Int) + 1))) (List.range m)
  rwa [List.length_range] at this
set_option maxRecDepth 10000 in
set_option maxHeartbeats 1000000 in
theorem labelR_any {mem : Addr → Option Value} {v : Value} {l : List Fct} (h : FctsM mem v l) (s : Int) (w : World) (hs : Sees mem w) :
    Calls Tryz.prog 16 #[v, .int .i64 s] w fun e w' => ∃ av, e = .returned (.tuple #[.agg (labCells (labOf (lastPub l s)) av), .bool (lastPub l s).isSome]) ∧ IntsM mem av (labOf (lastPub l s)).after ∧ Below w.heap.size w w' := by
  obtain ⟨ao, cap, b, o, rfl, hcap, hm, hao, hf⟩ := h.open_
  have HA := Lib.hid hao
  have HC := Lib.hid hf
  have HS := Lib.hid hs
  have hlen : (l.length : Int) ≤ 9223372036854775807 := by unfold maxLen at hm; omega
  have hB : Below w.heap.size w (w.alloc (.cells #[.int .i64 0, .slice none 0 0, .int .i64 0, .int .i64 0] 34)) := (Below.refl _ w).alloc (Nat.le_refl _) _
  clear hao hf hs h hcap hm
  go_enter Tryz.func16, Tryz.ntmps16
  go_wp2_with fail
  go_loop [6] (fun i => ∃ k : Nat, k ≤ l.length ∧ i = .int .i64 ((k : Int) - 1) ∧ Hid (∀ f ∈ l.drop k, isPub s f = false)) (fun i => (Go.RowKit.intOf i + 1).toNat)
  case atStart => exact ⟨l.length, Nat.le_refl _, rfl, Lib.hid (by rw [List.drop_length]; simp)⟩
  case round =>
    obtain ⟨k, hk, rfl, hn⟩ := hrel
    cases k with
    | zero =>
      have HF : Hid (lastPub l s = none) := Lib.hid (lastPub_none.2 (by have := hn.out; rwa [List.drop_zero] at this))
      go_wp2_with fail
      refine bodyPost_ret (v := .tuple #[.agg #[.int .i64 0, .slice none 0 0, .int .i64 0, .int .i64 0], .bool false]) (by simp [results, Tryz.results16, go_sem]) rfl ?_
      rw [HF.out]
      exact ⟨_, rfl, IntsM.nil _, hB⟩
    | succ k =>
      have hlt : k < l.length := hk
      obtain ⟨_, tv, bv, av, hc, hpt⟩ := HC.out k hlt
      have cc := hc.cells HS.out
      have hlb : b < w.heap.size := cell_lt cc.c2
      have c2 := cc.c2
      have c3 := cc.c3
      have c11 := cc.c11
      have c12 := cc.c12
      have c13 := cc.c13
      have c14 := cc.c14
      obtain ⟨aa, ac, rfl⟩ := hpt.2.2.slice
      have HP := Lib.hid hpt.2.2
      clear hc cc hpt
      obtain rfl := HA.out (by omega)
      have HT : Hid (isPub s l[k] = (decide (l[k].kind = 3) && decide (l[k].story = s))) := Lib.hid rfl
      have HN := Lib.hid (fun hp => drop_none hlt hn.out hp)
      have HY := Lib.hid (fun hp => lastPub_at hlt hn.out hp)
      have hk0 : (0 : Int) ≤ k := by omega
      have hk1 : (k : Int) < l.length := by omega
      generalize l[k] = f at *
      clear hn
      by_cases h6 : f.kind = 3
      · have e6 : (f.kind == 3) = true := by simpa using h6
        by_cases hst : f.story = s
        · have es : (f.story == s) = true := by simpa using hst
          have HF := Lib.hid (HY.out (by rw [HT.out, decide_eq_true h6, decide_eq_true hst]; rfl))
          clear h6 hst HN HY HT
          go_wp2_with fail
          refine bodyPost_ret (v := .tuple #[.agg (labCells f.lab (.slice aa f.lab.after.length ac)), .bool true]) (by simp [results, Tryz.results16, go_sem]) rfl ?_
          rw [HF.out]
          exact ⟨_, rfl, HP.out, (Below.refl _ w).alloc (Nat.le_refl _) _⟩
        · have es : (f.story == s) = false := by simpa using hst
          have HF := Lib.hid (HN.out (by rw [HT.out, decide_eq_false hst, Bool.and_false]))
          clear h6 hst HN HY HT
          go_wp2_with fail
          go_round
          case rel => exact ⟨k, by omega, by go_num, HF⟩
          case measure => simp [Go.RowKit.intOf]
      · have e6 : (f.kind == 3) = false := by simpa using h6
        have HF := Lib.hid (HN.out (by rw [HT.out, decide_eq_false h6, Bool.false_and]))
        clear h6 HN HY HT
        go_wp2_with fail
        go_round
        case rel => exact ⟨k, by omega, by go_num, HF⟩
        case measure => simp [Go.RowKit.intOf]
end Go.Proofs.YtgbihmafmmeicaaGreatDoor
namespace Go.Proofs.YtgbihmafmmeicaaGreatDoor
open Go.RowKit Mg Go.Shelf

set_option maxRecDepth 10000 in
set_option maxHeartbeats 2000000 in
theorem apprR_any {mem : Addr → Option Value} {v : Value} {l : List Fct} (h : FctsM mem v l) (s : Int) (w : World) (hs : Sees mem w) :
    Calls Tryz.prog 17 #[v, .int .i64 s] w fun e w' => e = .returned (.int .i64 (apprF l s)) ∧ w = w' := by
  obtain ⟨ao, cap, b, o, rfl, hcap, hm, hao, hf⟩ := h.open_
  have HA := Lib.hid hao
  have HC := Lib.hid hf
  have HS := Lib.hid hs
  have HAll := Lib.hid (apprTo_all l s)
  have hlen : (l.length : Int) ≤ 9223372036854775807 := by unfold maxLen at hm; omega
  clear hao hf hs h hcap hm
  go_enter Tryz.func17, Tryz.ntmps17
  go_wp2_with fail
  go_loop [6, 5, 7] (fun e n _ => ∃ m : Nat, m ≤ 5 ∧ e = .int .i64 ((m : Int) + 1) ∧ n = .int .i64 (apprTo l s m : Nat)) (fun e _ _ => 6 - (Go.RowKit.intOf e).toNat)
  case atStart => exact ⟨0, Nat.zero_le _, rfl, rfl⟩
  case round =>
    obtain ⟨m, hm, rfl, rfl⟩ := hrel
    have hle := apprTo_le l s m
    have HStep := Lib.hid (apprTo_step l s m)
    by_cases hlt : m < 5
    · generalize apprTo l s m = q at *
      go_wp2_with fail
      go_loop [7, 5] (fun i n => ∃ k : Nat, k ≤ l.length ∧ i = .int .i64 k ∧ n = .int .i64 (q : Nat) ∧ Hid ((l.take k).any (byEditor s ((m : Int) + 1)) = false)) (fun i _ => l.length - (Go.RowKit.intOf i).toNat)
      case atStart => exact ⟨0, Nat.zero_le _, rfl, rfl, Lib.hid rfl⟩
      case round =>
        obtain ⟨k, hk, rfl, rfl, hn⟩ := hrel
        by_cases hlk : k < l.length
        · obtain ⟨_, tv, bv, av, hc, _⟩ := HC.out k hlk
          have cc := hc.cells HS.out
          have c2 := cc.c2
          have c3 := cc.c3
          have c15 := cc.c15
          clear hc cc
          obtain rfl := HA.out (by omega)
          have HT : Hid (byEditor s ((m : Int) + 1) l[k] = (decide (l[k].kind = 2) && decide (l[k].story = s) && decide (l[k].editor = (m : Int) + 1))) := Lib.hid rfl
          have HN := Lib.hid (fun hp => any_take hlk hn.out hp)
          have HY := Lib.hid (fun hp => any_hit (p := byEditor s ((m : Int) + 1)) hlk hp)
          generalize l[k] = f at *
          clear hn
          have next : Hid (byEditor s ((m : Int) + 1) f = false) → Hid (((l.take (k + 1)).any (byEditor s ((m : Int) + 1))) = false) := fun h => Lib.hid (HN.out h.out)
          clear HN
          by_cases h6 : f.kind = 2
          · have e6 : (f.kind == 2) = true := by simpa using h6
            by_cases hst : f.story = s
            · have es : (f.story == s) = true := by simpa using hst
              by_cases hed : f.editor = (m : Int) + 1
              · have ee : (f.editor == (m : Int) + 1) = true := by simpa using hed
                have HF := Lib.hid (HY.out (by rw [HT.out, decide_eq_true h6, decide_eq_true hst, decide_eq_true hed]; rfl))
                have HQ : Hid (apprTo l s (m + 1) = q + 1) := Lib.hid (by rw [HStep.out, if_pos HF.out])
                clear h6 hst hed next HY HT HStep
                go_wp2_with fail
                go_round
                case rel => exact ⟨m + 1, by omega, by go_num, by rw [HQ.out]; first | rfl | go_num | (simp; done)⟩
                case measure => simp [Go.RowKit.intOf]; omega
              · have ee : (f.editor == (m : Int) + 1) = false := by simpa using hed
                have HF := next (Lib.hid (by rw [HT.out, decide_eq_false hed, Bool.and_false]))
                clear h6 hst hed next HY HT
                go_wp2_with fail
                go_round
                case rel => exact ⟨k + 1, by omega, by go_num, rfl, HF⟩
                case measure => simp [Go.RowKit.intOf]; omega
            · have es : (f.story == s) = false := by simpa using hst
              have HF := next (Lib.hid (by rw [HT.out, decide_eq_false hst, Bool.and_false, Bool.false_and]))
              clear h6 hst next HY HT
              go_wp2_with fail
              go_round
              case rel => exact ⟨k + 1, by omega, by go_num, rfl, HF⟩
              case measure => simp [Go.RowKit.intOf]; omega
          · have e6 : (f.kind == 2) = false := by simpa using h6
            have HF := next (Lib.hid (by rw [HT.out, decide_eq_false h6, Bool.false_and, Bool.false_and]))
            clear h6 next HY HT
            go_wp2_with fail
            go_round
            case rel => exact ⟨k + 1, by omega, by go_num, rfl, HF⟩
            case measure => simp [Go.RowKit.intOf]; omega
        · have e : k = l.length := by omega
          subst e
          have HF : Hid (l.any (byEditor s ((m : Int) + 1)) = false) := Lib.hid (by have := hn.out; rwa [List.take_length] at this)
          have HQ : Hid (apprTo l s (m + 1) = q) := Lib.hid (by rw [HStep.out, HF.out]; rfl)
          go_wp2_with fail
          go_round
          case rel => exact ⟨m + 1, by omega, by go_num, by rw [HQ.out]⟩
          case measure => simp [Go.RowKit.intOf]; omega
    · have e : m = 5 := by omega
      subst e
      go_wp2_with fail
      go_ret
      exact ⟨ret_int (by rw [HAll.out]), rfl⟩
end Go.Proofs.YtgbihmafmmeicaaGreatDoor
namespace Go.Proofs.YtgbihmafmmeicaaGreatDoor
open Go.RowKit Mg Go.Shelf

theorem pick_quiet (c n : Int) (hc : okI c) (hn : 0 < n) (hn2 : n ≤ 1000000) (w : World) (k : Nat) :
    Calls Tryz.prog 15 #[.int .i64 c, .int .i64 n] (w.drewN k) fun e w' => e = .returned (.int .i64 (pickF c n)) ∧ ∃ m, w' = w.drewN m :=
  Calls.quiet_of_same ((pick_any c n hc hn hn2 (w.drewN k)).mono fun _ _ ⟨h1, h2⟩ => ⟨h1, h2.symm⟩)

end Go.Proofs.YtgbihmafmmeicaaGreatDoor
namespace Go.Proofs.YtgbihmafmmeicaaGreatDoor
open Go.RowKit Mg Go.Shelf

theorem tdiv_ok {n : Int} (h : okI n) : okI (n.tdiv 26) := by
  unfold okI at *
  rcases Int.le_total 0 n with h0 | h0
  · rw [Int.tdiv_eq_ediv_of_nonneg h0]
    omega
  · have e : n.tdiv 26 = -((-n) / 26) := by
      rw [← Int.tdiv_eq_ediv_of_nonneg (by omega), Int.neg_tdiv, Int.neg_neg]
    rw [e]
    omega
theorem byteOf_nat {x : Int} (h0 : 0 ≤ x) (h1 : x < 256) : (((Mg.byteOf x).toNat : Nat) : Int) = x := by
  unfold Mg.byteOf
  rw [UInt8.toNat_ofNat']
  omega
set_option maxRecDepth 100000 in
set_option maxHeartbeats 400000 in
theorem word_any (n : Int) (hn : okI n) (w : World) :
    Calls Tryz.prog 38 #[.int .i64 n] w fun r w' => r = .returned (.string (wordF n)) ∧ Below w.heap.size w w' := by
  have c1 := fun W => pick_any n 26 hn (by omega) (by omega) W
  have c2 := fun W => pick_any (n.tdiv 26) 26 (tdiv_ok hn) (by omega) (by omega) W
  obtain ⟨p0, p1⟩ := pickF_lt (c := n) (n := 26) (by omega)
  obtain ⟨q0, q1⟩ := pickF_lt (c := n.tdiv 26) (n := 26) (by omega)
  generalize hP : pickF n 26 = p at *
  generalize hQ : pickF (n.tdiv 26) 26 = q at *
  have HP := Lib.hid (And.intro hP hQ)
  obtain ⟨h1, h2⟩ := hn
  clear hP hQ
  go_enter Tryz.func38, Tryz.ntmps38
  go_wp2_with fail
  refine (c1 _).mono ?_
  rintro e w' ⟨rfl, rfl⟩
  go_wp2_with fail
  refine (c2 _).mono ?_
  rintro e w' ⟨rfl, rfl⟩
  have hcv := run_convert_bytes_back (P := Tryz.prog) (w.alloc (.cells #[.int .u8 (97 + p), .int .u8 (97 + q)] 5)) 94 9 5 ⟨w.heap.size, 0, none⟩ 2 [Mg.byteOf (97 + p), Mg.byteOf (97 + q)] Tryz.underlying94 Tryz.underlying5 Tryz.underlying9 (fun j hj => by
    have e1 := byteOf_nat (x := 97 + p) (by omega) (by omega)
    have e2 := byteOf_nat (x := 97 + q) (by omega) (by omega)
    have hadd : (⟨w.heap.size, 0, none⟩ : Addr).add j = ⟨w.heap.size, j, none⟩ := by unfold Addr.add; by_cases h0 : j = 0 <;> simp [h0]
    rw [hadd, blk_cell (World.alloc_heap_new w _)]
    match j, hj with
    | 0, _ => simp [e1]
    | 1, _ => simp [e2])
  simp only [List.length_cons, List.length_nil, Nat.zero_add, Nat.reduceAdd] at hcv
  go_wp2_with fail
  go_ret
  have hw : wordF n = (⟨#[83, 101, 110, 116, 101, 110, 99, 101, 32]⟩ : ByteArray) ++ ⟨#[Mg.byteOf (97 + p), Mg.byteOf (97 + q)]⟩ ++ ⟨#[46]⟩ := by
    unfold wordF wordL
    rw [HP.out.1, HP.out.2]
    apply ByteArray.ext
    simp
  exact ⟨by rw [hw]; rfl, (Below.refl _ w).alloc (Nat.le_refl _) _⟩
end Go.Proofs.YtgbihmafmmeicaaGreatDoor
namespace Go.Proofs.YtgbihmafmmeicaaGreatDoor

abbrev mT : Option Bool := some true
abbrev mF : Option Bool := some false
abbrev mL : Option Bool := none
def anyT (P : Program) (md : Region.Mode) (ops : Array Oper) (Q : Exit → Act → World → Prop) (S : World → Prop) (fin : Nat) : Nat → Array Bool → Act → World → Prop
  | 0, listed, a, w => Region.ready md ops listed = [] ∧ Q .normal a w
  | fuel + 1, listed, a, w => (Region.ready md ops listed = [] → Q .normal a w) ∧
    ∀ i ∈ Region.ready md ops listed, wpOp P ops Q i (fun a' w' => (i ≠ fin → S w') ∧ anyT P md ops Q S fin fuel (listed.setIfInBounds i true) a' w') a w
def mixB (md : Region.Mode) (ops : Array Oper) (fin : Nat) : List (Option Bool) → Nat → Array Bool → Bool
  | [], _, listed => (Region.ready md ops listed).isEmpty
  | some true :: fl, k, listed => (Region.ready md ops listed).contains k && Region.free md ops listed k && (decide (ops.size ≤ fin) || Region.waitsFor md ops fin k) && mixB md ops fin fl (k + 1) (listed.setIfInBounds k true)
  | some false :: fl, k, listed => decide (Region.ready md ops listed = [k]) && mixB md ops fin fl (k + 1) (listed.setIfInBounds k true)
  | none :: fl, k, listed => decide (k = fin) && decide (Region.ready md ops listed = [k]) && mixB md ops fin fl (k + 1) (listed.setIfInBounds k true)
def wpMix (P : Program) (ops : Array Oper) (Q : Exit → Act → World → Prop) (S : World → Prop) : List (Option Bool) → List Oper → Act → World → Prop
  | some true :: fl, o :: rest, a, w => (∀ v c a w, Q (.panic c) (Act.put a o.dst v) w → Q (.panic c) a w) ∧ S w ∧ ∃ v, YieldsIf P ops S o v a ∧ wpMix P ops Q S fl rest (a.put o.dst v) w
  | some false :: fl, o :: rest, a, w => if Region.wanted o (yielded ops a.tmps) then o.wp P a w (fun a' w' => S w' ∧ wpMix P ops Q S fl rest a' w') Q else S w ∧ wpMix P ops Q S fl rest (a.put o.dst undef) w
  | none :: fl, o :: rest, a, w => if Region.wanted o (yielded ops a.tmps) then o.wp P a w (fun a' w' => wpMix P ops Q S fl rest a' w') Q else wpMix P ops Q S fl rest (a.put o.dst undef) w
  | _, _, a, w => Q .normal a w
section
variable {P : Program} {ops : Array Oper} {Q : Exit → Act → World → Prop} {md : Region.Mode} {S : World → Prop} {fin : Nat}
theorem wpMix_nil {a : Act} {w : World} (h : Q .normal a w) : wpMix P ops Q S [] [] a w := h
theorem wpMix_step {a : Act} {w : World} {o : Oper} {rest : List Oper} {fl : List (Option Bool)}
    (h : ∀ K : Act → World → Prop, (∀ a w, S w → wpMix P ops Q S fl rest a w → K a w) → if Region.wanted o (yielded ops a.tmps) then o.wp P a w K Q else K (a.put o.dst undef) w) : wpMix P ops Q S (mF :: fl) (o :: rest) a w := by
  have := h (fun a' w' => S w' ∧ wpMix P ops Q S fl rest a' w') (fun _ _ h1 h2 => ⟨h1, h2⟩)
  unfold wpMix
  split
  · rename_i hw; rw [if_pos hw] at this; exact this
  · rename_i hw; rw [if_neg hw] at this; exact this
theorem wpMix_last {a : Act} {w : World} {o : Oper} {rest : List Oper} {fl : List (Option Bool)}
    (h : ∀ K : Act → World → Prop, (∀ a w, wpMix P ops Q S fl rest a w → K a w) → if Region.wanted o (yielded ops a.tmps) then o.wp P a w K Q else K (a.put o.dst undef) w) : wpMix P ops Q S (mL :: fl) (o :: rest) a w := by
  have := h (fun a' w' => wpMix P ops Q S fl rest a' w') (fun _ _ h2 => h2)
  unfold wpMix
  split
  · rename_i hw; rw [if_pos hw] at this; exact this
  · rename_i hw; rw [if_neg hw] at this; exact this
theorem wpMix_take {a : Act} {w : World} {o : Oper} {rest : List Oper} {fl : List (Option Bool)} (v : Value) (hQ : ∀ v c a w, Q (.panic c) (Act.put a o.dst v) w → Q (.panic c) a w) (hS : S w)
    (hw : Region.wanted o (yielded ops a.tmps) = true) (hy : ∀ w, S w → (execOp a.eval o).run P w = .ok (.value v) w) (h : wpMix P ops Q S fl rest (a.put o.dst v) w) : wpMix P ops Q S (mT :: fl) (o :: rest) a w :=
  ⟨hQ, hS, v, .inl ⟨hw, hy⟩, h⟩
theorem wpMix_skip {a : Act} {w : World} {o : Oper} {rest : List Oper} {fl : List (Option Bool)} (hQ : ∀ v c a w, Q (.panic c) (Act.put a o.dst v) w → Q (.panic c) a w) (hS : S w)
    (hw : Region.wanted o (yielded ops a.tmps) = false) (h : wpMix P ops Q S fl rest (a.put o.dst undef) w) : wpMix P ops Q S (mT :: fl) (o :: rest) a w :=
  ⟨hQ, hS, undef, .inr ⟨hw, rfl⟩, h⟩
theorem anyT_any : ∀ (fuel : Nat) (listed : Array Bool) (a : Act) (w : World), anyT P md ops Q S fin fuel listed a w → wpAny P md ops Q fuel listed a w
  | 0, _, _, _, h => h
  | fuel + 1, _, _, _, h => ⟨h.1, fun i hi => wpOp_mono (fun a' w' h' => anyT_any fuel _ a' w' h'.2) (h.2 i hi)⟩
theorem not_waited {i j : Nat} {oj : Oper} {listed : Array Bool} (hi : i ∈ Region.ready md ops listed) (hj : j ∈ Region.ready md ops listed) (ho : ops[j]? = some oj) : ∀ e ∈ oj.after, Region.binds md e = true → e.on ≠ i := fun e he hb heq => by
  obtain ⟨_, o2, h2, hall⟩ := mem_ready.1 hj
  rw [ho] at h2
  injection h2 with h2
  subst h2
  have h1 := hall e he hb
  have h0 := (mem_ready.1 hi).1
  rw [heq] at h1
  by_cases hs : i < listed.size
  · simp [hs] at h0 h1
    rw [h0] at h1
    cases h1
  · simp [Array.getElem?_eq_none (Nat.le_of_not_lt hs)] at h1
theorem anyT_take {i : Nat} {oi : Oper} {v : Value} (ho : ops[i]? = some oi) (hsel : ∀ (j : Nat) (o : Oper) cs b, ops[j]? = some o → o.op ≠ .select cs b)
    (hQ : ∀ c a w, Q (.panic c) (a.put oi.dst v) w → Q (.panic c) a w) (hfin : ops.size ≤ fin ∨ Region.waitsFor md ops fin i = true) :
    ∀ (fuel : Nat) (listed : Array Bool) (a : Act) (w : World),
      (∀ j oj, ops[j]? = some oj → j ≠ i → listed.getD j true = false → (∀ e ∈ oj.after, Region.binds md e = true → e.on ≠ i) → oi.apart ops oj = true) →
      i ∈ Region.ready md ops listed → YieldsIf P ops S oi v a → S w → anyT P md ops Q S fin fuel (listed.setIfInBounds i true) (a.put oi.dst v) w → anyT P md ops Q S fin (fuel + 1) listed a w := by
  intro fuel
  induction fuel with
  | zero =>
    intro listed a w _ hr hy hS H
    refine ⟨(fun h => by rw [h] at hr; cases hr), fun j hj => ?_⟩
    rcases Nat.decEq j i with hji | hji
    · exact absurd (ready_mono hj hji) (by rw [H.1]; simp)
    · subst hji
      exact hy.wpOp ho hS ⟨fun _ => hS, H⟩
  | succ fuel ih =>
    intro listed a w hfree hr hy hS H
    refine ⟨(fun h => by rw [h] at hr; cases hr), fun j hj => ?_⟩
    rcases Nat.decEq j i with hji | hji
    · obtain ⟨hjl, oj, hoj, _⟩ := mem_ready.1 hj
      have hnot := not_waited hr hj hoj
      have hjf : j ≠ fin := fun e => by
        subst e
        rcases hfin with h | h
        · have := (Array.getElem?_eq_some_iff.1 hoj).1; omega
        · obtain ⟨o2, h2, e, he, hb, h3⟩ := Region.waitsFor_spec h
          rw [hoj] at h2
          injection h2 with h2
          subst h2
          exact hnot e he hb h3
      have h2 := wpOp_putIf hoj (hfree j oj hoj hji hjl hnot) (fun cs b => hsel i oi cs b ho) (fun cs b => hsel j oj cs b hoj) hQ hy (H.2 j (ready_mono hj hji))
      refine wpOp_mono (fun a' w' h3 => ?_) h2
      have hS' := h3.2.1 hjf
      refine ⟨fun _ => hS', ih (listed.setIfInBounds j true) a' w' (fun k ok hk hki hun hno => hfree k ok hk hki ?_ hno) (ready_mono hr (Ne.symm hji)) h3.1 hS' ?_⟩
      · rcases Nat.decEq j k with hjk | hjk
        · rwa [getD_set_ne true hjk] at hun
        · rw [← hjk]; exact hjl
      · rw [Array.setIfInBounds_comm _ _ hji]
        exact h3.2.2
    · subst hji
      exact hy.wpOp ho hS ⟨fun _ => hS, H⟩
theorem anyT_of_mix (hsel : Region.noSelect ops = true) : ∀ (fl : List (Option Bool)) (l : List Oper) (k : Nat) (listed : Array Bool) (a : Act) (w : World), fl.length = l.length → (∀ j, l[j]? = ops[k + j]?) →
    mixB md ops fin fl k listed = true → wpMix P ops Q S fl l a w → anyT P md ops Q S fin l.length listed a w
  | [], [], _, _, _, _, _, _, hB, h => ⟨by simpa [mixB] using hB, h⟩
  | [], _ :: _, _, _, _, _, hn, _, _, _ => by cases hn
  | _ :: _, [], _, _, _, _, hn, _, _, _ => by cases hn
  | some true :: fl, o :: l, k, listed, a, w, hn, hl, hB, h => by
    have h0 : ops[k]? = some o := by simpa using (hl 0).symm
    simp only [mixB, Bool.and_eq_true, Bool.or_eq_true, decide_eq_true_eq] at hB
    obtain ⟨⟨⟨hr, hf⟩, hw⟩, hB'⟩ := hB
    obtain ⟨hQ, hS, v, hy, h'⟩ := h
    exact anyT_take h0 (Region.noSelect_spec hsel) (fun c a w => hQ v c a w) hw l.length listed a w (Region.free_spec h0 hf) (by simpa using hr) hy hS
      (anyT_of_mix hsel fl l (k + 1) _ _ _ (by simpa using hn) (fun j => by have := hl (j + 1); simpa [Nat.add_assoc, Nat.add_comm 1 j] using this) hB' h')
  | some false :: fl, o :: l, k, listed, a, w, hn, hl, hB, h => by
    have h0 : ops[k]? = some o := by simpa using (hl 0).symm
    simp only [mixB, Bool.and_eq_true, decide_eq_true_eq] at hB
    refine ⟨fun h1 => (by rw [hB.1] at h1; cases h1), fun i hi => ?_⟩
    rw [hB.1] at hi
    have hik : i = k := by simpa using hi
    subst hik
    have hw : wpOp P ops Q i (fun a' w' => S w' ∧ wpMix P ops Q S fl l a' w') a w := by
      unfold wpOp
      simp only [h0]
      unfold wpMix at h
      split
      · rename_i hw; rw [if_pos hw] at h; exact .inl h
      · rename_i hw; rw [if_neg hw] at h; exact h
    exact wpOp_mono (fun a' w' h' => ⟨fun _ => h'.1, anyT_of_mix hsel fl l (i + 1) _ a' w' (by simpa using hn) (fun j => by have := hl (j + 1); simpa [Nat.add_assoc, Nat.add_comm 1 j] using this) hB.2 h'.2⟩) hw
  | none :: fl, o :: l, k, listed, a, w, hn, hl, hB, h => by
    have h0 : ops[k]? = some o := by simpa using (hl 0).symm
    simp only [mixB, Bool.and_eq_true, decide_eq_true_eq] at hB
    obtain ⟨⟨hkf, hB1⟩, hB2⟩ := hB
    refine ⟨fun h1 => (by rw [hB1] at h1; cases h1), fun i hi => ?_⟩
    rw [hB1] at hi
    have hik : i = k := by simpa using hi
    subst hik
    have hw : wpOp P ops Q i (fun a' w' => wpMix P ops Q S fl l a' w') a w := by
      unfold wpOp
      simp only [h0]
      unfold wpMix at h
      split
      · rename_i hw; rw [if_pos hw] at h; exact .inl h
      · rename_i hw; rw [if_neg hw] at h; exact h
    exact wpOp_mono (fun a' w' h' => ⟨fun hne => absurd hkf hne, anyT_of_mix hsel fl l (i + 1) _ a' w' (by simpa using hn) (fun j => by have := hl (j + 1); simpa [Nat.add_assoc, Nat.add_comm 1 j] using this) hB2 h'⟩) hw
def mixOK (l : List Oper) (fin : Nat) (fl : List (Option Bool)) : Bool := Region.noSelect l.toArray && decide (fl.length = l.length) && mixB .any l.toArray fin fl 0 (Array.replicate l.length false)
theorem mix_any {a : Act} {w : World} {l : List Oper} (fl : List (Option Bool)) (fin : Nat) (S : World → Prop) (hB : mixOK l fin fl = true) (h : wpMix P l.toArray Q S fl l a w) :
    wpAny P .any l.toArray Q l.toArray.size (Array.replicate l.toArray.size false) a w := by
  unfold mixOK at hB
  simp only [Bool.and_eq_true, decide_eq_true_eq] at hB
  obtain ⟨⟨hsel, hn⟩, hmix⟩ := hB
  have := anyT_of_mix (md := .any) (Q := Q) (S := S) hsel fl l 0 (Array.replicate l.length false) a w hn (fun j => by simp) hmix h
  exact anyT_any _ _ _ _ (by simpa using this)
theorem wp_mix {id : Nat} {a : Act} {w : World} {l : List Oper} (fl : List (Option Bool)) (fin : Nat) (S : World → Prop) (hm : P.follows .mixedOrders = true) (hB : mixOK l fin fl = true) (_hS : S w.drew)
    (h : wpMix P l.toArray Q S fl l a w.drew) : (Code.region id l.toArray true).wp P Q a w :=
  wp_region_any hm (mix_any fl fin S hB h)
theorem callsIn_round {P : Program} {l n : Nat} {f : FuncId} {args : Array Value} {w : World} {R : Ending → World → Prop} : CallsIn (Fence.wide.inRound l) n P f args w R ↔ Calls P f args w R :=
  ⟨fun h cs => let ⟨e, w', fr, r, s, x⟩ := h.2 cs (room_wide _); ⟨e, w', fr, r, comesIn_wide.1 s, x⟩,
   fun h => ⟨trivial, fun cs _ => let ⟨e, w', fr, r, s, x⟩ := h cs; ⟨e, w', fr, r, comesIn_wide.2 s, x⟩⟩⟩
theorem rowsIn_round {P : Program} {l n : Nat} {row : String} {args : Array Value} {w : World} {R : Value → World → Prop} (h : Rows P row args w R) : RowsIn (Fence.wide.inRound l) n P row args w R :=
  fun c cs _ => let ⟨v, w', r, s⟩ := h c cs; ⟨v, w', r, stepsIn_wide.2 s⟩
theorem oper_round {l n : Nat} {o : Oper} {a : Act} {w : World} {K : Act → World → Prop} (hd : ∀ c, o.op ≠ .defer c) (hno : ¬ LetsOut Q) (h : o.wp P a w K Q ∨ (o.asks P a w ∧ LetsOut Q)) : o.wpIn (Fence.wide.inRound l) n P a w K Q := by
  rcases h with h | h
  · refine ⟨fun _ _ => trivial, ?_⟩
    rw [Oper.semAt_plain (Fence.wide.inRound l) _ _ hd]
    unfold Oper.wp at h
    generalize (execOp a.eval o).run P w = r at h ⊢
    cases r with
    | ok x w' =>
      cases x with
      | value v => exact h
      | skip => exact h
      | defer d => exact h
      | enter f args => exact ⟨(fun e => by cases e), callsIn_round.2 h⟩
      | row r args => exact ⟨(fun e => by cases e), rowsIn_round h⟩
      | _ => exact h.elim
    | halt x w' =>
      cases x with
      | panic v => exact h
      | _ => exact h.elim
  · exact (hno h.2).elim
def noDefer (ops : Array Oper) : Bool := ops.all fun o => match o.op with | .defer _ => false | _ => true
theorem noDefer_spec (h : noDefer ops = true) (j : Nat) (o : Oper) (c : Call) (ho : ops[j]? = some o) : o.op ≠ .defer c := fun e => by
  unfold noDefer at h
  rw [Array.all_eq_true_iff_forall_mem] at h
  have := h o (Array.mem_of_getElem? ho)
  rw [e] at this
  cases this
theorem wpOp_round {l n i : Nat} {K : Act → World → Prop} {a : Act} {w : World} (hd : noDefer ops = true) (hno : ¬ LetsOut Q) (h : wpOp P ops Q i K a w) : wpOpIn (Fence.wide.inRound l) n P ops Q i K a w := by
  unfold wpOp at h
  unfold wpOpIn
  cases ho : ops[i]? with
  | none => simp only [ho] at h; exact h
  | some o =>
    simp only [ho] at h ⊢
    split
    · next hw => rw [if_pos hw] at h; exact oper_round (fun c => noDefer_spec hd i o c ho) hno h
    · next hw => rw [if_neg hw] at h; exact ⟨fun _ _ => trivial, h⟩
theorem wpAny_round {l n : Nat} (hd : noDefer ops = true) (hno : ¬ LetsOut Q) : ∀ (fuel : Nat) (listed : Array Bool) (a : Act) (w : World), wpAny P md ops Q fuel listed a w → wpAnyIn (Fence.wide.inRound l) n P md ops Q fuel listed a w
  | 0, _, _, _, h => h
  | fuel + 1, _, _, _, h => ⟨h.1, fun i hi => wpOp_round hd hno (wpOp_mono (fun a' w' h' => wpAny_round hd hno fuel _ a' w' h') (h.2 i hi))⟩
theorem wpIn_mix {id ro n : Nat} {a : Act} {w : World} {l : List Oper} (fl : List (Option Bool)) (fin : Nat) (S : World → Prop) (hm : P.follows .mixedOrders = true) (hB : mixOK l fin fl = true) (hd : noDefer l.toArray = true) (hno : ¬ LetsOut Q) (_hS : S w.drew)
    (h : wpMix P l.toArray Q S fl l a w.drew) : (Code.region id l.toArray true).wpIn (Fence.wide.inRound ro) n P Q a w :=
  wpIn_region_any hm (wpAny_round hd hno _ _ _ _ (mix_any fl fin S hB h))
theorem wpOps_round {ro n : Nat} (hd : noDefer ops = true) (hno : ¬ LetsOut Q) : ∀ (is : List Nat) (a : Act) (w : World), wpOps P ops Q is a w → wpOpsIn (Fence.wide.inRound ro) n P ops Q is a w
  | [], _, _, h => h
  | i :: is, a, w, h => by
    unfold wpOps at h
    unfold wpOpsIn
    cases ho : ops[i]? with
    | none => simp only [ho] at h; exact wpOps_round hd hno is a w h
    | some o =>
      simp only [ho] at h ⊢
      split
      · next hw =>
        rw [if_pos hw] at h
        refine oper_round (fun c => noDefer_spec hd i o c ho) hno ?_
        rcases h with h | h
        · exact .inl (Oper.wp_mono (fun a' w' h' => wpOps_round hd hno is a' w' h') h)
        · exact .inr h
      · next hw => rw [if_neg hw] at h; exact ⟨fun _ _ => trivial, wpOps_round hd hno is _ w h⟩
end
end Go.Proofs.YtgbihmafmmeicaaGreatDoor

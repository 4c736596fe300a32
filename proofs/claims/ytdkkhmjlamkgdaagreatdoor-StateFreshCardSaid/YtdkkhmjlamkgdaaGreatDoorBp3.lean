/-
  WHAT IS PROVED HERE: 18 texts joined, each with its own head: what the walks of the program give. Conditions: each at its place.
-/
import Derived.Test.YtdkkhmjlamkgdaaGreatDoorBp2
import Derived.Shelf.Abstract
import Derived.RangeFuncNested
import Derived.RangeFuncBound
import Derived.RangeFuncCalls
import Derived.RangeFuncLeaves
import Derived.RangeFuncWrites
import Derived.RangeFuncBox
import Derived.Shelf.RegionOpen
import Derived.OwnWalkIn
import Derived.TacticsInMore
import Derived.LoopNIn
import Derived.LoopIn
import Derived.Maps.AppendAt
import Derived.StillTailTactics
namespace Go.Proofs.YtdkkhmjlamkgdaaGreatDoor
open Go.RowKit Mg Go.Shelf Go.Maps

theorem GRow.cellsFr {w : World} {B : Nat} {e : TypeId} {sz : Nat} {v : Value} {cs : List (Array Value)} (h : GRow w B e sz v cs) {F : Nat → Prop} (hF : ∀ k, v.ownBlock = some k → ¬ F k) :
    ∃ b, SliceOf v cs.length b 0 ∧ ∀ j (hj : j < cs.length) t, t < sz → memFr w F ⟨b, 0 + j * sz + t, none⟩ = cs[j][t]? := by
  rcases Nat.eq_zero_or_pos cs.length with hz | hp
  · rcases h.1.2 with ⟨rfl, _⟩ | ⟨g, cap, cur, rfl, hb, hgg, hn, hc, hs, ht⟩
    · exact ⟨0, by rw [hz]; exact sliceNil, fun j hj => absurd hj (by omega)⟩
    · exact ⟨g, ⟨Nat.le_trans hn hc, some ⟨g, 0, none⟩, cap, rfl, hn, hc, fun _ => rfl⟩, fun j hj => absurd hj (by omega)⟩
  · obtain ⟨g, cap, rfl, hb, hg, hn, hc, hcell, hfr⟩ := h.at_ 0 hp
    refine ⟨g, ⟨Nat.le_trans hn hc, some ⟨g, 0, none⟩, cap, rfl, hn, hc, fun _ => rfl⟩, fun j hj t ht => ?_⟩
    obtain ⟨g', cap', e', _, _, _, _, hcell', hfr'⟩ := h.at_ j hj
    injection e' with e'
    injection e' with e'
    injection e' with e'
    subst e'
    have hsz : t < cs[j].size := by rw [(h.2 _ (List.getElem_mem hj)).1]; exact ht
    have := hcell' t ht
    rw [Array.getElem?_eq_getElem hsz] at this ⊢
    rw [Nat.zero_add]
    exact memFr_of this (hfr' _) (hF _ rfl)
theorem lrow_strs {w : World} {B : Nat} {v : Value} {l : List ByteArray} (h : LRow w B v l) (hl : ∀ s ∈ l, s.size ≤ maxLen) {F : Nat → Prop} (hF : ∀ k, v.ownBlock = some k → ¬ F k) : StrsM (memFr w F) v l := by
  obtain ⟨b, h1, h2⟩ := GRow.cellsFr h hF
  rw [List.length_map] at h1
  refine ⟨b, 0, h1, hl, fun j hj => ?_⟩
  have := h2 j (by rw [List.length_map]; exact hj) 0 (by omega)
  rw [List.getElem_map] at this
  rw [show 0 + j * 1 + 0 = 0 + j by omega] at this
  rw [this]; rfl
theorem grow_corrs {w : World} {B : Nat} {v : Value} {l : List Corr} (h : GRow w B 69 5 v (l.map corrCells)) (hl : ∀ c ∈ l, CorrOK c) {F : Nat → Prop} (hF : ∀ k, v.ownBlock = some k → ¬ F k) : CorrsM (memFr w F) v l := by
  obtain ⟨b, h1, h2⟩ := h.cellsFr hF
  rw [List.length_map] at h1
  refine ⟨b, 0, h1, fun j hj => ⟨hl _ (List.getElem_mem hj), fun t ht => ?_⟩⟩
  have := h2 j (by rw [List.length_map]; exact hj) t ht
  rw [List.getElem_map] at this
  exact this
theorem grow_tpls {w : World} {B : Nat} {v : Value} {l : List TplF} (h : GRow w B 52 2 v (l.map tplCells)) (hl : ∀ c ∈ l, TplOK c) {F : Nat → Prop} (hF : ∀ k, v.ownBlock = some k → ¬ F k) : TplsM (memFr w F) v l := by
  obtain ⟨b, h1, h2⟩ := h.cellsFr hF
  rw [List.length_map] at h1
  refine ⟨b, 0, h1, fun j hj => ⟨hl _ (List.getElem_mem hj), fun t ht => ?_⟩⟩
  have := h2 j (by rw [List.length_map]; exact hj) t ht
  rw [List.getElem_map] at this
  exact this
def EVal (M : Addr → Option Value) (e : EdnF) (c : Array Value) : Prop := EdnOK e ∧ ∃ bv, c = ednCells e bv ∧ BlksM M bv e.blocks
theorem EVal.mono {M M' : Addr → Option Value} {e : EdnF} {c : Array Value} (h : EVal M e c) (hm : ∀ a u, M a = some u → M' a = some u) : EVal M' e c := by
  obtain ⟨h0, bv, h1, h2⟩ := h
  exact ⟨h0, bv, h1, h2.mono hm⟩
def EVals (M : Addr → Option Value) (eds : List EdnF) (cs : List (Array Value)) : Prop := cs.length = eds.length ∧ ∀ j (h : j < eds.length) (h2 : j < cs.length), EVal M eds[j] cs[j]
theorem EVals.mono {M M' : Addr → Option Value} {eds : List EdnF} {cs : List (Array Value)} (h : EVals M eds cs) (hm : ∀ a u, M a = some u → M' a = some u) : EVals M' eds cs :=
  ⟨h.1, fun j hj hj2 => (h.2 j hj hj2).mono hm⟩
theorem EVals.nil (M : Addr → Option Value) : EVals M [] [] := ⟨rfl, fun j h => absurd h (by simp)⟩
theorem EVals.snoc {M : Addr → Option Value} {eds : List EdnF} {cs : List (Array Value)} (h : EVals M eds cs) {e : EdnF} {c : Array Value} (hc : EVal M e c) : EVals M (eds ++ [e]) (cs ++ [c]) := by
  refine ⟨by rw [List.length_append, List.length_append, h.1]; rfl, fun j hj hj2 => ?_⟩
  rw [List.length_append, List.length_singleton] at hj
  by_cases hl : j < eds.length
  · rw [List.getElem_append_left hl, List.getElem_append_left (by rw [h.1]; exact hl)]
    exact h.2 j hl (by rw [h.1]; exact hl)
  · obtain rfl : j = eds.length := by omega
    rw [List.getElem_append_right (Nat.le_refl _), List.getElem_append_right (by rw [h.1]; exact Nat.le_refl _)]
    simpa using hc
theorem EVals.ednsM {w : World} {B : Nat} {v : Value} {eds : List EdnF} {cs : List (Array Value)} {F : Nat → Prop} (hr : GRow w B 39 5 v cs) (h : EVals (memFr w F) eds cs) (hF : ∀ k, v.ownBlock = some k → ¬ F k) : EdnsM (memFr w F) v eds := by
  obtain ⟨b, h1, h2⟩ := hr.cellsFr hF
  rw [h.1] at h1
  refine ⟨b, 0, h1, fun j hj => ?_⟩
  have hj2 : j < cs.length := by rw [h.1]; exact hj
  obtain ⟨e0, bv, e1, e2⟩ := h.2 j hj hj2
  refine ⟨e0, bv, fun t ht => ?_, e2⟩
  rw [h2 j hj2 t ht, e1]
def ERow (w : World) (A : Nat) (v : Value) (eds : List EdnF) : Prop := ∃ cs, GRow w A 39 5 v cs ∧ EVals (memFr w (fun k => k < A ∨ v.ownBlock = some k)) eds cs
theorem ERow.nil (w : World) (A : Nat) : ERow w A (.slice none 0 0) [] := ⟨[], GRow.nil _ _ _ _, EVals.nil _⟩
theorem ERow.bel {w w' : World} {A : Nat} {v : Value} {eds : List EdnF} (h : ERow w A v eds) (hb : Below w.heap.size w w') : ERow w' A v eds := by
  obtain ⟨cs, h1, h2⟩ := h
  exact ⟨cs, h1.bel hb, h2.mono (memFr_below hb)⟩
theorem ERow.shape {w : World} {A : Nat} {v : Value} {eds : List EdnF} (h : ERow w A v eds) : ∃ ao cap, v = .slice ao eds.length cap := by
  obtain ⟨cs, h1, h2⟩ := h
  obtain ⟨ao, cap, e⟩ := h1.shape
  exact ⟨ao, cap, by rw [e, h2.1]⟩
theorem ERow.snoc {w w1 : World} {A : Nat} {v v' : Value} {eds : List EdnF} {cs : List (Array Value)} {e : EdnF} {bv : Value} (h : EVals (memFr w (fun k => k < A ∨ v.ownBlock = some k)) eds cs) 
    (hr : GRow w1 A 39 5 v' (cs ++ [ednCells e bv])) (hg : w.grownBy w1 v.ownBlock) (hob : v'.ownBlock = v.ownBlock ∨ ∃ n, v'.ownBlock = some n ∧ w.heap.size ≤ n) (he : EdnOK e) (hb : BlksM (memFr w (fun k => k < A ∨ v.ownBlock = some k)) bv e.blocks) : ERow w1 A v' (eds ++ [e]) := by
  have hu : Upd (fun k => v.ownBlock = some k) w w1 := (Upd.refl _ w).grown hg (fun k e => .inl e)
  have hm : ∀ a u, memFr w (fun k => k < A ∨ v.ownBlock = some k) a = some u → memFr w1 (fun k => k < A ∨ v'.ownBlock = some k) a = some u :=
    memFr_mono hu fun k hk hf => ⟨fun q => q.elim (fun q => hf (.inl q)) (fun q => by
      rcases hob with e | ⟨n, e, hn⟩
      · rw [e] at q; exact hf (.inr q)
      · rw [e] at q; injection q with q; omega), fun q => hf (.inr q)⟩
  exact ⟨_, hr, (h.mono hm).snoc ⟨he, bv, rfl, hb.mono hm⟩⟩
def SVal (w : World) (A : Nat) (M : Addr → Option Value) (E : Nat → Option Int) (x : StyF) (c : Array Value) : Prop :=
  StyOK x ∧ ∃ tv ev cv ecs, c = styCells x tv ev cv ∧ StrsM M tv x.topics ∧ CorrsM M cv x.corr ∧ GRow w A 39 5 ev ecs ∧ EVals M x.eds ecs ∧ ∀ k, ev.ownBlock = some k → E k = some x.id
def SVals (w : World) (A : Nat) (M : Addr → Option Value) (E : Nat → Option Int) (l : List StyF) (cs : List (Array Value)) : Prop := cs.length = l.length ∧ ∀ j (h : j < l.length) (h2 : j < cs.length), SVal w A M E l[j] cs[j]
theorem SVal.mono {w w' : World} {A : Nat} {M M' : Addr → Option Value} {E E' : Nat → Option Int} {x : StyF} {c : Array Value} (h : SVal w A M E x c) (hm : ∀ a u, M a = some u → M' a = some u) (hE : ∀ k i, E k = some i → E' k = some i)
    (hw : ∀ k, E k = some x.id → k < w.heap.size → w'.heap[k]? = w.heap[k]?) : SVal w' A M' E' x c := by
  obtain ⟨h0, tv, ev, cv, ecs, h1, h2, h3, h4, h5, h6⟩ := h
  exact ⟨h0, tv, ev, cv, ecs, h1, h2.mono hm, h3.mono hm, h4.same fun k hk => hw k (h6 k hk) (h4.ge k hk).2, h5.mono hm, fun k hk => hE _ _ (h6 k hk)⟩
theorem SVals.snoc {w : World} {A : Nat} {M : Addr → Option Value} {E : Nat → Option Int} {l : List StyF} {cs : List (Array Value)} (h : SVals w A M E l cs) {x : StyF} {c : Array Value} (hc : SVal w A M E x c) : SVals w A M E (l ++ [x]) (cs ++ [c]) := by
  refine ⟨by rw [List.length_append, List.length_append, h.1]; rfl, fun j hj hj2 => ?_⟩
  rw [List.length_append, List.length_singleton] at hj
  by_cases hl : j < l.length
  · rw [List.getElem_append_left hl, List.getElem_append_left (by rw [h.1]; exact hl)]
    exact h.2 j hl (by rw [h.1]; exact hl)
  · obtain rfl : j = l.length := by omega
    rw [List.getElem_append_right (Nat.le_refl _), List.getElem_append_right (by rw [h.1]; exact Nat.le_refl _)]
    simpa using hc
noncomputable abbrev memSt (w : World) (B : Nat) (E : Nat → Option Int) (v : Value) : Addr → Option Value := memFr w (fun k => k < B ∨ v.ownBlock = some k ∨ (E k).isSome = true)
structure StRow (w : World) (B A : Nat) (E : Nat → Option Int) (v : Value) (l : List StyF) : Prop where
  low : ∀ k i, E k = some i → A ≤ k ∧ k < w.heap.size
  apart : ∀ k, v.ownBlock = some k → E k = none
  row : ∃ cs, GRow w A 34 8 v cs ∧ SVals w A (memSt w B E v) E l cs
theorem StRow.nil (w : World) (B A : Nat) : StRow w B A (fun _ => none) (.slice none 0 0) [] := ⟨(fun k i h => by cases h), fun _ _ => rfl, [], GRow.nil _ _ _ _, rfl, fun j h => absurd h (by simp)⟩
theorem StRow.bel {w w' : World} {B A : Nat} {E : Nat → Option Int} {v : Value} {l : List StyF} (h : StRow w B A E v l) (hb : Below w.heap.size w w') : StRow w' B A E v l := by
  obtain ⟨cs, h1, h2, h3⟩ := h.row
  exact ⟨fun k i e => ⟨(h.low k i e).1, Nat.lt_of_lt_of_le (h.low k i e).2 hb.size⟩, h.apart, cs, h1.bel hb, h2, fun j hj hj2 => (h3 j hj hj2).mono (memFr_below hb) (fun _ _ e => e) (fun k _ hk => hb.block k hk)⟩
theorem StRow.shape {w : World} {B A : Nat} {E : Nat → Option Int} {v : Value} {l : List StyF} (h : StRow w B A E v l) : ∃ ao cap, v = .slice ao l.length cap := by
  obtain ⟨cs, h1, h2, _⟩ := h.row
  obtain ⟨ao, cap, e⟩ := h1.shape
  exact ⟨ao, cap, by rw [e, h2]⟩
theorem StRow.stys {w : World} {B A : Nat} {E : Nat → Option Int} {v : Value} {l : List StyF} (h : StRow w B A E v l) (hBA : B ≤ A) : StysM (memFr w (fun k => k < B)) v l := by
  obtain ⟨cs, h1, h2, h3⟩ := h.row
  obtain ⟨b, q1, q2⟩ := h1.cellsFr (F := fun k => k < B) (fun k hk hB => by have := (h1.ge k hk).1; omega)
  rw [h2] at q1
  have hm : ∀ a u, memSt w B E v a = some u → memFr w (fun k => k < B) a = some u := memFr_mono (Upd.refl (fun _ => False) w) (fun k _ hf => ⟨fun q => hf (.inl q), fun q => q⟩)
  refine ⟨b, 0, q1, fun j hj => ?_⟩
  have hj2 : j < cs.length := by rw [h2]; exact hj
  obtain ⟨e0, tv, ev, cv, ecs, e1, e2, e3, e4, e5, e6⟩ := h3 j hj hj2
  refine ⟨e0, tv, ev, cv, fun t ht => ?_, e2.mono hm, EVals.ednsM e4 (e5.mono hm) (fun k hk hB => by have := (e4.ge k hk).1; omega), e3.mono hm⟩
  rw [q2 j hj2 t ht, e1]
structure SFin (w : World) (B A A1 : Nat) (x : StyF) (tv ev cv : Value) : Prop where
  ok : StyOK x
  tsz : ∀ s ∈ x.topics, s.size ≤ maxLen
  top : LRow w A1 tv x.topics
  eds : ERow w A1 ev x.eds
  cor : CorrsM (memFr w (fun k => k < B ∨ A ≤ k)) cv x.corr
theorem StRow.snoc {w0 w w1 : World} {B A : Nat} {E : Nat → Option Int} {v v' : Value} {l : List StyF} {x : StyF} {tv ev cv : Value} (h : StRow w0 B A E v l) {cs : List (Array Value)} (hcs : SVals w0 A (memSt w0 B E v) E l cs) (hgv : GRow w0 A 34 8 v cs) (hb : Below w0.heap.size w0 w) (hBA : B ≤ A) (hA : A ≤ w0.heap.size) (hf : SFin w B A w0.heap.size x tv ev cv)
    (hr : GRow w1 A 34 8 v' (cs ++ [styCells x tv ev cv])) (hg : w.grownBy w1 v.ownBlock) (hob : v'.ownBlock = v.ownBlock ∨ ∃ n, v'.ownBlock = some n ∧ w.heap.size ≤ n) :
    StRow w1 B A (fun k => if ev.ownBlock = some k then some x.id else E k) v' (l ++ [x]) := by
  have hu : Upd (fun k => v.ownBlock = some k) w w1 := (Upd.refl _ w).grown hg (fun k e => .inl e)
  have hu0 : Upd (fun k => v.ownBlock = some k) w0 w1 := ((Upd.refl _ w0).bel hb).trans hu (fun i hi => .inl hi)
  obtain ⟨ecs, g1, g2⟩ := hf.eds
  have hlow := h.low
  have hvA := hgv.ge
  have hsz := hb.size
  have hEz : ∀ k, w0.heap.size ≤ k → E k = none := fun k hk => by
    cases hE : E k with
    | none => rfl
    | some i => have := (hlow k i hE).2; omega
  have hv' : ∀ k, v'.ownBlock = some k → k < w.heap.size → v.ownBlock = some k := fun k hk hl => by
    rcases hob with e | ⟨n, e, hn⟩
    · rw [← e]; exact hk
    · rw [e] at hk; injection hk with hk; omega
  have htb : ∀ k, tv.ownBlock = some k → ev.ownBlock ≠ some k := fun k hk e => by
    obtain ⟨_, _, c1, q1⟩ := lrow_blk hf.top k hk
    obtain ⟨c2, q2⟩ := g1.blk k e
    exact rows_apart q1 q2 (by decide) rfl
  have hm0 : ∀ a u, memSt w0 B E v a = some u → memSt w1 B (fun k => if ev.ownBlock = some k then some x.id else E k) v' a = some u :=
    memFr_mono hu0 fun k hk hf => ⟨(fun q => by
      rcases q with q | q | q
      · exact hf (.inl q)
      · exact hf (.inr (.inl (hv' k q (by omega))))
      · by_cases e : ev.ownBlock = some k
        · have := (g1.ge k e).1; omega
        · dsimp only at q; rw [if_neg e] at q; exact hf (.inr (.inr q))), fun q => hf (.inr (.inl q))⟩
  have hm1 : ∀ a u, memFr w (fun k => k < w0.heap.size ∨ ev.ownBlock = some k) a = some u → memSt w1 B (fun k => if ev.ownBlock = some k then some x.id else E k) v' a = some u :=
    memFr_mono hu fun k hk hf => ⟨(fun q => by
      rcases q with q | q | q
      · exact hf (.inl (by omega))
      · have := (hvA k (hv' k q hk)).2; exact hf (.inl this)
      · by_cases e : ev.ownBlock = some k
        · exact hf (.inr e)
        · dsimp only at q
          rw [if_neg e] at q
          rw [hEz k (Nat.le_of_not_lt fun q => hf (.inl q))] at q
          cases q), fun q => hf (.inl (hvA k q).2)⟩
  have hm2 : ∀ a u, memFr w (fun k => k < B ∨ A ≤ k) a = some u → memSt w1 B (fun k => if ev.ownBlock = some k then some x.id else E k) v' a = some u :=
    memFr_mono hu fun k hk hf => ⟨(fun q => by
      rcases q with q | q | q
      · exact hf (.inl q)
      · exact hf (.inr (hvA k (hv' k q hk)).1)
      · by_cases e : ev.ownBlock = some k
        · have := (g1.ge k e).1; exact hf (.inr (by omega))
        · dsimp only at q
          rw [if_neg e] at q
          cases hE : E k with
          | none => rw [hE] at q; cases q
          | some i => exact hf (.inr (hlow k i hE).1)), fun q => hf (.inr (hvA k q).1)⟩
  refine ⟨fun k i e => ?_, fun k hk => ?_, _, hr, ?_⟩
  · have hs := hu.size
    split at e
    · next hk => have := g1.ge k hk; omega
    · have := hlow k i e; omega
  · have hz : ev.ownBlock ≠ some k := fun e => by
      have h1 := g1.ge k e
      have := (hvA k (hv' k hk h1.2)).2; omega
    rw [if_neg hz]
    by_cases hl : k < w.heap.size
    · exact h.apart k (hv' k hk hl)
    · exact hEz k (by omega)
  · refine SVals.snoc ⟨hcs.1, fun j hj hj2 => (hcs.2 j hj hj2).mono hm0 (fun k i e => ?_) (fun k e hk => ?_)⟩ ?_
    · rw [if_neg (fun q => by have := (g1.ge k q).1; have := (hlow k i e).2; omega)]; exact e
    · exact hu0.block k hk (fun q => by rw [h.apart k q] at e; cases e)
    · refine ⟨hf.ok, tv, ev, cv, ecs, rfl, (lrow_strs hf.top hf.tsz (F := fun k => k < w0.heap.size ∨ ev.ownBlock = some k) (fun k hk q => ?_)).mono hm1, hf.cor.mono hm2, (g1.same fun k hk => ?_).weaken hA, g2.mono hm1, fun k hk => if_pos hk⟩
      · rcases q with q | q
        · have := (lrow_blk hf.top k hk).1; omega
        · exact htb k hk q
      · have h1 := g1.ge k hk
        exact hu.block k h1.2 (fun q => by have := (hvA k q).2; omega)
end Go.Proofs.YtdkkhmjlamkgdaaGreatDoor
namespace Go.Proofs.YtdkkhmjlamkgdaaGreatDoor
open Go.RowKit Mg

def okT (c : UInt8) : Bool := decide (32 ≤ c.toNat) && decide (c.toNat ≤ 126)
theorem okT_yes {c : UInt8} (h : 32 ≤ c.toNat ∧ c.toNat ≤ 126) : okT c = true := by unfold okT; rw [decide_eq_true h.1, decide_eq_true h.2]; rfl
theorem okT_no {c : UInt8} (h : ¬ (32 ≤ c.toNat ∧ c.toNat ≤ 126)) : okT c = false := by
  rw [Bool.eq_false_iff]; intro e; unfold okT at e; simp only [Bool.and_eq_true, decide_eq_true_eq] at e; exact h e
theorem textOK_eq (s : ByteArray) : textOK s = (decide (s.size ≤ 300) && s.data.toList.all okT) := rfl
theorem nameB_iff (c : UInt8) : nameByte c = true ↔ (97 ≤ c.toNat ∧ c.toNat ≤ 122) ∨ (48 ≤ c.toNat ∧ c.toNat ≤ 57) ∨ c.toNat = 45 := by
  unfold nameByte; simp only [Bool.or_eq_true, Bool.and_eq_true, decide_eq_true_eq, or_assoc]
theorem nameB_yes {c : UInt8} (h : (97 ≤ c.toNat ∧ c.toNat ≤ 122) ∨ (48 ≤ c.toNat ∧ c.toNat ≤ 57) ∨ c.toNat = 45) : nameByte c = true := (nameB_iff c).2 h
theorem nameB_no {c : UInt8} (h : ¬ ((97 ≤ c.toNat ∧ c.toNat ≤ 122) ∨ (48 ≤ c.toNat ∧ c.toNat ≤ 57) ∨ c.toNat = 45)) : nameByte c = false := Bool.eq_false_iff.2 fun e => h ((nameB_iff c).1 e)
def IsN (c : UInt8) : Prop := (97 ≤ c.toNat ∧ c.toNat ≤ 122) ∨ (48 ≤ c.toNat ∧ c.toNat ≤ 57) ∨ c.toNat = 45
def Is45 (c : UInt8) : Prop := c.toNat = 45
theorem b45 (c : UInt8) : (Is45 c ∧ ((c.toNat : Int) == 45) = true ∧ ((c.toNat : Int) != 45) = false) ∨ (¬ Is45 c ∧ ((c.toNat : Int) == 45) = false ∧ ((c.toNat : Int) != 45) = true) := by
  by_cases h : c.toNat = 45
  · exact .inl ⟨h, by simp; omega, by simp; omega⟩
  · exact .inr ⟨h, by simp; omega, by simp; omega⟩
theorem bytes_step {p : UInt8 → Bool} (s : ByteArray) (k : Nat) (hk : k < s.size) (h : (s.data.toList.take k).all p = true) : (p s[k] = true → (s.data.toList.take (k + 1)).all p = true) ∧ (p s[k] = false → s.data.toList.all p = false) := by
  have hk' : k < s.data.toList.length := by rw [size_list]; exact hk
  have e := get_list s k hk
  refine ⟨fun h1 => ?_, fun h1 => ?_⟩
  · rw [all_take k hk', h, e, h1]; rfl
  · exact all_of_not k hk' (by rw [e]; exact h1)
theorem bytes_full {p : UInt8 → Bool} {s : ByteArray} (h : (s.data.toList.take s.size).all p = true) : s.data.toList.all p = true := by
  rw [← size_list] at h; exact all_full h

set_option maxHeartbeats 1000000 in
theorem isText_any (s : ByteArray) (w : World) (hs : s.size ≤ maxLen) : Calls Tryz.prog 96 #[.string s] w fun e w' => e = .returned (.bool (textOK s)) ∧ w = w' := by
  unfold maxLen at hs
  by_cases h3 : s.size ≤ 300
  · have HT : Hid (textOK s = s.data.toList.all okT) := Lib.hid (by rw [textOK_eq, decide_eq_true h3]; rfl)
    go_enter Tryz.func96, Tryz.ntmps96
    go_wp2_with fail
    go_loop [3] (fun i => ∃ k : Nat, k ≤ s.size ∧ i = .int .i64 k ∧ Hid ((s.data.toList.take k).all okT = true)) (fun i => s.size - (intOf i).toNat)
    case atStart => exact ⟨0, Nat.zero_le _, rfl, Lib.hid rfl⟩
    case round =>
      obtain ⟨k, hk, rfl, ha⟩ := hrel
      by_cases hlt : k < s.size
      · obtain ⟨g1, g2⟩ := bytes_step s k hlt ha.out
        have G1 := Lib.hid g1
        have G2 := Lib.hid g2
        have hu := s[k].toNat_lt
        clear g1 g2 ha
        by_cases hok : 32 ≤ s[k].toNat ∧ s[k].toNat ≤ 126
        · have HE := Lib.hid (G1.out (okT_yes hok))
          obtain ⟨o1, o2⟩ := hok
          go_wp2_with fail
          all_goals first
            | (go_round
               case rel => exact ⟨k + 1, by omega, by go_num, HE⟩
               case measure => simp [intOf]; omega)
            | (exfalso; omega)
        · have HE := Lib.hid (G2.out (okT_no hok))
          go_wp2_with fail
          all_goals first
            | (go_ret
               exact ⟨ret_bool (by rw [HT.out, HE.out]), rfl⟩)
            | (exfalso; omega)
      · have e : k = s.size := by omega
        subst e
        have HE := Lib.hid (bytes_full ha.out)
        go_wp2_with fail
        go_ret
        exact ⟨ret_bool (by rw [HT.out, HE.out]), rfl⟩
  · have HT : Hid (textOK s = false) := Lib.hid (by rw [textOK_eq, decide_eq_false h3]; rfl)
    go_enter Tryz.func96, Tryz.ntmps96
    go_wp2_with fail
    go_ret
    exact ⟨ret_bool (by rw [HT.out]), rfl⟩

set_option maxHeartbeats 2000000 in
theorem isName_any (s : ByteArray) (w : World) (hs : s.size ≤ maxLen) : Calls Tryz.prog 103 #[.string s] w fun e w' => e = .returned (.bool (nameOK s)) ∧ w = w' := by
  unfold maxLen at hs
  by_cases h3 : 1 ≤ s.size ∧ s.size ≤ 20
  · have HT : Hid (nameOK s = s.data.toList.all nameByte) := Lib.hid (by unfold nameOK; rw [decide_eq_true h3.1, decide_eq_true h3.2]; rfl)
    obtain ⟨h31, h32⟩ := h3
    go_enter Tryz.func103, Tryz.ntmps103
    go_wp2_with fail
    go_loop [3, 4, 5] (fun i _ _ => ∃ k : Nat, k ≤ s.size ∧ i = .int .i64 k ∧ Hid ((s.data.toList.take k).all nameByte = true)) (fun i _ _ => s.size - (intOf i).toNat)
    case atStart => exact ⟨0, Nat.zero_le _, rfl, Lib.hid rfl⟩
    case round =>
      obtain ⟨k, hk, rfl, ha⟩ := hrel
      by_cases hlt : k < s.size
      · obtain ⟨g1, g2⟩ := bytes_step s k hlt ha.out
        have G1 := Lib.hid g1
        have G2 := Lib.hid g2
        have hu := s[k].toNat_lt
        clear g1 g2 ha
        by_cases hok : IsN s[k]
        · have HE := Lib.hid (G1.out (nameB_yes hok))
          have HO := hok
          clear hok
          rcases b45 s[k] with ⟨H45, e1, e2⟩ | ⟨H45, e1, e2⟩ <;> go_wp2_with fail
          all_goals first
            | (go_round
               case rel => exact ⟨k + 1, by omega, by go_num, HE⟩
               case measure => simp [intOf]; omega)
            | (exfalso; unfold IsN at HO; unfold Is45 at H45; omega)
            | (exfalso; simp only [Bool.not_eq_false', Bool.not_eq_true', decide_eq_true_eq, decide_eq_false_iff_not] at *; omega)
        · have HE := Lib.hid (G2.out (nameB_no hok))
          have HO := hok
          clear hok
          rcases b45 s[k] with ⟨H45, e1, e2⟩ | ⟨H45, e1, e2⟩ <;> go_wp2_with fail
          all_goals first
            | (go_ret
               exact ⟨ret_bool (by rw [HT.out, HE.out]), rfl⟩)
            | (exfalso; unfold IsN at HO; unfold Is45 at H45; omega)
            | (exfalso; simp only [Bool.not_eq_false', decide_eq_true_eq] at *; omega)
      · have e : k = s.size := by omega
        subst e
        have HE := Lib.hid (bytes_full ha.out)
        go_wp2_with fail
        go_ret
        exact ⟨ret_bool (by rw [HT.out, HE.out]), rfl⟩
  · have HT : Hid (nameOK s = false) := Lib.hid (by
      rw [Bool.eq_false_iff]; intro e; unfold nameOK at e; simp only [Bool.and_eq_true, decide_eq_true_eq] at e; exact h3 e.1)
    go_enter Tryz.func103, Tryz.ntmps103
    go_wp2_with fail
    all_goals first
      | (go_ret
         exact ⟨ret_bool (by rw [HT.out]), rfl⟩)
      | (exfalso; omega)

end Go.Proofs.YtdkkhmjlamkgdaaGreatDoor
namespace Go.Proofs.YtdkkhmjlamkgdaaGreatDoor
open Go.RowKit Mg Go.Shelf

def ruleV (f : Nat) (q : Bool) (g : Nat) : Value := .agg #[.func (.func f) #[] #[], .bool q, .func (.func g) #[] #[]]
def rulesL : List (Int × Value) := [(1, ruleV 95 false 97), (2, ruleV 95 false 98), (3, ruleV 96 true 101), (4, ruleV 95 false 102), (5, ruleV 103 false 104)]
abbrev RMap (w : World) (K : Nat) : Prop := IMap Tryz.prog 3 w K rulesL
theorem okI_small {n : Int} (h : 0 ≤ n) (h2 : n ≤ 1000000) : okI n := ⟨by omega, by omega⟩

set_option maxRecDepth 10000 in
set_option maxHeartbeats 1000000 in
theorem rules_any (w : World) : Calls Tryz.prog 64 #[] w fun e w' => e = .returned (.map (some w.heap.size)) ∧ RMap w' w.heap.size ∧ Below w.heap.size w w' := by
  have hmm := @run_makeMap Tryz.prog
  have h0 := IMap.made Tryz.prog 3 w
  have hb0 : Below w.heap.size w (w.alloc (.map #[] 0)) := (Below.refl _ w).alloc (Nat.le_refl _) _
  have hG : ∀ {a b : World}, Below w.heap.size w a → a.grownBy b (some w.heap.size) → Below w.heap.size w b := fun h g => h.grown g h.size (fun k e => by cases e; exact Nat.le_refl _)
  obtain ⟨w1, r1, h1, g1⟩ := h0.store Tryz.underlying3 Tryz.underlying120 (by decide) (i := 1) (okI_small (by omega) (by omega)) (by simp [keysL]) (ruleV 95 false 97)
  replace g1 := hG hb0 g1
  obtain ⟨w2, r2, h2, g2⟩ := h1.store Tryz.underlying3 Tryz.underlying120 (by decide) (i := 2) (okI_small (by omega) (by omega)) (by simp [keysL]) (ruleV 95 false 98)
  replace g2 := hG g1 g2
  obtain ⟨w3, r3, h3, g3⟩ := h2.store Tryz.underlying3 Tryz.underlying120 (by decide) (i := 3) (okI_small (by omega) (by omega)) (by simp [keysL]) (ruleV 96 true 101)
  replace g3 := hG g2 g3
  obtain ⟨w4, r4, h4, g4⟩ := h3.store Tryz.underlying3 Tryz.underlying120 (by decide) (i := 4) (okI_small (by omega) (by omega)) (by simp [keysL]) (ruleV 95 false 102)
  replace g4 := hG g3 g4
  obtain ⟨w5, r5, h5, g5⟩ := h4.store Tryz.underlying3 Tryz.underlying120 (by decide) (i := 5) (okI_small (by omega) (by omega)) (by simp [keysL]) (ruleV 103 false 104)
  replace g5 := hG g4 g5
  simp only [ruleV] at r1 r2 r3 r4 r5
  clear h0 h1 h2 h3 h4 g1 g2 g3 g4 hb0 hG
  go_enter Tryz.func64, Tryz.ntmps64
  go_wp2_with fail
  go_ret
  exact ⟨rfl, h5, g5⟩

theorem size_pos (s : ByteArray) : (s.toList.isEmpty = true ∧ (!s.toList.isEmpty) = false ∧ decide (1 ≤ s.size) = false) ∨ (s.toList.isEmpty = false ∧ (!s.toList.isEmpty) = true ∧ decide (1 ≤ s.size) = true) := by
  rw [ByteArray.toList_eq]
  by_cases h : s.size = 0
  · left
    have e : s.data.toList = [] := List.eq_nil_of_length_eq_zero (by rw [size_list]; exact h)
    rw [e, h]; exact ⟨rfl, rfl, rfl⟩
  · right
    have e : s.data.toList.isEmpty = false := by
      rw [List.isEmpty_eq_false_iff]; intro e; exact h (by rw [← size_list, e]; rfl)
    rw [e]; exact ⟨rfl, rfl, decide_eq_true (by omega)⟩
theorem filled_any (s : ByteArray) (w : World) (hs : s.size ≤ maxLen) : Calls Tryz.prog 95 #[.string s] w fun e w' => e = .returned (.bool (decide (1 ≤ s.size) && textOK s)) ∧ w = w' := by
  rcases size_pos s with ⟨h1, h2, h3⟩ | ⟨h1, h2, h3⟩
  · have H3 := Lib.hid h3
    clear h3
    go_enter Tryz.func95, Tryz.ntmps95
    go_wp2_with (go_at_call 96; refine (isText_any s _ hs).mono ?_; rintro e w' ⟨rfl, rfl⟩)
    go_ret
    exact ⟨ret_bool (by rw [H3.out]; rfl), rfl⟩
  · have H3 := Lib.hid h3
    clear h3
    go_enter Tryz.func95, Tryz.ntmps95
    go_wp2_with (go_at_call 96; refine (isText_any s _ hs).mono ?_; rintro e w' ⟨rfl, rfl⟩)
    go_ret
    exact ⟨ret_bool (by rw [H3.out]; rfl), rfl⟩
def zeroRule : Value := .agg #[.nilFunc, .bool false, .nilFunc]
theorem zero_rule (w : World) : (zeroValue 125).run Tryz.prog w = .ok zeroRule w := Tryz.zeroValue125 w
theorem ret_false {b : Bool} (h : b = false) : Ending.returned (.bool false) = .returned (.bool b) := by rw [h]
theorem ret_true {b : Bool} (h : b = true) : Ending.returned (.bool true) = .returned (.bool b) := by rw [h]

theorem run_store_func (P : Program) (w : World) (a : Addr) (m : Mode) (fn : Fn) (p q : Array Value) : (store a (.func fn p q) m).run P w = stored P w a (.func fn p q) m := run_store P w a _ m rfl
theorem run_store_nilFunc (P : Program) (w : World) (a : Addr) (m : Mode) : (store a .nilFunc m).run P w = stored P w a .nilFunc m := run_store P w a _ m rfl
attribute [local go_sem] run_store_func run_store_nilFunc

set_option maxRecDepth 10000 in
set_option maxHeartbeats 4000000 in
theorem follows_known {mem : Addr → Option Value} (x : Blk) (av : Value) (hi : IntsM mem av x.lab.after) (hk : okI x.kind) (K : Nat) (f : Nat) (q : Bool) (g : Nat) (T : Bool) (hg : getL rulesL x.kind = some (ruleV f q g))
    (hen : ∀ args w, (callFunc f args).run Tryz.prog w = .ok (.enter f args) w) (hT : ∀ W, Calls Tryz.prog f #[.string x.text] W fun e w' => e = .returned (.bool T) ∧ W = w')
    (hV : validBlk x = (decide (1 ≤ x.id ∧ x.id ≤ 1000) && validLab x.lab && T && (if q then decide ((1 ≤ x.story ∧ x.story ≤ 64) ∧ (1 ≤ x.ref ∧ x.ref ≤ 1000)) else decide (x.story = 0 ∧ x.ref = 0))))
    (w : World) (hs : Sees mem w) (hm : RMap w K) : Calls Tryz.prog 166 #[.agg (blkCells x av), .map (some K)] w fun e w' => e = .returned (.bool (validBlk x)) ∧ Below w.heap.size w w' := by
  obtain ⟨id, kind, text, story, ref, lab⟩ := x
  obtain ⟨ao, cap, rfl⟩ := hi.slice
  dsimp only at *
  have HLV := Lib.hid (fun W hW => labValid_any lab _ hi W hW)
  have HV := Lib.hid hV
  have HT := Lib.hid hT
  have HM := Lib.hid hm
  have HS := Lib.hid hs
  have HG := Lib.hid hg
  have HB0 := Lib.hid (fun o o' => (((Below.refl w.heap.size w).alloc (Nat.le_refl _) o).alloc (by simp) o' : Below w.heap.size w ((w.alloc o).alloc o')))
  clear hi hV hT hm hs hg
  go_enter Tryz.func166, Tryz.ntmps166
  by_cases hid : 1 ≤ id ∧ id ≤ 1000
  · obtain ⟨i1, i2⟩ := hid
    go_wp2_with (at_lookup; refine wpList_imap_lookOk _ rfl _ _ 120 rfl 3 125 Tryz.underlying3 Tryz.underlying120 (zero_rule _) K rulesL rfl (HM.out.alloc _) kind rfl hk (.agg #[.func (.func f) #[] #[], .bool q, .func (.func g) #[] #[]]) true (by rw [HG.out]; rfl) (by rw [HG.out]; rfl) ?_)
    obtain ⟨W1, HW1⟩ := named ((w.alloc (.cells (blkCells ⟨id, kind, text, story, ref, lab⟩ (.slice ao lab.after.length cap)) 58)).alloc (.cells #[.func (.func f) #[] #[], .bool q, .func (.func g) #[] #[]] 125))
    rw [← HW1.out]
    have hb1 : Below w.heap.size w W1 := by rw [HW1.out]; exact HB0.out _ _
    have hc : ∀ (j : Nat) (u : Value), (blkCells ⟨id, kind, text, story, ref, lab⟩ (.slice ao lab.after.length cap))[j]? = some u → W1.cell? ⟨w.heap.size, j, none⟩ = some u := fun j u hu => by rw [HW1.out]; exact cell_old (cell_new rfl hu)
    have hc' : ∀ (j : Nat) (u : Value), (#[.func (.func f) #[] #[], .bool q, .func (.func g) #[] #[]] : Array Value)[j]? = some u → W1.cell? ⟨w.heap.size + 1, j, none⟩ = some u := fun j u hu => by rw [HW1.out]; exact cell_new (by simp) hu
    have hz : w.heap.size + 1 < W1.heap.size := by rw [HW1.out]; simp
    have hs1 := HS.out.bel hb1
    have c2 := hc 2 _ rfl
    have c3 := hc 3 _ rfl
    have c4 := hc 4 _ rfl
    have r0 := hc' 0 _ rfl
    have r1 := hc' 1 _ rfl
    have HSS := Lib.hid hs1
    clear hc hc' hs1
    go_wp2_with fail
    refine (HLV.out _ HSS.out).mono ?_
    rintro e w1 ⟨rfl, hb⟩
    replace c2 := (hb.cell (p := ⟨w.heap.size, 2, none⟩) (by simp <;> omega)).trans c2
    replace c3 := (hb.cell (p := ⟨w.heap.size, 3, none⟩) (by simp <;> omega)).trans c3
    replace c4 := (hb.cell (p := ⟨w.heap.size, 4, none⟩) (by simp <;> omega)).trans c4
    replace r0 := (hb.cell (p := ⟨w.heap.size + 1, 0, none⟩) (by simp <;> omega)).trans r0
    replace r1 := (hb.cell (p := ⟨w.heap.size + 1, 1, none⟩) (by simp <;> omega)).trans r1
    have hB : Below w.heap.size w w1 := hb1.trans (hb.mono (by omega))
    generalize validLab lab = V at *
    have HI : Hid (decide (1 ≤ id ∧ id ≤ 1000) = true) := Lib.hid (decide_eq_true ⟨i1, i2⟩)
    clear hb hb1 HSS HLV
    cases V with
    | false =>
      go_wp2_with fail
      go_ret
      exact ⟨ret_false (by rw [HV.out, HI.out]; rfl), hB⟩
    | true =>
      go_wp2_with fail
      refine (HT.out _).mono ?_
      rintro e w2 ⟨rfl, rfl⟩
      cases T with
      | false =>
        go_wp2_with fail
        go_ret
        exact ⟨ret_false (by rw [HV.out, HI.out]; rfl), hB⟩
      | true =>
        cases q with
        | false =>
          have HF : Hid (validBlk ⟨id, kind, text, story, ref, lab⟩ = decide (story = 0 ∧ ref = 0)) := Lib.hid (by rw [HV.out, HI.out]; rfl)
          by_cases h1 : story = 0
          · subst h1
            by_cases h2 : ref = 0
            · subst h2
              go_wp2_with fail
              go_ret
              exact ⟨ret_true (by rw [HF.out]; rfl), hB⟩
            · have n2 : (ref == 0) = false := by simpa using h2
              have HN : Hid (validBlk ⟨id, kind, text, 0, ref, lab⟩ = false) := Lib.hid (by rw [HF.out]; exact decide_eq_false (fun h => h2 h.2))
              clear h2
              go_wp2_with fail
              go_ret
              exact ⟨ret_false HN.out, hB⟩
          · have n1 : (story == 0) = false := by simpa using h1
            have HN : Hid (validBlk ⟨id, kind, text, story, ref, lab⟩ = false) := Lib.hid (by rw [HF.out]; exact decide_eq_false (fun h => h1 h.1))
            clear h1
            go_wp2_with fail
            go_ret
            exact ⟨ret_false HN.out, hB⟩
        | true =>
          have HF : Hid (validBlk ⟨id, kind, text, story, ref, lab⟩ = decide ((1 ≤ story ∧ story ≤ 64) ∧ (1 ≤ ref ∧ ref ≤ 1000))) := Lib.hid (by rw [HV.out, HI.out]; rfl)
          have HN : Hid (¬ ((1 ≤ story ∧ story ≤ 64) ∧ (1 ≤ ref ∧ ref ≤ 1000)) → validBlk ⟨id, kind, text, story, ref, lab⟩ = false) := Lib.hid (fun h => by rw [HF.out]; exact decide_eq_false h)
          by_cases h1 : 1 ≤ story
          · by_cases h2 : story ≤ 64
            · by_cases h3 : 1 ≤ ref
              · by_cases h4 : ref ≤ 1000
                · have HY : Hid (validBlk ⟨id, kind, text, story, ref, lab⟩ = true) := Lib.hid (by rw [HF.out]; exact decide_eq_true ⟨⟨h1, h2⟩, h3, h4⟩)
                  go_wp2_with fail
                  go_ret
                  exact ⟨ret_true HY.out, hB⟩
                · have HX := Lib.hid (HN.out (fun h => h4 h.2.2))
                  have n4 : decide (ref ≤ 1000) = false := decide_eq_false h4
                  clear HN h4
                  go_wp2_with fail
                  go_ret
                  exact ⟨ret_false HX.out, hB⟩
              · have HX := Lib.hid (HN.out (fun h => h3 h.2.1))
                have n3 : decide (1 ≤ ref) = false := decide_eq_false h3
                clear HN h3
                go_wp2_with fail
                go_ret
                exact ⟨ret_false HX.out, hB⟩
            · have HX := Lib.hid (HN.out (fun h => h2 h.1.2))
              have n2 : decide (story ≤ 64) = false := decide_eq_false h2
              clear HN h2
              go_wp2_with fail
              go_ret
              exact ⟨ret_false HX.out, hB⟩
          · have HX := Lib.hid (HN.out (fun h => h1 h.1.1))
            have n1 : decide (1 ≤ story) = false := decide_eq_false h1
            clear HN h1
            go_wp2_with fail
            go_ret
            exact ⟨ret_false HX.out, hB⟩
  · have HN : Hid (validBlk ⟨id, kind, text, story, ref, lab⟩ = false) := Lib.hid (by rw [HV.out, decide_eq_false hid]; rfl)
    have HI := Lib.hid hid
    clear hid
    go_wp2_with (at_lookup; refine wpList_imap_lookOk _ rfl _ _ 120 rfl 3 125 Tryz.underlying3 Tryz.underlying120 (zero_rule _) K rulesL rfl (HM.out.alloc _) kind rfl hk (.agg #[.func (.func f) #[] #[], .bool q, .func (.func g) #[] #[]]) true (by rw [HG.out]; rfl) (by rw [HG.out]; rfl) ?_)
    all_goals first
      | (go_ret
         exact ⟨ret_false HN.out, HB0.out _ _⟩)
      | (exfalso; exact HI.out ⟨by omega, by omega⟩)
theorem follows_unknown (x : Blk) (av : Value) (hk : okI x.kind) (K : Nat) (hg : getL rulesL x.kind = none) (hV : validBlk x = false) (hav : ∃ ao n cap, av = .slice ao n cap) (w : World) (hm : RMap w K) :
    Calls Tryz.prog 166 #[.agg (blkCells x av), .map (some K)] w fun e w' => e = .returned (.bool (validBlk x)) ∧ Below w.heap.size w w' := by
  obtain ⟨id, kind, text, story, ref, lab⟩ := x
  obtain ⟨ao, n, cap, rfl⟩ := hav
  dsimp only at *
  have HV := Lib.hid hV
  have HM := Lib.hid hm
  have HG := Lib.hid hg
  have HB0 := Lib.hid (fun o o' => (((Below.refl w.heap.size w).alloc (Nat.le_refl _) o).alloc (by simp) o' : Below w.heap.size w ((w.alloc o).alloc o')))
  clear hV hm hg
  go_enter Tryz.func166, Tryz.ntmps166
  go_wp2_with (at_lookup; refine wpList_imap_lookOk _ rfl _ _ 120 rfl 3 125 Tryz.underlying3 Tryz.underlying120 (zero_rule _) K rulesL rfl (HM.out.alloc _) kind rfl hk (.agg #[.nilFunc, .bool false, .nilFunc]) false (by rw [HG.out]; rfl) (by rw [HG.out]; rfl) ?_)
  go_ret
  exact ⟨ret_false HV.out, HB0.out _ _⟩
theorem getL_cons (k : Int) (v : Value) (l : List (Int × Value)) (i : Int) : getL ((k, v) :: l) i = if k = i then some v else getL l i := by
  unfold getL
  rw [List.find?_cons]
  by_cases h : k = i
  · simp [h]
  · simp [h]
theorem follows_any {mem : Addr → Option Value} (x : Blk) (av : Value) (hi : IntsM mem av x.lab.after) (ht : x.text.size ≤ maxLen) (hk : okI x.kind) (K : Nat) (w : World) (hs : Sees mem w) (hm : RMap w K) :
    Calls Tryz.prog 166 #[.agg (blkCells x av), .map (some K)] w fun e w' => e = .returned (.bool (validBlk x)) ∧ Below w.heap.size w w' := by
  by_cases h3 : x.kind = 3
  · refine follows_known x av hi hk K 96 true 101 (textOK x.text) (by rw [h3]; rfl) (enters_of Tryz.func96 (by kernel_rfl) rfl) (fun W => isText_any _ W ht) ?_ w hs hm
    unfold validBlk kindOK
    rw [if_neg (by omega), if_neg (by omega), if_pos h3, if_pos rfl, Bool.decide_and, Bool.decide_and, Bool.decide_and, Bool.decide_and]
    simp only [Bool.and_assoc]
  by_cases h5 : x.kind = 5
  · refine follows_known x av hi hk K 103 false 104 (nameOK x.text) (by rw [h5]; rfl) (enters_of Tryz.func103 (by kernel_rfl) rfl) (fun W => isName_any _ W ht) ?_ w hs hm
    unfold validBlk kindOK
    rw [if_neg (by omega), if_pos h5, if_neg (by decide), Bool.decide_and, Bool.decide_and]
    simp only [Bool.and_assoc]
  have hT : validBlk x = (decide (1 ≤ x.id ∧ x.id ≤ 1000) && validLab x.lab && (if x.kind = 1 ∨ x.kind = 2 ∨ x.kind = 4 then (decide (1 ≤ x.text.size) && textOK x.text) && decide (x.story = 0 ∧ x.ref = 0) else false)) := by
    unfold validBlk kindOK
    rw [if_neg h5, if_neg h3, Bool.decide_and, Bool.decide_and]
    simp only [Bool.and_assoc]
  by_cases h1 : x.kind = 1
  · rw [if_pos (.inl h1), ← Bool.and_assoc] at hT
    exact follows_known x av hi hk K 95 false 97 _ (by rw [h1]; rfl) (enters_of Tryz.func95 (by kernel_rfl) rfl) (fun W => filled_any _ W ht) (by rw [if_neg (by decide : ¬ (false = true))]; exact hT) w hs hm
  by_cases h2 : x.kind = 2
  · rw [if_pos (.inr (.inl h2)), ← Bool.and_assoc] at hT
    exact follows_known x av hi hk K 95 false 98 _ (by rw [h2]; rfl) (enters_of Tryz.func95 (by kernel_rfl) rfl) (fun W => filled_any _ W ht) (by rw [if_neg (by decide : ¬ (false = true))]; exact hT) w hs hm
  by_cases h4 : x.kind = 4
  · rw [if_pos (.inr (.inr h4)), ← Bool.and_assoc] at hT
    exact follows_known x av hi hk K 95 false 102 _ (by rw [h4]; rfl) (enters_of Tryz.func95 (by kernel_rfl) rfl) (fun W => filled_any _ W ht) (by rw [if_neg (by decide : ¬ (false = true))]; exact hT) w hs hm
  rw [if_neg (by omega), Bool.and_false] at hT
  refine follows_unknown x av hk K ?_ hT ?_ w hm
  · unfold rulesL
    rw [getL_cons, if_neg (by omega), getL_cons, if_neg (by omega), getL_cons, if_neg (by omega), getL_cons, if_neg (by omega), getL_cons, if_neg (by omega)]; rfl
  · obtain ⟨ao, cap, h⟩ := hi.slice; exact ⟨ao, _, cap, h⟩
end Go.Proofs.YtdkkhmjlamkgdaaGreatDoor
namespace Go.Proofs.YtdkkhmjlamkgdaaGreatDoor
open Go.RowKit Mg Go.Shelf
attribute [local go_sem] Oper.semAt_some

abbrev OkInt := { x : Int // okI x }
abbrev idsOf (ls : List (List Blk)) : List Int := ls.flatMap ids
def ListsM (mem : Addr → Option Value) (v : Value) (ls : List (List Blk)) : Prop :=
  ∃ g cap, v = .slice (some ⟨g, 0, none⟩) ls.length cap ∧ ls.length ≤ cap ∧ ls.length ≤ 1000 ∧ cap ≤ maxLen ∧ ∀ j (h : j < ls.length), ∃ u, mem ⟨g, j, none⟩ = some u ∧ BlksM mem u ls[j]
theorem take_flat {α β : Type} (f : α → List β) (ls : List α) (k : Nat) (hk : k < ls.length) : (ls.take (k + 1)).flatMap f = (ls.take k).flatMap f ++ f ls[k] := by
  rw [List.take_succ_eq_append_getElem hk, List.flatMap_append]; simp
theorem flat_get {ls : List (List Blk)} {i j : Nat} (hi : i < ls.length) (hj : j < ls[i].length) : (idsOf ls)[(idsOf (ls.take i)).length + j]? = some ls[i][j].id := by
  have e : ls = ls.take i ++ (ls[i] :: ls.drop (i + 1)) := by rw [← List.drop_eq_getElem_cons hi, List.take_append_drop]
  have e2 : idsOf ls = idsOf (ls.take i) ++ (ids ls[i] ++ idsOf (ls.drop (i + 1))) := by
    conv => lhs; rw [e]
    unfold idsOf
    rw [List.flatMap_append, List.flatMap_cons]
  rw [e2, List.getElem?_append_right (by omega), Nat.add_sub_cancel_left, List.getElem?_append_left (by unfold ids; simpa using hj)]
  unfold ids
  rw [List.getElem?_map, List.getElem?_eq_getElem hj]; rfl
theorem each_any (v : Value) (hv : ∃ ao n cap, v = .slice ao n cap) (w : World) : Calls Tryz.prog 136 #[v] w fun e w' => e = .returned (.func (.func 169) #[] #[.pointer (some ⟨w.heap.size, 0, none⟩)]) ∧ w.alloc (.cells #[v] 65) = w' := by
  obtain ⟨ao, n, cap, rfl⟩ := hv
  go_enter Tryz.func136, Tryz.ntmps136
  go_wp2_with fail
  go_ret
  exact ⟨rfl, rfl⟩

set_option maxRecDepth 100000 in
set_option maxHeartbeats 4000000 in
theorem each1 (n l Bn : Nat) (Kp : World → World → Prop) (mem : Addr → Option Value) (hmem : ∀ A B, Kp A B → Sees mem A → Sees mem B) (v : Value) (ls : List (List Blk)) (hv : ListsM mem v ls) (hBn : mem ⟨Bn, 0, none⟩ = some v) (xs : List OkInt) (hxs : xs.map Subtype.val = idsOf ls)
    (J Jx : List OkInt → World → Prop)
    (hY : ∀ pre x W, J pre W → pre.length < xs.length → YieldAt Fence.wide (n - 1) Tryz.prog l #[.int .i64 x.1] W fun e W' =>
      (e = .returned (.bool true) ∧ J (pre ++ [x]) W' ∧ Kp W W') ∨ (e = .returned (.bool false) ∧ Jx (pre ++ [x]) W'))
    (W : World) (hJ : AbidesFrom W.heap.size J) (hs : Sees mem W) (h0 : J [] W) :
    CallsIn Fence.wide n Tryz.prog 169 #[.func (.yield l) #[] #[], .pointer (some ⟨Bn, 0, none⟩)] W fun e W' => (∃ v, e = .returned v) ∧
      ((∃ ys, ys = xs ∧ J ys W') ∨ (∃ pre, pre <+: xs ∧ Jx pre W')) := by
  obtain ⟨g, cap, rfl, hcap, h1000, hcm, hls⟩ := hv
  have hB0 := hs _ _ hBn
  have HLS := Lib.hid hls
  have HM := Lib.hid hmem
  have HY := Lib.hid hY
  have HJ := Lib.hid hJ
  have HX := Lib.hid hxs
  clear hls hmem hY hJ hxs
  refine callsIn_of_wp Tryz.func169 rfl trivial ?_ rfl
  simp only [Tryz.ntmps169, List.size_toArray, List.length_cons, List.length_nil, Nat.reduceAdd, Nat.reduceSub, Array.replicate_succ, Array.replicate_zero, List.push_toArray, List.append_toArray, List.nil_append, List.cons_append]
  gi_wp2_with fail
  gi_loopw [9] (fun i wr => ∃ k : Nat, k ≤ ls.length ∧ i = .int .i64 k ∧ Sees mem wr ∧ J (xs.take (idsOf (ls.take k)).length) wr) (fun i _ => ls.length - (intOf i).toNat)
  case atStart => exact ⟨0, Nat.zero_le _, rfl, hs, by simpa using h0⟩
  case round =>
    obtain ⟨k, hk, rfl, hsw, hJk⟩ := hrel
    obtain ⟨wo, rfl⟩ : ∃ wo, wo = wr := ⟨_, rfl⟩
    by_cases hlt : k < ls.length
    · obtain ⟨u, hu, hbm⟩ := HLS.out k hlt
      have hcu := hsw _ _ hu
      have hgl : g < wo.heap.size := World.block_lt_of_cell? wo _ hcu
      obtain ⟨ao, cap2, b, o, rfl, hc2, hm2, hao, hblks⟩ := hbm.open_
      have HAO := Lib.hid hao
      have HB := Lib.hid hblks
      have HO : Hid ((idsOf (ls.take (k + 1))).length = (idsOf (ls.take k)).length + ls[k].length) := Lib.hid (by unfold idsOf; rw [take_flat ids ls k hlt, List.length_append]; simp)
      have HG : Hid (∀ j (hj : j < ls[k].length), ∃ h : (idsOf (ls.take k)).length + j < xs.length, (xs[(idsOf (ls.take k)).length + j]'h).1 = ls[k][j].id) := Lib.hid (fun j hj => by
        have e := flat_get hlt hj
        rw [← HX.out, List.getElem?_map, Option.map_eq_some_iff] at e
        obtain ⟨x, h1, h2⟩ := e
        obtain ⟨h3, h4⟩ := List.getElem?_eq_some_iff.1 h1
        exact ⟨h3, by rw [h4]; exact h2⟩)
      have hl2 : (ls[k].length : Int) ≤ 9223372036854775807 := by unfold maxLen at hm2; omega
      clear hu hbm hao hblks
      generalize ls[k] = L at *
      generalize (idsOf (ls.take k)).length = p at *
      gi_wp2_with fail
      gi_loopw [15] (fun i wi => ∃ j : Nat, j ≤ L.length ∧ i = .int .i64 j ∧ Sees mem wi ∧ J (xs.take (p + j)) wi) (fun i _ => L.length - (intOf i).toNat)
      case atStart => exact ⟨0, Nat.zero_le _, rfl, hsw, hJk⟩
      case round =>
        obtain ⟨j, hj, rfl, hsi, hJj⟩ := hrel
        by_cases hjl : j < L.length
        · obtain ⟨_, lo, lc, _, c9⟩ := (HB.out j hjl).nine hsi
          obtain rfl := HAO.out (by omega)
          obtain ⟨c0, c1, c2, c3, c4, c5, c6, c7, c8⟩ := c9
          obtain ⟨hp, hid⟩ := HG.out j hjl
          have hbl : b < wr.heap.size := World.block_lt_of_cell? wr _ c0
          rw [← hid] at c0
          have HTK : Hid (xs.take (p + j) ++ [xs[p + j]] = xs.take (p + (j + 1))) := Lib.hid (by rw [← Nat.add_assoc, List.take_succ_eq_append_getElem hp])
          have hpl : (xs.take (p + j)).length < xs.length := by rw [List.length_take]; omega
          clear hid
          generalize xs[p + j] = x at *
          generalize L[j] = y at *
          obtain ⟨id, kind, text, story, ref, till, after, appr, denied⟩ := y
          dsimp only at *
          have hJ1 := HJ.out _ wr (wr.alloc (.cells #[.int .i64 x.1, .int .i64 kind, .string text, .int .i64 story, .int .i64 ref, .int .i64 till, .slice lo after.length lc, .int .i64 appr, .int .i64 denied] 58)) none hJj (World.grownBy_alloc wr _ none) (fun r e => by cases e)
          obtain ⟨fn, tmps, assign, body, hy, hR⟩ := HY.out _ x _ hJ1 hpl
          have HS1 := Lib.hid hsi
          clear hsi hJ1 hJj hpl
          gi_wp2_with fail
          refine ⟨(fun h => by cases h), ?_⟩
          refine hR.mono ?_
          rintro e W3 (⟨rfl, hJ3, hk3⟩ | ⟨rfl, hJx3⟩)
          · have hs3 : Sees mem W3 := HM.out _ _ hk3 (HS1.out.alloc _)
            rw [HTK.out] at hJ3
            clear hk3
            gi_wp2_with fail
            go_roundw
            case rel => exact ⟨j + 1, by omega, by go_num, hs3, hJ3⟩
            case measure => simp [intOf]; omega
          · gi_wp2_with fail
            refine bodyPost_ret (results_none rfl _ _ _) rfl ?_
            exact ⟨⟨_, rfl⟩, .inr ⟨_, ⟨xs.drop (p + (j + 1)), by rw [HTK.out, List.take_append_drop]⟩, hJx3⟩⟩
        · have e : j = L.length := by omega
          subst e
          gi_wp2_with fail
          go_roundw
          case rel => exact ⟨k + 1, by omega, by go_num, hsi, by rw [HO.out]; exact hJj⟩
          case measure => simp [intOf]; omega
    · have e : k = ls.length := by omega
      subst e
      have hfin : xs.take (idsOf (ls.take ls.length)).length = xs := by
        rw [List.take_length, ← HX.out, List.length_map, List.take_length]
      rw [hfin] at hJk
      clear hfin
      gi_wp2_with fail
      go_end0
      exact ⟨⟨_, rfl⟩, .inl ⟨_, rfl, hJk⟩⟩

theorem each_stops (n Bn : Nat) (Kp : World → World → Prop) (mem : Addr → Option Value) (w : World) (hs : Sees mem w) (hmem : ∀ A B, Kp A B → Sees mem A → Sees mem B) (v : Value) (ls : List (List Blk)) (hv : ListsM mem v ls) (hBn : mem ⟨Bn, 0, none⟩ = some v) (xs : List OkInt) (hxs : xs.map Subtype.val = idsOf ls) :
    SeqStopsK Fence.wide n Tryz.prog 169 #[.pointer (some ⟨Bn, 0, none⟩)] (fun x : OkInt => #[.int .i64 x.1]) Kp (fun ys => ys = xs) (fun pre => pre <+: xs) xs.length w :=
  fun l J Jx W hW hJ _ hY h0 => each1 n l Bn Kp mem hmem v ls hv hBn xs hxs J Jx hY W hJ (hs.bel hW) h0
theorem sees_below {mem : Addr → Option Value} {B : Nat} (hmem : ∀ a u, mem a = some u → a.block < B) (X Y : World) (h : Below B X Y) (hs : Sees mem X) : Sees mem Y := fun a u e => (h.cell (hmem a u e)).trans (hs a u e)
def KeepB (N : Nat) (F : Nat → Prop) (X Y : World) : Prop := ∀ k, k < N → ¬ F k → Y.heap[k]? = X.heap[k]?
theorem keepB_t {N : Nat} {F : Nat → Prop} {X Y Z : World} (h : KeepB N F X Y) (k : KeepB N F Y Z) : KeepB N F X Z := fun i hi hf => (k i hi hf).trans (h i hi hf)
theorem keepB_b {N : Nat} {F : Nat → Prop} {w : World} (hN : N ≤ w.heap.size) (W : World) (l : Nat) (o o' : Obj) (hl : w.heap.size ≤ l) (_ : W.heap[l]? = some o) (_ : o.isCells = false) (_ : o.isWalk = false) : KeepB N F W (W.putObj l o') :=
  fun k hk _ => World.putObj_heap_other (by omega)
theorem sees_keepB {mem : Addr → Option Value} {N : Nat} {F : Nat → Prop} (hmem : ∀ a u, mem a = some u → a.block < N ∧ ¬ F a.block) (X Y : World) (h : KeepB N F X Y) (hs : Sees mem X) : Sees mem Y :=
  fun a u e => (World.cell?_of_block (h a.block (hmem a u e).1 (hmem a u e).2)).trans (hs a u e)
def memBut (W : World) (B : Nat) (a : Addr) : Option Value := if a.block = B then none else W.cell? a
theorem memBut_sees (W : World) (B : Nat) : Sees (memBut W B) W := fun a u h => by
  unfold memBut at h
  split at h
  · cases h
  · exact h
theorem memBut_lt {W : World} {B : Nat} (a : Addr) (u : Value) (h : memBut W B a = some u) : a.block < W.heap.size ∧ ¬ (fun k => k = B) a.block := by
  unfold memBut at h
  split at h
  · cases h
  · next hne => exact ⟨World.block_lt_of_cell? W a h, hne⟩
theorem memBut_of {W : World} {B : Nat} {a : Addr} {u : Value} (h : W.cell? a = some u) (hne : a.block ≠ B) : memBut W B a = some u := by
  unfold memBut; rw [if_neg hne]; exact h
end Go.Proofs.YtdkkhmjlamkgdaaGreatDoor
namespace Go.Proofs.YtdkkhmjlamkgdaaGreatDoor
open Go.RowKit Mg Go.Shelf
attribute [local go_sem] Oper.semAt_some

abbrev vals (xs : List OkInt) : List Int := xs.map Subtype.val
def PosI (L : List Int) (es : List (Int × Value)) : Prop := ∀ i, getL es i = if i ∈ L then some (.int .i64 (L.idxOf i : Nat)) else none
theorem PosI.nil : PosI [] [] := fun _ => rfl
theorem PosI.keys {L : List Int} {es : List (Int × Value)} (h : PosI L es) (i : Int) : i ∈ keysL es ↔ i ∈ L := by
  have h1 := getL_isSome (l := es) (i := i)
  rw [h i] at h1
  by_cases hm : i ∈ L
  · rw [if_pos hm] at h1
    exact ⟨fun _ => hm, fun _ => of_decide_eq_true h1.symm⟩
  · rw [if_neg hm] at h1
    exact ⟨fun hk => absurd h1.symm (by rw [decide_eq_true hk]; simp), fun h => absurd h hm⟩
theorem PosI.old {L : List Int} {es : List (Int × Value)} (h : PosI L es) {x : Int} (hx : x ∈ L) : PosI (L ++ [x]) es := fun i => by
  rw [h i]
  by_cases hm : i ∈ L
  · rw [if_pos hm, if_pos (List.mem_append_left _ hm), List.idxOf_append, if_pos hm]
  · rw [if_neg hm, if_neg (fun hh => hm (by rcases List.mem_append.1 hh with h1 | h1; exact h1; simp at h1; subst h1; exact hx))]
theorem PosI.new {L : List Int} {es : List (Int × Value)} (h : PosI L es) {x : Int} (hx : x ∉ L) : PosI (L ++ [x]) (es ++ [(x, .int .i64 (L.length : Nat))]) := fun i => by
  by_cases e : i = x
  · subst e
    rw [getL_snoc_same (fun hk => hx ((h.keys i).1 hk)), if_pos (by simp), List.idxOf_append, if_neg hx]
    simp
  · rw [getL_snoc_other (Ne.symm e), h i]
    by_cases hm : i ∈ L
    · rw [if_pos hm, if_pos (List.mem_append_left _ hm), List.idxOf_append, if_pos hm]
    · rw [if_neg hm, if_neg (fun hh => hm (by rcases List.mem_append.1 hh with h1 | h1; exact h1; simp at h1; exact absurd h1 e))]
theorem PosI.val {L : List Int} {es : List (Int × Value)} (h : PosI L es) (i : Int) : (getL es i).getD (.int .i64 0) = .int .i64 (if i ∈ L then (L.idxOf i : Nat) else 0 : Nat) := by
  rw [h i]
  by_cases hm : i ∈ L
  · rw [if_pos hm, if_pos hm]; rfl
  · rw [if_neg hm, if_neg hm]; rfl
theorem PosI.has {L : List Int} {es : List (Int × Value)} (h : PosI L es) (i : Int) : (getL es i).isSome = decide (i ∈ L) := by
  rw [h i]
  by_cases hm : i ∈ L
  · rw [if_pos hm, decide_eq_true hm]; rfl
  · rw [if_neg hm, decide_eq_false hm]; rfl
theorem PosI.len {L : List Int} {es : List (Int × Value)} (h : PosI L es) (hn : (keysL es).Nodup) : es.length ≤ L.length := by
  have h1 : (keysL es).length ≤ L.length := List.Nodup.length_le_of_subset hn (fun i hi => (h.keys i).1 hi)
  unfold keysL at h1
  rwa [List.length_map] at h1
def PosPost (L : List Int) (w : World) (e : Ending) (w' : World) : Prop :=
  ∃ K es, e = .returned (.map (some K)) ∧ IMap Tryz.prog 3 w' K es ∧ PosI L es ∧ Below w.heap.size w w' ∧ w.heap.size ≤ K

theorem zero_int (w : World) : (zeroValue 3).run Tryz.prog w = .ok (.int .i64 0) w := Tryz.zeroValue3 w

set_option maxRecDepth 100000 in
set_option maxHeartbeats 4000000 in
theorem positions_wide (m : Nat) (Bn : Nat) (mem : Addr → Option Value) (w : World) (hs : Sees mem w) (hmem : ∀ a u, mem a = some u → a.block < w.heap.size) (v : Value) (ls : List (List Blk)) (hv : ListsM mem v ls) (hBn : mem ⟨Bn, 0, none⟩ = some v) (xs : List OkInt) (hxs : vals xs = idsOf ls) (hlen : xs.length ≤ 100000) :
    CallsIn Fence.wide m Tryz.prog 135 #[.func (.func 169) #[] #[.pointer (some ⟨Bn, 0, none⟩)]] w (PosPost (vals xs) w) := by
  refine callsIn_wide.2 ((callsIn_wide (n := 5)).1 ?_)
  have hmm := @run_makeMap Tryz.prog
  refine callsIn_of_wp_marks Tryz.func135 rfl trivial ?_ rfl
  simp only [Tryz.ntmps135, List.size_toArray, List.length_cons, List.length_nil, Nat.reduceAdd, Nat.reduceSub, Array.replicate_succ, Array.replicate_zero, List.push_toArray, List.append_toArray, List.nil_append, List.cons_append]
  gi_wp2
  have b1 : Boxed (((w.alloc (.map #[] 0)).alloc (.cells #[.map (some w.heap.size)] 184)).alloc (.cells #[.int .i64 0] 3)) (w.heap.size + 1) 184 (.map (some w.heap.size)) := by
    have := (Boxed.new (w.alloc (.map #[] 0)) 184 (.map (some w.heap.size))).alloc (.cells #[.int .i64 0] 3)
    rwa [World.size_alloc] at this
  have b2 : Boxed (((w.alloc (.map #[] 0)).alloc (.cells #[.map (some w.heap.size)] 184)).alloc (.cells #[.int .i64 0] 3)) (w.heap.size + 2) 3 (.int .i64 0) := by
    have := Boxed.new ((w.alloc (.map #[] 0)).alloc (.cells #[.map (some w.heap.size)] 184)) 3 (.int .i64 0)
    rwa [World.size_alloc, World.size_alloc] at this
  have hm0 : IMap Tryz.prog 3 (((w.alloc (.map #[] 0)).alloc (.cells #[.map (some w.heap.size)] 184)).alloc (.cells #[.int .i64 0] 3)) w.heap.size [] := ((IMap.made Tryz.prog 3 w).alloc _).alloc _
  have hB0 : Below w.heap.size w (((w.alloc (.map #[] 0)).alloc (.cells #[.map (some w.heap.size)] 184)).alloc (.cells #[.int .i64 0] 3)) := (((Below.refl _ w).alloc (Nat.le_refl _) _).alloc (by simp) _).alloc (by simp; omega) _
  refine wpIn_rangeFunc_ownG rfl (by omega) (gf := 169) (lb := #[.pointer (some ⟨Bn, 0, none⟩)]) rfl trivial (enters_of Tryz.func169 (by kernel_rfl) rfl)
    (each_stops _ Bn (Below w.heap.size) mem _ (hs.bel hB0) (sees_below hmem) v ls hv hBn xs hxs) belowK_t (belowK_b (by simp; omega)) (Below.refl _ _) (fun _ => rfl)
    (fun pre W => (Boxed W (w.heap.size + 1) 184 (.map (some w.heap.size)) ∧ Boxed W (w.heap.size + 2) 3 (.int .i64 (pre.length : Nat))) ∧ ((∃ es, IMap Tryz.prog 3 W w.heap.size es ∧ PosI (vals pre) es) ∧ Below w.heap.size w W))
    (fun _ _ _ => False)
    (OwnFrom.and (OwnFrom.and (Own.from (boxed_own _ _ (fun _ => .map (some w.heap.size))) _) (Own.from (boxed_own _ _ (fun pre : List OkInt => .int .i64 (pre.length : Nat))) _))
      (OwnFrom.and (fun s A B row hs hg hr => by
        obtain ⟨es, h1, h2⟩ := hs
        exact ⟨es, h1.grown hg (fun e => by have := (hr _ e.symm).1; simp at this; omega), h2⟩) (ownFrom_below (Nat.le_refl _) (by simp; omega))))
    (fun _ _ _ _ _ hs _ _ => hs)
    ⟨⟨b1, b2⟩, ⟨[], hm0, PosI.nil⟩, hB0⟩
    (fun x => { tmps := #[.func (.func 169) #[] #[.pointer (some ⟨Bn, 0, none⟩)], undef, .map none, .pointer (some ⟨w.heap.size + 1, 0, none⟩), .pointer (some ⟨w.heap.size + 1 + 1, 0, none⟩), .int .i64 x.1, undef, undef, .map (some w.heap.size), .func (.func 169) #[] #[.pointer (some ⟨Bn, 0, none⟩)], .int .i64 x.1, undef, undef, undef, undef, undef, undef, undef, undef, undef, undef, undef, undef, undef, undef], defers := [] }) ?assign ?body ?done ?stop
  case assign =>
    intro l x W K hK
    gi_wp2
    exact hK
  case body =>
    rintro l pre x W ⟨⟨hb1, hb2⟩, ⟨es, hm, hp⟩, hB⟩ hlt
    have hc1 := hb1.cell
    have hc2 := hb2.cell
    have hf2 := hb2.frozen
    have hpl : (pre.length : Int) ≤ 100000 := by omega
    have hlk := hm.lookOk Tryz.underlying3 Tryz.underlying184 (zero_int W) x.2
    rw [hp.has, hp.val] at hlk
    generalize (((if x.1 ∈ vals pre then (vals pre).idxOf x.1 else 0 : Nat)) : Int) = z at hlk
    have HB := Lib.hid (And.intro hB (And.intro hb1 hb2))
    have HM := Lib.hid hm
    by_cases hx : x.1 ∈ vals pre
    · rw [decide_eq_true hx] at hlk
      have HX := Lib.hid (hp.old hx)
      clear hp hB hb1 hb2 hx hm
      gi_wp2
      obtain ⟨hB, hb1, hb2⟩ := HB.out
      refine ⟨(KeepsOthers.setCell _ _ _).from _, (Below.refl _ W).setCell (p := ⟨w.heap.size + 1 + 1, 0, none⟩) (by simp; omega) _, ⟨⟨hb1.other (by omega) _, ?_⟩, ⟨es, HM.out.setCell _ (by simp; omega), ?_⟩, hB.setCell (p := ⟨w.heap.size + 1 + 1, 0, none⟩) (by simp; omega) _⟩⟩
      · have := hb2.set (.int .i64 ((pre ++ [x]).length : Nat))
        rw [List.length_append] at this ⊢
        exact this
      · unfold vals; rw [List.map_append]; exact HX.out
    · rw [decide_eq_false hx] at hlk
      have HX := Lib.hid (hp.new hx)
      have hel := hp.len hm.nodup
      obtain ⟨w2, hst, hm2, hg2⟩ := hm.store Tryz.underlying3 Tryz.underlying184 (by rw [List.length_map] at hel; unfold maxLen; omega) x.2 (fun hk => hx ((hp.keys _).1 hk)) (.int .i64 (pre.length : Nat))
      have k1 := (hb1.kept hg2 (by simp)).cell
      have k2 := (hb2.kept hg2 (by simp)).cell
      have k3 := (hb2.kept hg2 (by simp)).frozen
      have HM2 := Lib.hid hm2
      have HG2 := Lib.hid hg2
      clear hp hB hb1 hb2 hx hel hm hm2 hg2
      gi_wp2
      obtain ⟨hB, hb1, hb2⟩ := HB.out
      have hg2 := HG2.out
      have hbl : Below w.heap.size W w2 := (Below.refl _ W).grown hg2 hB.size (fun k e => by cases e; exact Nat.le_refl _)
      refine ⟨(KeepsFrom.of_grownBy hg2 (fun j e => by cases e; simp; omega)).trans ((KeepsOthers.setCell _ _ _).from _), hbl.setCell (p := ⟨w.heap.size + 1 + 1, 0, none⟩) (by simp; omega) _, ⟨⟨(hb1.kept hg2 (by simp)).other (by omega) _, ?_⟩, ⟨_, HM2.out.setCell _ (by simp; omega), ?_⟩, (hB.trans hbl).setCell (p := ⟨w.heap.size + 1 + 1, 0, none⟩) (by simp; omega) _⟩⟩
      · have := (hb2.kept hg2 (by simp)).set (.int .i64 ((pre ++ [x]).length : Nat))
        rw [List.length_append] at this ⊢
        exact this
      · have := HX.out
        rw [List.length_map] at this
        unfold vals; rw [List.map_append]; exact this
  case done =>
    rintro D ys W hD rfl ⟨⟨hb1, hb2⟩, ⟨es, hm, hp⟩, hB⟩ hK
    have hc1 := hb1.cell
    gi_wp2
    refine ⟨by simp, .inl ⟨_, _, rfl, run_takeDeferred hK, ?_⟩⟩
    exact ⟨_, results_tmp rfl _ _ _, w.heap.size, es, rfl, hm.grown (grownBy_putObj' _ D _) (fun e => by cases e; simp at hD; omega), hp, hB.trans (belowK_b (w := w) (Nat.le_refl _) W D _ _ (by simp at hD; omega) hK rfl rfl), Nat.le_refl _⟩
  case stop =>
    rintro D c pre W _ _ h _
    exact h.elim
theorem positions_any (Bn : Nat) (mem : Addr → Option Value) (w : World) (hs : Sees mem w) (hmem : ∀ a u, mem a = some u → a.block < w.heap.size) (v : Value) (ls : List (List Blk)) (hv : ListsM mem v ls) (hBn : mem ⟨Bn, 0, none⟩ = some v) (xs : List OkInt) (hxs : vals xs = idsOf ls) (hlen : xs.length ≤ 100000) :
    Calls Tryz.prog 135 #[.func (.func 169) #[] #[.pointer (some ⟨Bn, 0, none⟩)]] w (PosPost (vals xs) w) := callsIn_wide.1 (positions_wide 5 Bn mem w hs hmem v ls hv hBn xs hxs hlen)
end Go.Proofs.YtdkkhmjlamkgdaaGreatDoor
namespace Go.Proofs.YtdkkhmjlamkgdaaGreatDoor
open Go.RowKit Mg Go.Shelf
attribute [local go_sem] Oper.semAt_some

def scanL (base : List Int) : Int → List Int → Option Int
  | last, [] => some last
  | last, i :: r => if i ∈ base then (if (base.idxOf i : Int) < last then none else scanL base (base.idxOf i) r) else scanL base last r
theorem scanL_moved (base : List Int) : ∀ (l : List Int) (last : Int), movedL base last l = (scanL base last l).isNone
  | [], _ => rfl
  | i :: r, last => by
    unfold movedL scanL
    split
    · split
      · rfl
      · exact scanL_moved base r _
    · exact scanL_moved base r _
theorem scanL_append (base : List Int) : ∀ (l r : List Int) (last : Int), scanL base last (l ++ r) = (scanL base last l).bind fun k => scanL base k r
  | [], _, _ => rfl
  | i :: l, r, last => by
    rw [List.cons_append, scanL, scanL]
    split
    · split
      · rfl
      · exact scanL_append base l r _
    · exact scanL_append base l r _
theorem scanL_snoc {base l : List Int} {last k i : Int} (h : scanL base last l = some k) : scanL base last (l ++ [i]) = if i ∈ base then (if (base.idxOf i : Int) < k then none else some (base.idxOf i : Int)) else some k := by
  rw [scanL_append, h]; rfl
theorem scanL_prefix {base l m : List Int} {last : Int} (h : l <+: m) (hn : scanL base last l = none) : scanL base last m = none := by
  obtain ⟨r, rfl⟩ := h
  rw [scanL_append, hn]; rfl
theorem okIds {mem : Addr → Option Value} {v : Value} {l : List Blk} (h : BlksM mem v l) : ∃ xs : List OkInt, vals xs = ids l := by
  obtain ⟨_, _, _, _, _, _, _, _, hb⟩ := h.open_
  have hk : ∀ i ∈ ids l, okI i := by
    intro i hi
    obtain ⟨b, hb1, rfl⟩ := List.mem_map.1 hi
    obtain ⟨j, hj, rfl⟩ := List.getElem_of_mem hb1
    exact (hb j hj).2.2.1.2.2
  clear hb
  generalize ids l = L at *
  induction L with
  | nil => exact ⟨[], rfl⟩
  | cons i r ih =>
    obtain ⟨xs, hx⟩ := ih (fun j hj => hk j (List.mem_cons_of_mem _ hj))
    exact ⟨⟨i, hk i List.mem_cons_self⟩ :: xs, by unfold vals at *; rw [List.map_cons, hx]⟩
theorem lists1 {mem : Addr → Option Value} {v : Value} {l : List Blk} (h : BlksM mem v l) {W : World} (hs : Sees mem W) {g : Nat} (hg : W.cell? ⟨g, 0, none⟩ = some v) : ListsM (fun a => W.cell? a) (.slice (some ⟨g, 0, none⟩) 1 1) [l] :=
  ⟨g, 1, rfl, by simp, by simp, by unfold maxLen; omega, fun j hj => by
    match j, hj with
    | 0, _ => exact ⟨v, hg, h.mono (fun a u e => hs a u e)⟩⟩
theorem idsOf_one (l : List Blk) : idsOf [l] = ids l := by simp [idsOf]
theorem positions_each {mem : Addr → Option Value} {v : Value} {l : List Blk} (h : BlksM mem v l) (hl : l.length ≤ 100000) {W : World} (hs : Sees mem W) {g Bn : Nat} (hg : W.cell? ⟨g, 0, none⟩ = some v) (hB : W.cell? ⟨Bn, 0, none⟩ = some (.slice (some ⟨g, 0, none⟩) 1 1)) :
    Calls Tryz.prog 135 #[.func (.func 169) #[] #[.pointer (some ⟨Bn, 0, none⟩)]] W (PosPost (ids l) W) := by
  obtain ⟨xs, hx⟩ := okIds h
  have := positions_any Bn (fun a => W.cell? a) W (Sees.self W) (fun a u e => cell_lt e) _ [l] (lists1 h hs hg) hB xs (by rw [idsOf_one]; exact hx) (by have := congrArg List.length hx; simp at this; omega)
  rwa [hx] at this

set_option maxRecDepth 100000 in
set_option maxHeartbeats 4000000 in
theorem moved_wide (m : Nat) {mem : Addr → Option Value} {v u : Value} {base l : List Blk} (h1 : BlksM mem v base) (h2 : BlksM mem u l) (hl1 : base.length ≤ 100000) (w : World) (hs : Sees mem w) :
    CallsIn Fence.wide m Tryz.prog 137 #[v, u] w fun e w' => e = .returned (.bool (movedL (ids base) (-1) (ids l))) ∧ Below w.heap.size w w' := by
  refine callsIn_wide.2 ((callsIn_wide (n := 6)).1 ?_)
  obtain ⟨ao, cap, rfl⟩ := h1.slice
  obtain ⟨ao2, cap2, rfl⟩ := h2.slice
  obtain ⟨xs, hx⟩ := okIds h2
  refine callsIn_of_wp_marks Tryz.func137 rfl trivial ?_ rfl
  simp only [Tryz.ntmps137, List.size_toArray, List.length_cons, List.length_nil, Nat.reduceAdd, Nat.reduceSub, Array.replicate_succ, Array.replicate_zero, List.push_toArray, List.append_toArray, List.nil_append, List.cons_append]
  gi_wp2_with fail
  refine wpIn_scope_straight ?_
  gi_wp2_with fail
  refine ⟨trivial, ?_⟩
  refine (callsIn_wide.2 (each_any _ ⟨_, _, _, rfl⟩ _)).mono ?_
  rintro e w' ⟨rfl, rfl⟩
  obtain ⟨W2, HW2⟩ := named ((((w.alloc (.cells #[.bool false] 4)).alloc (.cells #[.slice ao base.length cap] 37)).alloc (.cells #[.slice (some ⟨w.heap.size + 1, 0, none⟩) 1 1] 65)))
  rw [← HW2.out]
  have hB2 : Below w.heap.size w W2 := by rw [HW2.out]; exact (((Below.refl _ w).alloc (Nat.le_refl _) _).alloc (by simp) _).alloc (by simp; omega) _
  have hz2 : W2.heap.size = w.heap.size + 3 := by rw [HW2.out]; simp
  have q0 : Boxed W2 w.heap.size 4 (.bool false) := by rw [HW2.out]; exact ((Boxed.new w _ _).alloc _).alloc _
  have q1 : W2.cell? ⟨w.heap.size + 1, 0, none⟩ = some (.slice ao base.length cap) := by rw [HW2.out]; exact cell_old (cell_new (by simp) rfl)
  have q2 : W2.cell? ⟨w.heap.size + 2, 0, none⟩ = some (.slice (some ⟨w.heap.size + 1, 0, none⟩) 1 1) := by rw [HW2.out]; exact cell_new (by simp) rfl
  have hz2i : w.heap.size + 3 ≤ W2.heap.size := by omega
  have cP := positions_each h1 hl1 (hs.bel hB2) q1 q2
  have HZ := Lib.hid hz2
  clear hz2 q1 q2
  gi_wp2_with fail
  refine ⟨trivial, ?_⟩
  refine (callsIn_wide.2 cP).mono ?_
  rintro e w3 ⟨K, es, rfl, hm, hp, hb3, hK⟩
  have hB3 : Below w.heap.size w w3 := hB2.trans (hb3.mono (by omega))
  have hz3 := hb3.size
  have q0' := q0.kept (grown_none hb3) (by simp)
  have HH := Lib.hid (And.intro hm (And.intro hp (And.intro hb3 q0)))
  clear hm hp hb3 q0 cP
  gi_wp2_with fail
  refine wpIn_label ?_
  gi_wp2_with fail
  refine ⟨trivial, ?_⟩
  refine (callsIn_wide.2 (each_any _ ⟨_, _, _, rfl⟩ _)).mono ?_
  rintro e w' ⟨rfl, rfl⟩
  gi_wp2_with fail
  obtain ⟨W5, HW5⟩ := named ((((w3.alloc (.cells #[.map (some K)] 184)).alloc (.cells #[.int .i64 (-1)] 3)).alloc (.cells #[.slice ao2 l.length cap2] 37)).alloc (.cells #[.slice (some ⟨w3.heap.size + 1 + 1, 0, none⟩) 1 1] 65))
  rw [← HW5.out]
  obtain ⟨hm, hp, hb3, q0⟩ := HH.out
  have hz5 : W5.heap.size = w3.heap.size + 4 := by rw [HW5.out]; simp
  have hB35 : Below w3.heap.size w3 W5 := by rw [HW5.out]; exact ((((Below.refl _ w3).alloc (Nat.le_refl _) _).alloc (by simp) _).alloc (by simp; omega) _).alloc (by simp; omega) _
  have hB5 : Below w.heap.size w W5 := hB3.trans (hB35.mono hB3.size)
  have r0 : Boxed W5 w.heap.size 4 (.bool false) := q0'.kept (grown_none hB35) (by simp)
  have r5 : Boxed W5 w3.heap.size 184 (.map (some K)) := by rw [HW5.out]; exact (((Boxed.new w3 _ _).alloc _).alloc _).alloc _
  have r6 : Boxed W5 (w3.heap.size + 1) 3 (.int .i64 (-1)) := by
    have h := (((Boxed.new (w3.alloc (.cells #[.map (some K)] 184)) 3 (.int .i64 (-1))).alloc (.cells #[.slice ao2 l.length cap2] 37)).alloc (.cells #[.slice (some ⟨w3.heap.size + 1 + 1, 0, none⟩) 1 1] 65))
    rw [World.size_alloc] at h
    rw [HW5.out]; exact h
  have r7 : W5.cell? ⟨w3.heap.size + 2, 0, none⟩ = some (.slice ao2 l.length cap2) := by rw [HW5.out]; exact cell_old (cell_new (by simp) rfl)
  have r8 : W5.cell? ⟨w3.heap.size + 3, 0, none⟩ = some (.slice (some ⟨w3.heap.size + 2, 0, none⟩) 1 1) := by rw [HW5.out]; exact cell_new (by simp) rfl
  have hmK : IMap Tryz.prog 3 W5 K es := hm.below hB35 hm.lt
  have hKl := hm.lt
  have hs5 : Sees mem W5 := hs.bel hB5
  have hin5 : ∀ a u, mem a = some u → memBut W5 (w3.heap.size + 1) a = some u := fun a u h => memBut_of (hs5 a u h) (by have h1 := cell_lt (hs a u h); have h2 := hB3.size; omega)
  have hls5 : ListsM (memBut W5 (w3.heap.size + 1)) (.slice (some ⟨w3.heap.size + 2, 0, none⟩) 1 1) [l] :=
    ⟨_, 1, rfl, by simp, by simp, by unfold maxLen; omega, fun j hj => by
      match j, hj with
      | 0, _ => exact ⟨_, memBut_of r7 (by simp), h2.mono hin5⟩⟩
  have hz : w.heap.size + 3 ≤ w3.heap.size := by omega
  clear HH HW5 HW2 HZ q0 q0'
  refine wpIn_rangeFunc_ownG rfl (by omega) (gf := 169) (lb := #[.pointer (some ⟨w3.heap.size + 3, 0, none⟩)]) rfl trivial (enters_of Tryz.func169 (by kernel_rfl) rfl)
    (each_stops _ (w3.heap.size + 3) (KeepB W5.heap.size (fun k => k = w3.heap.size + 1)) (memBut W5 (w3.heap.size + 1)) W5 (memBut_sees _ _) (sees_keepB memBut_lt) _ [l] hls5 (memBut_of r8 (by simp)) xs (by rw [idsOf_one]; exact hx)) keepB_t (keepB_b (Nat.le_refl _)) (Below.refl _ _) (fun _ => rfl)
    (fun pre W => ((Boxed W w.heap.size 4 (.bool false) ∧ Boxed W w3.heap.size 184 (.map (some K))) ∧ (∃ last : Int, scanL (ids base) (-1) (vals pre) = some last ∧ Boxed W (w3.heap.size + 1) 3 (.int .i64 last))) ∧ (IMap Tryz.prog 3 W K es ∧ Below w.heap.size w W))
    (fun c pre W => c = .ret ∧ Boxed W w.heap.size 4 (.bool true) ∧ scanL (ids base) (-1) (vals pre) = none ∧ Below w.heap.size w W)
    (OwnFrom.and (OwnFrom.and (OwnFrom.and (Own.from (boxed_own _ _ (fun _ => .bool false)) _) (Own.from (boxed_own _ _ (fun _ => .map (some K))) _))
        (fun s A B row ⟨last, g1, g2⟩ hg hr => ⟨last, g1, boxed_own _ _ (fun _ : Unit => .int .i64 last) () A B row g2 hg (fun r e => (hr r e).2)⟩))
      (OwnFrom.and (fun s A B row hs hg hr => hs.grown hg (fun e => by have := (hr _ e.symm).1; omega)) (ownFrom_below (Nat.le_refl _) (by omega))))
    (fun c s A B row ⟨g1, g2, g3, g4⟩ hg hr => ⟨g1, boxed_own _ _ (fun _ : Unit => .bool true) () A B row g2 hg (fun r e => (hr r e).2), g3, ownFrom_below (β := Unit) (B := W5.heap.size) (Nat.le_refl _) (by omega) () A B row g4 hg hr⟩)
    ⟨⟨⟨r0, r5⟩, -1, rfl, r6⟩, hmK, hB5⟩
    (fun x => { tmps := #[.slice ao base.length cap, .slice ao2 l.length cap2, undef, undef, .pointer (some ⟨w.heap.size, 0, none⟩), .pointer (some ⟨w3.heap.size, 0, none⟩), .pointer (some ⟨w3.heap.size + 1, 0, none⟩), .int .i64 x.1, undef, undef,
        .slice ao base.length cap, .slice (some ⟨w.heap.size + 1, 0, none⟩) 1 1, .func (.func 169) #[] #[.pointer (some ⟨w.heap.size + 1 + 1, 0, none⟩)], .map (some K), .slice ao2 l.length cap2, .slice (some ⟨w3.heap.size + 1 + 1, 0, none⟩) 1 1, .func (.func 169) #[] #[.pointer (some ⟨w3.heap.size + 1 + 1 + 1, 0, none⟩)], .int .i64 x.1, undef, undef, undef, undef, undef, undef, undef, undef, undef, undef, undef, undef], defers := [] }) ?assign ?body ?done ?stop
  case assign =>
    intro l x W K hK
    gi_wp2
    exact hK
  case body =>
    rintro l0 pre x W ⟨⟨⟨hb0, hb5⟩, last, hl, hb6⟩, hmW, hB⟩ hlt
    have c0 := hb0.cell
    have f0 := hb0.frozen
    have c5 := hb5.cell
    have c6 := hb6.cell
    have f6 := hb6.frozen
    have hlk := hmW.lookOk Tryz.underlying3 Tryz.underlying184 (zero_int W) x.2
    rw [hp.has, hp.val] at hlk
    have hsc := scanL_snoc (i := x.1) hl
    have HB := Lib.hid (And.intro hB (And.intro hb0 (And.intro hb5 (And.intro hb6 hmW))))
    have HV : Hid (vals (pre ++ [x]) = vals pre ++ [x.1]) := Lib.hid (by unfold vals; simp)
    clear hb0 hb5 hb6 hmW hB hl hlt hs hs5 hin5 hls5 hB2 hB3 hB35 hB5 hb3 h1 h2 hx hmK hm r0 r5 r6 r7 r8 hz5
    by_cases hmem : x.1 ∈ ids base
    · rw [decide_eq_true hmem, if_pos hmem] at hlk
      rw [if_pos hmem] at hsc
      clear hmem hp
      generalize (((ids base).idxOf x.1 : Nat) : Int) = z at *
      by_cases hlz : z < last
      · rw [if_pos hlz] at hsc
        have HS := Lib.hid hsc
        clear hsc
        gi_wp2
        obtain ⟨hB, hb0, hb5, hb6, hmW⟩ := HB.out
        exact ⟨(KeepsOthers.setCell _ _ _).from _, rfl, hb0.set _, by show scanL (ids base) (-1) (vals (pre ++ [x])) = _; rw [HV.out]; exact HS.out, hB.setCell (p := ⟨w.heap.size, 0, none⟩) (Nat.le_refl _) _⟩
      · rw [if_neg hlz] at hsc
        have HS := Lib.hid hsc
        clear hsc
        gi_wp2
        obtain ⟨hB, hb0, hb5, hb6, hmW⟩ := HB.out
        exact ⟨(KeepsOthers.setCell _ _ _).from _, fun k hk hf => Below.heap_setCell _ _ _ _ (fun e => hf e), ⟨⟨⟨hb0.other (by omega) _, hb5.other (by omega) _⟩, z, by show scanL (ids base) (-1) (vals (pre ++ [x])) = _; rw [HV.out]; exact HS.out, hb6.set _⟩, hmW.setCell _ (by simp; omega), hB.setCell (p := ⟨w3.heap.size + 1, 0, none⟩) (by simp; omega) _⟩⟩
    · rw [decide_eq_false hmem, if_neg hmem] at hlk
      rw [if_neg hmem] at hsc
      have HS := Lib.hid hsc
      clear hsc hmem hp
      gi_wp2
      obtain ⟨hB, hb0, hb5, hb6, hmW⟩ := HB.out
      exact ⟨KeepsFrom.refl _ _, fun k hk hf => rfl, ⟨⟨⟨hb0, hb5⟩, last, by show scanL (ids base) (-1) (vals (pre ++ [x])) = _; rw [HV.out]; exact HS.out, hb6⟩, hmW, hB⟩⟩
  case done =>
    rintro D ys W hD rfl ⟨⟨⟨hb0, hb5⟩, last, hl, hb6⟩, hmW, hB⟩ hK
    have c0 := hb0.cell
    have f0 := hb0.frozen
    have hmv := scanL_moved (ids base) (vals ys) (-1)
    rw [hl, hx] at hmv
    gi_wp2
    have hb1 := (hb0.set (.bool false)).kept (grownBy_putObj' _ D (.deferred none)) (fun e => by cases e; omega)
    have hK1 := (KeepsOthers.setCell W ⟨w.heap.size, 0, none⟩ (.bool false)).same D _ hK rfl
    have hc1 := hb1.cell
    have hBf := (hB.setCell (p := ⟨w.heap.size, 0, none⟩) (Nat.le_refl _) (.bool false)).trans (belowK_b (w := w) (Nat.le_refl _) _ D _ (.deferred none) (by omega) hK1 rfl rfl)
    rw [noGoto_ret]
    refine ⟨by simp, .inl ⟨_, _, rfl, run_takeDeferred hK1, ?_⟩⟩
    exact ⟨.bool false, by simp [results, Tryz.results137, go_sem, hc1], ret_false hmv, hBf⟩
  case stop =>
    rintro D c pre W hD hpre ⟨rfl, hb0, hsc, hB⟩ hK
    have hmv := scanL_moved (ids base) (vals xs) (-1)
    rw [scanL_prefix (List.IsPrefix.map _ hpre) hsc, hx] at hmv
    have hb1 := hb0.kept (grownBy_putObj' _ D (.deferred none)) (fun e => by cases e; omega)
    have hc1 := hb1.cell
    have hBf := hB.trans (belowK_b (w := w) (Nat.le_refl _) _ D _ (.deferred none) (by omega) hK rfl rfl)
    gi_wp2
    rw [noGoto_ret]
    refine ⟨by simp, .inl ⟨_, _, rfl, run_takeDeferred hK, ?_⟩⟩
    exact ⟨.bool true, by simp [results, Tryz.results137, go_sem, hc1], ret_true hmv, hBf⟩
theorem moved_any {mem : Addr → Option Value} {v u : Value} {base l : List Blk} (h1 : BlksM mem v base) (h2 : BlksM mem u l) (hl1 : base.length ≤ 100000) (w : World) (hs : Sees mem w) :
    Calls Tryz.prog 137 #[v, u] w fun e w' => e = .returned (.bool (movedL (ids base) (-1) (ids l))) ∧ Below w.heap.size w w' := callsIn_wide.1 (moved_wide 5 h1 h2 hl1 w hs)
end Go.Proofs.YtdkkhmjlamkgdaaGreatDoor
namespace Go.Proofs.YtdkkhmjlamkgdaaGreatDoor
open Go.RowKit Mg Go.Shelf

def PreOK (l : List Blk) (k : Nat) : Prop := (∀ b ∈ l.take k, validBlk b = true) ∧ (ids (l.take k)).Nodup
theorem PreOK.zero (l : List Blk) : PreOK l 0 := ⟨by simp, by simp⟩
theorem PreOK.succ {l : List Blk} {k : Nat} (hk : k < l.length) (h : PreOK l k) (hv : validBlk l[k] = true) (hn : ∀ j (hj : j < k), l[j].id ≠ l[k].id) : PreOK l (k + 1) := by
  refine (valid_take k hk).2 ⟨h, hv, fun hm => ?_⟩
  obtain ⟨b, hb, e⟩ := List.mem_map.1 hm
  obtain ⟨j, hj, rfl⟩ := List.getElem_of_mem hb
  rw [List.length_take] at hj
  rw [List.getElem_take] at e
  exact hn j (by omega) e
theorem validL_bad {l : List Blk} {k : Nat} (hk : k < l.length) (hv : validBlk l[k] = false) : ¬ ValidL l := fun h => by
  have := h.2.1 l[k] (List.getElem_mem hk); rw [hv] at this; cases this
theorem validL_twice {l : List Blk} {j k : Nat} (hj : j < k) (hk : k < l.length) (e : l[j].id = l[k].id) : ¬ ValidL l := fun h => by
  have := (List.pairwise_iff_getElem.1 h.2.2) j k (by simp; omega) (by simpa using hk) hj
  simp at this
  exact this e
theorem validL_all {l : List Blk} (h : l.length ≤ 24) (hp : PreOK l l.length) : ValidL l := by
  unfold PreOK at hp
  rw [List.take_length] at hp
  exact ⟨h, hp⟩
set_option maxRecDepth 10000 in
set_option maxHeartbeats 4000000 in
theorem validList_any {mem : Addr → Option Value} {v : Value} {l : List Blk} (h : BlksM mem v l) (w : World) (hs : Sees mem w) :
    Calls Tryz.prog 130 #[v] w fun e w' => e = .returned (.bool (decide (ValidL l))) ∧ Below w.heap.size w w' := by
  obtain ⟨ao, cap, b, o, rfl, hcap, hm, hao, hblks⟩ := h.open_
  have HAO := Lib.hid hao
  have HB := Lib.hid hblks
  have HS := Lib.hid hs
  have hlen : (l.length : Int) ≤ 9223372036854775807 := by unfold maxLen at hm; omega
  clear h hao hblks hs
  by_cases h24 : l.length ≤ 24
  · have HOK : Hid (PreOK l l.length → decide (ValidL l) = true) := Lib.hid (fun h => decide_eq_true (validL_all h24 h))
    go_enter Tryz.func130, Tryz.ntmps130
    go_wp2_with fail
    refine (rules_any w).mono ?_
    rintro e w1 ⟨rfl, hM, hb1⟩
    have hlt1 := hM.lt
    have HM := Lib.hid hM
    have HS1 := Lib.hid (HS.out.bel hb1)
    clear hM
    go_wp2_with fail
    go_loopw [14] (fun i wr => ∃ k : Nat, k ≤ l.length ∧ i = .int .i64 k ∧ Below w1.heap.size w1 wr ∧ Hid (PreOK l k)) (fun i _ => l.length - (intOf i).toNat)
    case atStart => exact ⟨0, Nat.zero_le _, rfl, Below.refl _ _, Lib.hid (PreOK.zero l)⟩
    case round =>
      obtain ⟨k, hk, rfl, hb, hp⟩ := hrel
      obtain ⟨wo, rfl⟩ : ∃ wo, wo = wr := ⟨_, rfl⟩
      have hB : Below w.heap.size w wo := hb1.trans (hb.mono hb1.size)
      by_cases hlt : k < l.length
      · obtain ⟨⟨t1, t2, _⟩, lo, lc, hi, hc9⟩ := (HB.out k hlt).nine (HS1.out.bel hb)
        obtain rfl := HAO.out (by omega)
        have hbl : b < w1.heap.size := World.block_lt_of_cell? w1 _ (((HB.out k hlt).nine HS1.out).2.choose_spec.choose_spec.2.c0)
        have HC9 := Lib.hid hc9
        obtain ⟨c0, c1, c2, c3, c4, c5, c6, c7, c8⟩ := hc9
        have HF : Hid (∀ W, Sees mem W → RMap W w.heap.size → Calls Tryz.prog 166 #[.agg (blkCells l[k] (.slice lo l[k].lab.after.length lc)), .map (some w.heap.size)] W fun e w' => e = .returned (.bool (validBlk l[k])) ∧ Below W.heap.size W w') :=
          Lib.hid (fun W hS hM => follows_any l[k] _ hi t1 t2 _ W hS hM)
        have HNB : Hid (validBlk l[k] = false → decide (ValidL l) = false) := Lib.hid (fun h => decide_eq_false (validL_bad hlt h))
        have HNT : Hid (∀ j (hj : j < k), l[j].id = l[k].id → decide (ValidL l) = false) := Lib.hid (fun j hj e => decide_eq_false (validL_twice hj hlt e))
        have HST : Hid (validBlk l[k] = true → (∀ j (hj : j < k), l[j].id ≠ l[k].id) → PreOK l (k + 1)) := Lib.hid (fun h1 h2 => PreOK.succ hlt hp.out h1 h2)
        have hkc : (k : Int) ≤ cap := by omega
        have HX : Hid (l[k].id = l[k].id) := Lib.hid rfl
        clear hi t1 t2 hp
        generalize hx : l[k] = x at *
        obtain ⟨id, kind, text, story, ref, till, after, appr, denied⟩ := x
        have HXX := Lib.hid hx
        clear hx
        dsimp only at *
        go_wp2_with fail
        obtain ⟨W2, HW2⟩ := named (wo.alloc (.cells (blkCells ⟨id, kind, text, story, ref, ⟨till, after, appr, denied⟩⟩ (.slice lo after.length lc)) 58))
        rw [← HW2.out]
        have hb2 : Below wo.heap.size wo W2 := by rw [HW2.out]; exact (Below.refl _ wo).alloc (Nat.le_refl _) _
        have hz2 : wo.heap.size < W2.heap.size := by rw [HW2.out]; simp
        have hq : W2.cell? ⟨wo.heap.size, 0, none⟩ = some (.int .i64 id) := by rw [HW2.out]; exact cell_new rfl rfl
        have hb12 : Below w1.heap.size w1 W2 := hb.trans (hb2.mono hb.size)
        refine (HF.out W2 (HS1.out.bel hb12) (HM.out.below hb12 hlt1)).mono ?_
        rintro e w3 ⟨rfl, hb3⟩
        replace hq := (hb3.cell (p := ⟨wo.heap.size, 0, none⟩) hz2).trans hq
        have hb13 : Below w1.heap.size w1 w3 := hb12.trans (hb3.mono hb12.size)
        have hB3 : Below w.heap.size w w3 := hb1.trans (hb13.mono hb1.size)
        have hz3 : wo.heap.size < w3.heap.size := Nat.lt_of_lt_of_le hz2 hb3.size
        generalize hV : validBlk ⟨id, kind, text, story, ref, ⟨till, after, appr, denied⟩⟩ = V at *
        clear hV
        cases V with
        | false =>
          have HNB2 := Lib.hid (HNB.out rfl)
          clear HNB HST HNT
          go_wp2_with fail
          go_ret
          exact ⟨ret_false HNB2.out, hB3⟩
        | true =>
          have HST2 := Lib.hid (HST.out rfl)
          clear HNB HST
          go_wp2_with fail
          clear HF hb2 hb3 hb12 hz2 c0 c1 c2 c3 c4 c5 c6 c7 c8
          go_loopw [27] (fun i wi => ∃ j : Nat, j ≤ k ∧ i = .int .i64 j ∧ Below w3.heap.size w3 wi ∧ Hid (∀ m (hm : m < j) (hm2 : m < l.length), l[m].id ≠ id)) (fun i _ => k - (intOf i).toNat)
          case atStart => exact ⟨0, Nat.zero_le _, rfl, Below.refl _ _, Lib.hid (fun m hm => absurd hm (by omega))⟩
          case round =>
            obtain ⟨j, hj, rfl, hbi, hne⟩ := hrel
            have hBi : Below w.heap.size w wr := hB3.trans (hbi.mono hB3.size)
            by_cases hjk : j < k
            · have hjl : j < l.length := by omega
              obtain ⟨_, lo2, lc2, _, d9⟩ := (HB.out j hjl).nine (HS1.out.bel (hb13.trans (hbi.mono hb13.size)))
              obtain ⟨d0, d1, d2, d3, d4, d5, d6, d7, d8⟩ := d9
              have hq2 := (hbi.cell (p := ⟨wo.heap.size, 0, none⟩) hz3).trans hq
              have hz4 : wo.heap.size < wr.heap.size := Nat.lt_of_lt_of_le hz3 hbi.size
              have HEQ : Hid (l[j].id = id → decide (ValidL l) = false) := Lib.hid (fun e => HNT.out j hjk e)
              have HNE : Hid (l[j].id ≠ id → ∀ m (hm : m < j + 1) (hm2 : m < l.length), l[m].id ≠ id) := Lib.hid (fun e m hm hm2 => by
                by_cases h : m = j
                · subst h; exact e
                · exact hne.out m (by omega) hm2)
              clear hne
              generalize l[j] = y at *
              obtain ⟨id2, kind2, text2, story2, ref2, till2, after2, appr2, denied2⟩ := y
              dsimp only at *
              by_cases he : id2 = id
              · have e1 : (id2 == id) = true := by simpa using he
                have HF := Lib.hid (HEQ.out he)
                clear he HEQ HNE
                go_wp2_with fail
                go_ret
                exact ⟨ret_false HF.out, hBi.alloc hBi.size _⟩
              · have e1 : (id2 == id) = false := by simpa using he
                have HF := Lib.hid (HNE.out he)
                clear he HEQ HNE
                go_wp2_with fail
                go_roundw
                case rel => exact ⟨j + 1, by omega, by go_num, hbi.alloc hbi.size _, HF⟩
                case measure => simp [intOf]; omega
            · have e : j = k := by omega
              subst e
              have HP : Hid (PreOK l (j + 1)) := Lib.hid (HST2.out (fun m hm => hne.out m hm (by omega)))
              go_wp2_with fail
              go_roundw
              case rel => exact ⟨j + 1, by omega, by go_num, hb13.trans (hbi.mono hb13.size), HP⟩
              case measure => simp [intOf]; omega
      · have e : k = l.length := by omega
        subst e
        have HF := Lib.hid (HOK.out hp.out)
        go_wp2_with fail
        go_ret
        exact ⟨ret_true HF.out, hB⟩
  · have HF : Hid (decide (ValidL l) = false) := Lib.hid (decide_eq_false (fun h => h24 h.1))
    go_enter Tryz.func130, Tryz.ntmps130
    go_wp2_with fail
    go_ret
    exact ⟨ret_false HF.out, Below.refl _ _⟩
end Go.Proofs.YtdkkhmjlamkgdaaGreatDoor
namespace Go.Proofs.YtdkkhmjlamkgdaaGreatDoor
open Go.RowKit Mg

def headOK (x : Lab) : Prop := 0 ≤ x.till ∧ x.till ≤ 1000000000 ∧ 0 ≤ x.appr ∧ x.appr ≤ 5 ∧ 0 ≤ x.denied ∧ x.denied ≤ 15
end Go.Proofs.YtdkkhmjlamkgdaaGreatDoor
namespace Go.Proofs.YtdkkhmjlamkgdaaGreatDoor
open Go.RowKit Mg Go.Shelf

theorem blk_dec (id kind story ref id2 kind2 story2 ref2 : Int) (text text2 : ByteArray) (lab lab2 : Lab) : decide (({ id := id, kind := kind, text := text, story := story, ref := ref, lab := lab } : Blk) = { id := id2, kind := kind2, text := text2, story := story2, ref := ref2, lab := lab2 }) =
    (decide (id = id2) && (decide (kind = kind2) && (decide (text = text2) && (decide (story = story2) && (decide (ref = ref2) && decide (lab = lab2)))))) := by
  simp only [Blk.mk.injEq, Bool.decide_and]

theorem wp_tail {P : Program} {id : Nat} {Q : Exit → Act → World → Prop} {a : Act} {w : World} {l : List Oper} (n : Nat) (hm : P.follows .mixedOrders = true) (hB : Region.lexTailB .any l.toArray n = true)
    (h : wpStill P l.toArray w.drew (fun a' => wpList P l.toArray Q (l.drop n) a' w.drew) (l.take n) a) : (Code.region id l.toArray true).wp P Q a w :=
  wp_region_still_tail n hm hB h

set_option maxRecDepth 10000 in
set_option maxHeartbeats 4000000 in
theorem same_any {mem : Addr → Option Value} (x y : Blk) (av bv : Value) (h1 : IntsM mem av x.lab.after) (h2 : IntsM mem bv y.lab.after) (w : World) (hs : Sees mem w) :
    Calls Tryz.prog 57 #[.agg (blkCells x av), .agg (blkCells y bv)] w fun e w' => e = .returned (.bool (decide (x = y))) ∧ Below w.heap.size w w' := by
  obtain ⟨id, kind, text, story, ref, lab⟩ := x
  obtain ⟨id2, kind2, text2, story2, ref2, lab2⟩ := y
  dsimp only at h1 h2
  have HL := Lib.hid (fun W hW => labSame_any lab lab2 _ _ h1 h2 W hW)
  obtain ⟨ao, cap, rfl⟩ := h1.slice
  obtain ⟨ao2, cap2, rfl⟩ := h2.slice
  have HR := Lib.hid (blk_dec id kind story ref id2 kind2 story2 ref2 text text2 lab lab2)
  have hB0 : ∀ o o', Below w.heap.size w ((w.alloc o).alloc o') := fun o o' => ((Below.refl _ w).alloc (Nat.le_refl _) _).alloc (by simp) _
  have HB0 := Lib.hid hB0
  have HS := Lib.hid hs
  clear hB0 h1 h2 hs
  by_cases e1 : id = id2
  · subst e1
    by_cases e2 : kind = kind2
    · subst e2
      by_cases e3 : text = text2
      · subst e3
        by_cases e4 : story = story2
        · subst e4
          by_cases e5 : ref = ref2
          · subst e5
            go_enter Tryz.func57, Tryz.ntmps57
            go_wp2_with fail
            refine (HL.out _ ((HS.out.alloc _).alloc _)).mono ?_
            rintro e w1 ⟨rfl, hb⟩
            have hB := (HB0.out _ _).trans (hb.mono (by simp <;> omega))
            generalize decide (lab = lab2) = q at *
            cases q with
            | false =>
              go_wp2_with fail
              go_ret
              exact ⟨ret_false (by rw [HR.out]; simp), hB⟩
            | true =>
              go_wp2_with fail
              go_ret
              exact ⟨ret_true (by rw [HR.out]; simp), hB⟩
          · have n : (ref == ref2) = false := by simpa using e5
            have E := Lib.hid e5
            clear e5
            go_enter Tryz.func57, Tryz.ntmps57
            go_wp2_with fail
            go_ret
            exact ⟨ret_false (by first | (rw [HR.out, decide_eq_false E.out]; simp; done) | (rw [decide_eq_false E.out]; simp; done) | (rw [decide_eq_false E.out]; done)), HB0.out _ _⟩
        · have n : (story == story2) = false := by simpa using e4
          have E := Lib.hid e4
          clear e4
          go_enter Tryz.func57, Tryz.ntmps57
          go_wp2_with fail
          go_ret
          exact ⟨ret_false (by first | (rw [HR.out, decide_eq_false E.out]; simp; done) | (rw [decide_eq_false E.out]; simp; done) | (rw [decide_eq_false E.out]; done)), HB0.out _ _⟩
      · have n : (text.toList == text2.toList) = false := by
          simp only [beq_eq_false_iff_ne, ne_eq, ByteArray.toList_eq]
          intro e
          exact e3 (str_ext e)
        have E := Lib.hid e3
        clear e3
        go_enter Tryz.func57, Tryz.ntmps57
        go_wp2_with fail
        go_ret
        exact ⟨ret_false (by first | (rw [HR.out, decide_eq_false E.out]; simp; done) | (rw [decide_eq_false E.out]; simp; done) | (rw [decide_eq_false E.out]; done)), HB0.out _ _⟩
    · have n : (kind == kind2) = false := by simpa using e2
      have E := Lib.hid e2
      clear e2
      go_enter Tryz.func57, Tryz.ntmps57
      go_wp2_with fail
      go_ret
      exact ⟨ret_false (by first | (rw [HR.out, decide_eq_false E.out]; simp; done) | (rw [decide_eq_false E.out]; simp; done) | (rw [decide_eq_false E.out]; done)), HB0.out _ _⟩
  · have n : (id == id2) = false := by simpa using e1
    have E := Lib.hid e1
    clear e1
    go_enter Tryz.func57, Tryz.ntmps57
    go_wp2_with fail
    go_ret
    exact ⟨ret_false (by first | (rw [HR.out, decide_eq_false E.out]; simp; done) | (rw [decide_eq_false E.out]; simp; done) | (rw [decide_eq_false E.out]; done)), HB0.out _ _⟩

set_option maxRecDepth 10000 in
set_option maxHeartbeats 4000000 in
theorem equalFunc_any {mem : Addr → Option Value} {v u : Value} {l m : List Blk} (h1 : BlksM mem v l) (h2 : BlksM mem u m) (w : World) (hs : Sees mem w) :
    Calls Tryz.prog 56 #[v, u, .func (.func 57) #[] #[]] w fun e w' => e = .returned (.bool (decide (l = m))) ∧ Below w.heap.size w w' := by
  obtain ⟨ao, cap, b, o, rfl, hcap, hm, hao, hblks⟩ := h1.open_
  obtain ⟨ao2, cap2, b2, o2, rfl, hcap2, hm2, hao2, hblks2⟩ := h2.open_
  have HA := Lib.hid hao
  have HA2 := Lib.hid hao2
  have HB := Lib.hid hblks
  have HB2 := Lib.hid hblks2
  have HS := Lib.hid hs
  have hlen : (l.length : Int) ≤ 9223372036854775807 := by unfold maxLen at hm; omega
  have hlen2 : (m.length : Int) ≤ 9223372036854775807 := by unfold maxLen at hm2; omega
  clear h1 h2 hao hao2 hblks hblks2 hs hcap hcap2 hm hm2
  by_cases hl : l.length = m.length
  · have HL := Lib.hid hl
    rw [← hl]
    clear hl
    go_enter Tryz.func56, Tryz.ntmps56
    go_wp2_with fail
    go_loopw [17] (fun i wr => ∃ k : Nat, k ≤ l.length ∧ i = .int .i64 k ∧ Below w.heap.size w wr ∧ Hid (l.take k = m.take k)) (fun i _ => l.length - (intOf i).toNat)
    case atStart => exact ⟨0, Nat.zero_le _, rfl, Below.refl _ _, Lib.hid rfl⟩
    case round =>
      obtain ⟨k, hk, rfl, hb, ht⟩ := hrel
      by_cases hlt : k < l.length
      · have hlt2 : k < m.length := by rw [← HL.out]; exact hlt
        obtain ⟨hp1, lo, lc, hi, c9⟩ := (HB.out k hlt).nine (HS.out.bel hb)
        obtain ⟨hp2, lo2, lc2, hi2, d9⟩ := (HB2.out k hlt2).nine (HS.out.bel hb)
        obtain rfl := HA.out (by omega)
        obtain rfl := HA2.out (by omega)
        obtain ⟨c0, c1, c2, c3, c4, c5, c6, c7, c8⟩ := c9
        obtain ⟨d0, d1, d2, d3, d4, d5, d6, d7, d8⟩ := d9
        have hbl : b < wr.heap.size := World.block_lt_of_cell? wr _ c0
        have hbl2 : b2 < wr.heap.size := World.block_lt_of_cell? wr _ d0
        have HI := Lib.hid (And.intro hi hi2)
        have HE : Hid (l[k] = m[k] → l.take (k + 1) = m.take (k + 1)) := Lib.hid (take_step hlt hlt2 ht.out)
        have HN : Hid (l[k] ≠ m[k] → decide (l = m) = false) := Lib.hid (fun e => decide_eq_false (ne_of_get hlt hlt2 e))
        have hk0 : (0 : Int) ≤ k := by omega
        have hk1 : (k : Int) < l.length := by omega
        clear ht hi hi2 hp1 hp2
        generalize l[k] = x at *
        generalize m[k] = y at *
        have HC : Hid (∀ W, Sees mem W → Calls Tryz.prog 57 #[.agg (blkCells x (.slice lo x.lab.after.length lc)), .agg (blkCells y (.slice lo2 y.lab.after.length lc2))] W fun e w' => e = .returned (.bool (decide (x = y))) ∧ Below W.heap.size W w') :=
          Lib.hid (fun W hW => same_any x y _ _ HI.out.1 HI.out.2 W hW)
        have HC9 : Hid (decide (x = y) = true → x = y) := Lib.hid of_decide_eq_true
        have HC8 : Hid (decide (x = y) = false → x ≠ y) := Lib.hid of_decide_eq_false
        generalize hq : decide (x = y) = q at *
        clear hq HI
        go_wp2_with fail
        obtain ⟨W2, HW2⟩ := named ((wr.alloc (.cells (blkCells x (.slice lo x.lab.after.length lc)) 58)).alloc (.cells (blkCells y (.slice lo2 y.lab.after.length lc2)) 58))
        rw [← HW2.out]
        have hb2 : Below w.heap.size w W2 := by rw [HW2.out]; exact (hb.alloc hb.size _).alloc (by have := hb.size; simp; omega) _
        refine (HC.out W2 (HS.out.bel hb2)).mono ?_
        rintro e w3 ⟨rfl, hb3⟩
        have hB3 : Below w.heap.size w w3 := hb2.trans (hb3.mono hb2.size)
        clear hb3 hb2 c0 c1 c2 c3 c4 c5 c6 c7 c8 d0 d1 d2 d3 d4 d5 d6 d7 d8
        cases q with
        | true =>
          have HE2 := Lib.hid (HE.out (HC9.out rfl))
          clear HE HN HC9 HC8
          go_wp2_with fail
          go_roundw
          case rel => exact ⟨k + 1, by omega, by go_num, hB3, HE2⟩
          case measure => simp [intOf]; omega
        | false =>
          have HN2 := Lib.hid (HN.out (HC8.out rfl))
          clear HE HN HC9 HC8
          go_wp2_with fail
          go_ret
          exact ⟨ret_false HN2.out, hB3⟩
      · have e : k = l.length := by omega
        subst e
        have HF : Hid (decide (l = m) = true) := Lib.hid (decide_eq_true (eq_full HL.out ht.out))
        go_wp2_with fail
        go_ret
        exact ⟨ret_true HF.out, hb⟩
  · have HNE : Hid (decide (l = m) = false) := Lib.hid (decide_eq_false (fun e => hl (by rw [e])))
    have hne : decide (l.length = m.length) = false := decide_eq_false hl
    go_enter Tryz.func56, Tryz.ntmps56
    go_wp2_with fail
    all_goals first
      | (go_ret
         exact ⟨ret_false HNE.out, Below.refl _ _⟩)
      | (exfalso; simp_all; done)

theorem sameList_any {mem : Addr → Option Value} {v u : Value} {l m : List Blk} (h1 : BlksM mem v l) (h2 : BlksM mem u m) (w : World) (hs : Sees mem w) :
    Calls Tryz.prog 30 #[v, u] w fun e w' => e = .returned (.bool (decide (l = m))) ∧ Below w.heap.size w w' := by
  have HC := Lib.hid (equalFunc_any h1 h2 w hs)
  obtain ⟨ao, cap, rfl⟩ := h1.slice
  obtain ⟨ao2, cap2, rfl⟩ := h2.slice
  clear h1 h2 hs
  go_enter Tryz.func30, Tryz.ntmps30
  go_wp2_with fail
  refine HC.out.mono ?_
  rintro e w1 ⟨rfl, hb⟩
  go_wp2_with fail
  go_ret
  exact ⟨rfl, hb⟩

end Go.Proofs.YtdkkhmjlamkgdaaGreatDoor
namespace Go.Proofs.YtdkkhmjlamkgdaaGreatDoor
open Go.RowKit Mg Go.Shelf

def zeroEnt : Value := .agg #[.int .i64 0, .int .i64 0, .string .empty, .int .i64 0, .int .i64 0, .int .i64 0, .slice none 0 0, .int .i64 0, .int .i64 0, .bool false]
def entAgg (x : Blk) (av : Value) : Value := .agg #[.int .i64 x.id, .int .i64 x.kind, .string x.text, .int .i64 x.story, .int .i64 x.ref, .int .i64 x.lab.till, av, .int .i64 x.lab.appr, .int .i64 x.lab.denied, .bool true]
def EntV (mem : Addr → Option Value) (v : Value) : Option Blk → Prop
  | none => v = zeroEnt
  | some x => ∃ ao cap, IntsM mem (.slice ao x.lab.after.length cap) x.lab.after ∧ v = entAgg x (.slice ao x.lab.after.length cap)
theorem EntV.form {mem : Addr → Option Value} {v : Value} {o : Option Blk} (h : EntV mem v o) : ∃ (i0 i1 : Int) (t : ByteArray) (i3 i4 i5 : Int) (ao : Option Addr) (n cap : Nat) (i7 i8 : Int),
    v = .agg #[.int .i64 i0, .int .i64 i1, .string t, .int .i64 i3, .int .i64 i4, .int .i64 i5, .slice ao n cap, .int .i64 i7, .int .i64 i8, .bool o.isSome] := by
  cases o with
  | none => exact ⟨_, _, _, _, _, _, _, _, _, _, _, h⟩
  | some x => obtain ⟨ao, cap, _, rfl⟩ := h; exact ⟨_, _, _, _, _, _, _, _, _, _, _, rfl⟩
theorem EntV.mono {mem mem' : Addr → Option Value} {v : Value} {o : Option Blk} (h : EntV mem v o) (hm : ∀ a u, mem a = some u → mem' a = some u) : EntV mem' v o := by
  cases o with
  | none => exact h
  | some x => obtain ⟨ao, cap, h1, h2⟩ := h; exact ⟨ao, cap, h1.mono hm, h2⟩
theorem field_some (i0 i1 i3 i4 i5 i7 i8 : Int) (t : ByteArray) (ao : Option Addr) (n cap : Nat) (b : Bool) (w : World) : (Instr.field 180 (.agg #[.int .i64 i0, .int .i64 i1, .string t, .int .i64 i3, .int .i64 i4, .int .i64 i5, .slice ao n cap, .int .i64 i7, .int .i64 i8, .bool b]) 1).run Tryz.prog w = .ok (.bool b) w := by kernel_rfl
theorem field_block (i0 i1 i3 i4 i5 i7 i8 : Int) (t : ByteArray) (ao : Option Addr) (n cap : Nat) (b : Bool) (w : World) : (Instr.field 180 (.agg #[.int .i64 i0, .int .i64 i1, .string t, .int .i64 i3, .int .i64 i4, .int .i64 i5, .slice ao n cap, .int .i64 i7, .int .i64 i8, .bool b]) 0).run Tryz.prog w = .ok (.agg #[.int .i64 i0, .int .i64 i1, .string t, .int .i64 i3, .int .i64 i4, .int .i64 i5, .slice ao n cap, .int .i64 i7, .int .i64 i8]) w := by kernel_rfl
theorem zero_ent (w : World) : (zeroValue 180).run Tryz.prog w = .ok zeroEnt w := Tryz.zeroValue180 w

set_option maxRecDepth 10000 in
set_option maxHeartbeats 2000000 in
theorem mequal_any {mem : Addr → Option Value} {v u : Value} {a b : Option Blk} (h1 : EntV mem v a) (h2 : EntV mem u b) (w : World) (hs : Sees mem w) :
    Calls Tryz.prog 167 #[v, u] w fun e w' => e = .returned (.bool (decide (a = b))) ∧ Below w.heap.size w w' := by
  have hB0 : ∀ o o', Below w.heap.size w ((w.alloc o).alloc o') := fun o o' => ((Below.refl _ w).alloc (Nat.le_refl _) _).alloc (by simp) _
  have HB0 := Lib.hid hB0
  clear hB0
  cases a with
  | none =>
    obtain rfl : v = zeroEnt := h1
    unfold zeroEnt
    cases b with
    | none =>
      obtain rfl : u = zeroEnt := h2
      unfold zeroEnt
      go_enter Tryz.func167, Tryz.ntmps167
      go_wp2_with fail
      go_ret
      exact ⟨ret_true (by simp), HB0.out _ _⟩
    | some y =>
      obtain ⟨ao, cap, _, rfl⟩ := h2
      unfold entAgg
      go_enter Tryz.func167, Tryz.ntmps167
      go_wp2_with fail
      go_ret
      exact ⟨ret_false (by simp), HB0.out _ _⟩
  | some x =>
    obtain ⟨ao, cap, hi, rfl⟩ := h1
    cases b with
    | none =>
      obtain rfl : u = zeroEnt := h2
      unfold entAgg zeroEnt
      go_enter Tryz.func167, Tryz.ntmps167
      go_wp2_with fail
      go_ret
      exact ⟨ret_false (by simp), HB0.out _ _⟩
    | some y =>
      obtain ⟨ao2, cap2, hi2, rfl⟩ := h2
      have HC := Lib.hid (fun W hW => same_any x y _ _ hi hi2 W hW)
      have HE : Hid (decide (some x = some y) = decide (x = y)) := Lib.hid (by simp)
      have HS := Lib.hid hs
      clear hi hi2 hs
      unfold entAgg
      go_enter Tryz.func167, Tryz.ntmps167
      go_wp2_with fail
      refine (HC.out _ ((HS.out.alloc _).alloc _)).mono ?_
      rintro e w1 ⟨rfl, hb⟩
      have hB := (HB0.out _ _).trans (hb.mono (by simp <;> omega))
      generalize decide (x = y) = q at *
      go_wp2_with fail
      go_ret
      exact ⟨ret_bool (by first | rfl | exact HE.out.symm | simp [HE.out]), hB⟩

def ChoosePost (mem : Addr → Option Value) (r : Option Blk × Bool) (w : World) (e : Ending) (w' : World) : Prop := ∃ v, e = .returned (.tuple #[v, .bool r.2]) ∧ EntV mem v r.1 ∧ Below w.heap.size w w'

set_option maxRecDepth 100000 in
set_option maxHeartbeats 8000000 in
theorem choose_any {mem : Addr → Option Value} {xv yv zv : Value} {x y z : Option Blk} (h1 : EntV mem xv x) (h2 : EntV mem yv y) (h3 : EntV mem zv z) (w : World) (hs : Sees mem w) :
    Calls Tryz.prog 133 #[xv, yv, zv] w (ChoosePost mem (pick x y z) w) := by
  have hzs : z.isSome = z.isSome := rfl
  have HQ1 := Lib.hid (fun W hW => mequal_any h2 h1 W hW)
  have HQ2 := Lib.hid (fun W hW => mequal_any h3 h1 W hW)
  have HQ3 := Lib.hid (fun W hW => mequal_any h3 h2 W hW)
  have HY := Lib.hid h2
  have HZ := Lib.hid h3
  have HP : Hid (pick x y z = if y = x then (z, false) else if z = x ∨ z = y then (y, false) else if z.isSome then (z, true) else (y, true)) := Lib.hid rfl
  obtain ⟨x0, x1, xt, x3, x4, x5, xa, xn, xc, x7, x8, rfl⟩ := h1.form
  obtain ⟨y0, y1, yt, y3, y4, y5, ya, yn, yc, y7, y8, rfl⟩ := h2.form
  obtain ⟨z0, z1, zt, z3, z4, z5, za, zn, zc, z7, z8, rfl⟩ := h3.form
  have HS := Lib.hid hs
  clear h1 h2 h3 hs hzs
  generalize hxs : x.isSome = xs at *
  generalize hys : y.isSome = ys at *
  generalize hzs : z.isSome = zs at *
  clear hxs hys
  go_enter Tryz.func133, Tryz.ntmps133
  go_wp2_with fail
  obtain ⟨W1, HW1⟩ := named ((((w.alloc (.cells #[.int .i64 x0, .int .i64 x1, .string xt, .int .i64 x3, .int .i64 x4, .int .i64 x5, .slice xa xn xc, .int .i64 x7, .int .i64 x8, .bool xs] 180)).alloc (.cells #[.int .i64 y0, .int .i64 y1, .string yt, .int .i64 y3, .int .i64 y4, .int .i64 y5, .slice ya yn yc, .int .i64 y7, .int .i64 y8, .bool ys] 180)).alloc (.cells #[.int .i64 z0, .int .i64 z1, .string zt, .int .i64 z3, .int .i64 z4, .int .i64 z5, .slice za zn zc, .int .i64 z7, .int .i64 z8, .bool zs] 180)).alloc (.cells #[.int .i64 0, .int .i64 0, .string ⟨#[]⟩, .int .i64 0, .int .i64 0, .int .i64 0, .slice none 0 0, .int .i64 0, .int .i64 0, .bool false] 180))
  rw [← HW1.out]
  have hb1 : Below w.heap.size w W1 := by rw [HW1.out]; exact ((((Below.refl _ w).alloc (Nat.le_refl _) _).alloc (by simp) _).alloc (by simp; omega) _).alloc (by simp; omega) _
  have hz1 : W1.heap.size = w.heap.size + 4 := by rw [HW1.out]; simp
  have bx : W1.heap[w.heap.size]? = some (.cells #[.int .i64 x0, .int .i64 x1, .string xt, .int .i64 x3, .int .i64 x4, .int .i64 x5, .slice xa xn xc, .int .i64 x7, .int .i64 x8, .bool xs] 180 (0, 0)) := by rw [HW1.out, Below.heap_alloc _ _ _ (by simp <;> omega), Below.heap_alloc _ _ _ (by simp <;> omega), Below.heap_alloc _ _ _ (by simp)]; exact World.alloc_heap_new w _
  have bY : W1.heap[w.heap.size + 1]? = some (.cells #[.int .i64 y0, .int .i64 y1, .string yt, .int .i64 y3, .int .i64 y4, .int .i64 y5, .slice ya yn yc, .int .i64 y7, .int .i64 y8, .bool ys] 180 (0, 0)) := by
    rw [HW1.out, Below.heap_alloc _ _ _ (by simp <;> omega), Below.heap_alloc _ _ _ (by simp)]
    have := World.alloc_heap_new (w.alloc (.cells #[.int .i64 x0, .int .i64 x1, .string xt, .int .i64 x3, .int .i64 x4, .int .i64 x5, .slice xa xn xc, .int .i64 x7, .int .i64 x8, .bool xs] 180)) (.cells #[.int .i64 y0, .int .i64 y1, .string yt, .int .i64 y3, .int .i64 y4, .int .i64 y5, .slice ya yn yc, .int .i64 y7, .int .i64 y8, .bool ys] 180); rwa [World.size_alloc] at this
  have bz : W1.heap[w.heap.size + 2]? = some (.cells #[.int .i64 z0, .int .i64 z1, .string zt, .int .i64 z3, .int .i64 z4, .int .i64 z5, .slice za zn zc, .int .i64 z7, .int .i64 z8, .bool zs] 180 (0, 0)) := by
    rw [HW1.out, Below.heap_alloc _ _ _ (by simp)]
    have := World.alloc_heap_new ((w.alloc (.cells #[.int .i64 x0, .int .i64 x1, .string xt, .int .i64 x3, .int .i64 x4, .int .i64 x5, .slice xa xn xc, .int .i64 x7, .int .i64 x8, .bool xs] 180)).alloc (.cells #[.int .i64 y0, .int .i64 y1, .string yt, .int .i64 y3, .int .i64 y4, .int .i64 y5, .slice ya yn yc, .int .i64 y7, .int .i64 y8, .bool ys] 180)) (.cells #[.int .i64 z0, .int .i64 z1, .string zt, .int .i64 z3, .int .i64 z4, .int .i64 z5, .slice za zn zc, .int .i64 z7, .int .i64 z8, .bool zs] 180); rwa [World.size_alloc, World.size_alloc] at this
  have br : W1.heap[w.heap.size + 3]? = some (.cells #[.int .i64 0, .int .i64 0, .string ⟨#[]⟩, .int .i64 0, .int .i64 0, .int .i64 0, .slice none 0 0, .int .i64 0, .int .i64 0, .bool false] 180 (0, 0)) := by
    rw [HW1.out]
    have := World.alloc_heap_new (((w.alloc (.cells #[.int .i64 x0, .int .i64 x1, .string xt, .int .i64 x3, .int .i64 x4, .int .i64 x5, .slice xa xn xc, .int .i64 x7, .int .i64 x8, .bool xs] 180)).alloc (.cells #[.int .i64 y0, .int .i64 y1, .string yt, .int .i64 y3, .int .i64 y4, .int .i64 y5, .slice ya yn yc, .int .i64 y7, .int .i64 y8, .bool ys] 180)).alloc (.cells #[.int .i64 z0, .int .i64 z1, .string zt, .int .i64 z3, .int .i64 z4, .int .i64 z5, .slice za zn zc, .int .i64 z7, .int .i64 z8, .bool zs] 180)) (.cells #[.int .i64 0, .int .i64 0, .string ⟨#[]⟩, .int .i64 0, .int .i64 0, .int .i64 0, .slice none 0 0, .int .i64 0, .int .i64 0, .bool false] 180); rwa [World.size_alloc, World.size_alloc, World.size_alloc] at this
  have hs1 := HS.out.bel hb1
  have HW := Lib.hid (And.intro hb1 (And.intro hz1 (And.intro bx (And.intro bY (And.intro bz br)))))
  clear HW1 hb1 hz1 bx bY bz br HS
  refine (HQ1.out _ hs1).mono ?_
  rintro e w2 ⟨rfl, hb2⟩
  obtain ⟨hb1, hz1, bx, bY, bz, br⟩ := HW.out
  have hB2 : Below w.heap.size w w2 := hb1.trans (hb2.mono (by omega))
  have hs2 := hs1.bel hb2
  have bx2 := (hb2.block _ (by omega)).trans bx
  have by2 := (hb2.block _ (by omega)).trans bY
  have bz2 := (hb2.block _ (by omega)).trans bz
  have br2 := (hb2.block _ (by omega)).trans br
  have hz2 : w.heap.size + 4 ≤ w2.heap.size := by have := hb2.size; omega
  clear hb1 hz1 bx bY bz br hb2 HW HQ1 hs1
  have HX := Lib.hid bx2
  clear bx2
  generalize hd1 : decide (y = x) = d1 at *
  cases d1 with
  | true =>
    have HF : Hid (pick x y z = (z, false)) := Lib.hid (by rw [HP.out, if_pos (of_decide_eq_true hd1)])
    have hBF := hB2
    clear hd1 HP HQ2 HQ3
    have q0 := blk_cell bz2 0
    have q1 := blk_cell bz2 1
    have q2 := blk_cell bz2 2
    have q3 := blk_cell bz2 3
    have q4 := blk_cell bz2 4
    have q5 := blk_cell bz2 5
    have q6 := blk_cell bz2 6
    have q7 := blk_cell bz2 7
    have q8 := blk_cell bz2 8
    have q9 := blk_cell bz2 9
    simp only [List.getElem?_toArray, List.getElem?_cons_zero, List.getElem?_cons_succ] at q0 q1 q2 q3 q4 q5 q6 q7 q8 q9
    have r0 := blk_cell br2 0
    have r1 := blk_cell br2 1
    have r2 := blk_cell br2 2
    have r3 := blk_cell br2 3
    have r4 := blk_cell br2 4
    have r5 := blk_cell br2 5
    have r6 := blk_cell br2 6
    have r7 := blk_cell br2 7
    have r8 := blk_cell br2 8
    have r9 := blk_cell br2 9
    simp only [List.getElem?_toArray, List.getElem?_cons_zero, List.getElem?_cons_succ] at r0 r1 r2 r3 r4 r5 r6 r7 r8 r9
    have rf := blk_free br2
    clear by2 bz2 br2
    go_wp2_with fail
    refine bodyPost_ret (v := .tuple #[.agg #[.int .i64 z0, .int .i64 z1, .string zt, .int .i64 z3, .int .i64 z4, .int .i64 z5, .slice za zn zc, .int .i64 z7, .int .i64 z8, .bool zs], .bool false]) (by simp [results, Tryz.results133, go_sem, r0, r1, r2, r3, r4, r5, r6, r7, r8, r9]) rfl ?_
    refine ⟨_, by rw [HF.out], by rw [HF.out]; exact HZ.out, ?_⟩
    iterate 10 refine Below.setCell ?_ (by simp <;> omega) _
    exact hBF
  | false =>
    have n1 := of_decide_eq_false hd1
    have HP2 : Hid (pick x y z = if z = x ∨ z = y then (y, false) else if zs = true then (z, true) else (y, true)) := Lib.hid (by rw [HP.out, if_neg n1])
    clear hd1 HP n1
    have bx3 := HX.out
    have p0 := blk_cell bx3 0
    have p1 := blk_cell bx3 1
    have p2 := blk_cell bx3 2
    have p3 := blk_cell bx3 3
    have p4 := blk_cell bx3 4
    have p5 := blk_cell bx3 5
    have p6 := blk_cell bx3 6
    have p7 := blk_cell bx3 7
    have p8 := blk_cell bx3 8
    have p9 := blk_cell bx3 9
    simp only [List.getElem?_toArray, List.getElem?_cons_zero, List.getElem?_cons_succ] at p0 p1 p2 p3 p4 p5 p6 p7 p8 p9
    have q0 := blk_cell bz2 0
    have q1 := blk_cell bz2 1
    have q2 := blk_cell bz2 2
    have q3 := blk_cell bz2 3
    have q4 := blk_cell bz2 4
    have q5 := blk_cell bz2 5
    have q6 := blk_cell bz2 6
    have q7 := blk_cell bz2 7
    have q8 := blk_cell bz2 8
    have q9 := blk_cell bz2 9
    simp only [List.getElem?_toArray, List.getElem?_cons_zero, List.getElem?_cons_succ] at q0 q1 q2 q3 q4 q5 q6 q7 q8 q9
    clear bx3
    go_wp2_with fail
    refine (HQ2.out _ hs2).mono ?_
    rintro e w3 ⟨rfl, hb3⟩
    clear p0 p1 p2 p3 p4 p5 p6 p7 p8 p9 q0 q1 q2 q3 q4 q5 q6 q7 q8 q9
    have hB3 : Below w.heap.size w w3 := hB2.trans (hb3.mono (by omega))
    have hs3 := hs2.bel hb3
    have by3 := (hb3.block _ (by omega)).trans by2
    have bz3 := (hb3.block _ (by omega)).trans bz2
    have br3 := (hb3.block _ (by omega)).trans br2
    have hz3 : w.heap.size + 4 ≤ w3.heap.size := by have := hb3.size; omega
    clear by2 bz2 br2 hb3 HX hB2 hs2 hz2
    generalize hd2 : decide (z = x) = d2 at *
    cases d2 with
    | true =>
      have HF : Hid (pick x y z = (y, false)) := Lib.hid (by rw [HP2.out, if_pos (.inl (of_decide_eq_true hd2))])
      have hBF := hB3
      clear hd2 HP2 HQ2 HQ3
      have q0 := blk_cell by3 0
      have q1 := blk_cell by3 1
      have q2 := blk_cell by3 2
      have q3 := blk_cell by3 3
      have q4 := blk_cell by3 4
      have q5 := blk_cell by3 5
      have q6 := blk_cell by3 6
      have q7 := blk_cell by3 7
      have q8 := blk_cell by3 8
      have q9 := blk_cell by3 9
      simp only [List.getElem?_toArray, List.getElem?_cons_zero, List.getElem?_cons_succ] at q0 q1 q2 q3 q4 q5 q6 q7 q8 q9
      have r0 := blk_cell br3 0
      have r1 := blk_cell br3 1
      have r2 := blk_cell br3 2
      have r3 := blk_cell br3 3
      have r4 := blk_cell br3 4
      have r5 := blk_cell br3 5
      have r6 := blk_cell br3 6
      have r7 := blk_cell br3 7
      have r8 := blk_cell br3 8
      have r9 := blk_cell br3 9
      simp only [List.getElem?_toArray, List.getElem?_cons_zero, List.getElem?_cons_succ] at r0 r1 r2 r3 r4 r5 r6 r7 r8 r9
      have rf := blk_free br3
      clear by3 bz3 br3
      go_wp2_with fail
      refine bodyPost_ret (v := .tuple #[.agg #[.int .i64 y0, .int .i64 y1, .string yt, .int .i64 y3, .int .i64 y4, .int .i64 y5, .slice ya yn yc, .int .i64 y7, .int .i64 y8, .bool ys], .bool false]) (by simp [results, Tryz.results133, go_sem, r0, r1, r2, r3, r4, r5, r6, r7, r8, r9]) rfl ?_
      refine ⟨_, by rw [HF.out], by rw [HF.out]; exact HY.out, ?_⟩
      iterate 10 refine Below.setCell ?_ (by simp <;> omega) _
      exact hBF
    | false =>
      have n2 := of_decide_eq_false hd2
      clear hd2 HQ2
      have p0 := blk_cell by3 0
      have p1 := blk_cell by3 1
      have p2 := blk_cell by3 2
      have p3 := blk_cell by3 3
      have p4 := blk_cell by3 4
      have p5 := blk_cell by3 5
      have p6 := blk_cell by3 6
      have p7 := blk_cell by3 7
      have p8 := blk_cell by3 8
      have p9 := blk_cell by3 9
      simp only [List.getElem?_toArray, List.getElem?_cons_zero, List.getElem?_cons_succ] at p0 p1 p2 p3 p4 p5 p6 p7 p8 p9
      have q0 := blk_cell bz3 0
      have q1 := blk_cell bz3 1
      have q2 := blk_cell bz3 2
      have q3 := blk_cell bz3 3
      have q4 := blk_cell bz3 4
      have q5 := blk_cell bz3 5
      have q6 := blk_cell bz3 6
      have q7 := blk_cell bz3 7
      have q8 := blk_cell bz3 8
      have q9 := blk_cell bz3 9
      simp only [List.getElem?_toArray, List.getElem?_cons_zero, List.getElem?_cons_succ] at q0 q1 q2 q3 q4 q5 q6 q7 q8 q9
      go_wp2_with fail
      refine (HQ3.out _ hs3).mono ?_
      rintro e w4 ⟨rfl, hb4⟩
      clear p0 p1 p2 p3 p4 p5 p6 p7 p8 p9 q0 q1 q2 q3 q4 q5 q6 q7 q8 q9
      have hBF : Below w.heap.size w w4 := hB3.trans (hb4.mono (by omega))
      have by4 := (hb4.block _ (by omega)).trans by3
      have bz4 := (hb4.block _ (by omega)).trans bz3
      have br4 := (hb4.block _ (by omega)).trans br3
      have hz4 : w.heap.size + 4 ≤ w4.heap.size := by have := hb4.size; omega
      clear by3 bz3 br3 hb4 hB3 hs3 hz3
      generalize hd3 : decide (z = y) = d3 at *
      have p0 := blk_cell by4 0
      have p1 := blk_cell by4 1
      have p2 := blk_cell by4 2
      have p3 := blk_cell by4 3
      have p4 := blk_cell by4 4
      have p5 := blk_cell by4 5
      have p6 := blk_cell by4 6
      have p7 := blk_cell by4 7
      have p8 := blk_cell by4 8
      have p9 := blk_cell by4 9
      simp only [List.getElem?_toArray, List.getElem?_cons_zero, List.getElem?_cons_succ] at p0 p1 p2 p3 p4 p5 p6 p7 p8 p9
      have q0 := blk_cell bz4 0
      have q1 := blk_cell bz4 1
      have q2 := blk_cell bz4 2
      have q3 := blk_cell bz4 3
      have q4 := blk_cell bz4 4
      have q5 := blk_cell bz4 5
      have q6 := blk_cell bz4 6
      have q7 := blk_cell bz4 7
      have q8 := blk_cell bz4 8
      have q9 := blk_cell bz4 9
      simp only [List.getElem?_toArray, List.getElem?_cons_zero, List.getElem?_cons_succ] at q0 q1 q2 q3 q4 q5 q6 q7 q8 q9
      have r0 := blk_cell br4 0
      have r1 := blk_cell br4 1
      have r2 := blk_cell br4 2
      have r3 := blk_cell br4 3
      have r4 := blk_cell br4 4
      have r5 := blk_cell br4 5
      have r6 := blk_cell br4 6
      have r7 := blk_cell br4 7
      have r8 := blk_cell br4 8
      have r9 := blk_cell br4 9
      simp only [List.getElem?_toArray, List.getElem?_cons_zero, List.getElem?_cons_succ] at r0 r1 r2 r3 r4 r5 r6 r7 r8 r9
      have rf := blk_free br4
      clear by4 bz4 br4 HQ3
      cases d3 with
      | true =>
        have HF : Hid (pick x y z = (y, false)) := Lib.hid (by rw [HP2.out, if_pos (.inr (of_decide_eq_true hd3))])
        clear hd3 n2 HP2
        go_wp2_with fail
        refine bodyPost_ret (v := .tuple #[.agg #[.int .i64 y0, .int .i64 y1, .string yt, .int .i64 y3, .int .i64 y4, .int .i64 y5, .slice ya yn yc, .int .i64 y7, .int .i64 y8, .bool ys], .bool false]) (by simp [results, Tryz.results133, go_sem, r0, r1, r2, r3, r4, r5, r6, r7, r8, r9]) rfl ?_
        refine ⟨_, by rw [HF.out], by rw [HF.out]; exact HY.out, ?_⟩
        iterate 10 refine Below.setCell ?_ (by simp <;> omega) _
        exact hBF
      | false =>
        have n3 := of_decide_eq_false hd3
        cases zs with
        | true =>
          have HF : Hid (pick x y z = (z, true)) := Lib.hid (by rw [HP2.out, if_neg (fun h => h.elim n2 n3)]; rfl)
          clear hd3 n2 n3 HP2
          go_wp2_with fail
          refine bodyPost_ret (v := .tuple #[.agg #[.int .i64 z0, .int .i64 z1, .string zt, .int .i64 z3, .int .i64 z4, .int .i64 z5, .slice za zn zc, .int .i64 z7, .int .i64 z8, .bool true], .bool true]) (by simp [results, Tryz.results133, go_sem, r0, r1, r2, r3, r4, r5, r6, r7, r8, r9]) rfl ?_
          refine ⟨_, by rw [HF.out], by rw [HF.out]; exact HZ.out, ?_⟩
          iterate 10 refine Below.setCell ?_ (by simp <;> omega) _
          exact hBF
        | false =>
          have HF : Hid (pick x y z = (y, true)) := Lib.hid (by rw [HP2.out, if_neg (fun h => h.elim n2 n3)]; rfl)
          clear hd3 n2 n3 HP2
          go_wp2_with fail
          refine bodyPost_ret (v := .tuple #[.agg #[.int .i64 y0, .int .i64 y1, .string yt, .int .i64 y3, .int .i64 y4, .int .i64 y5, .slice ya yn yc, .int .i64 y7, .int .i64 y8, .bool ys], .bool true]) (by simp [results, Tryz.results133, go_sem, r0, r1, r2, r3, r4, r5, r6, r7, r8, r9]) rfl ?_
          refine ⟨_, by rw [HF.out], by rw [HF.out]; exact HY.out, ?_⟩
          iterate 10 refine Below.setCell ?_ (by simp <;> omega) _
          exact hBF
end Go.Proofs.YtdkkhmjlamkgdaaGreatDoor
namespace Go.Proofs.YtdkkhmjlamkgdaaGreatDoor
open Go.RowKit Mg Go.Shelf

def EMap (mem : Addr → Option Value) (w : World) (b n : Nat) (f : Int → Option Blk) : Prop :=
  ∃ es, IMap Tryz.prog 3 w b es ∧ es.length = n ∧ (∀ i, i ∈ keysL es ↔ (f i).isSome = true) ∧ ∀ i, EntV mem ((getL es i).getD zeroEnt) (f i)
section
variable {mem : Addr → Option Value} {w w' : World} {b n : Nat} {f : Int → Option Blk}
theorem EMap.lt (h : EMap mem w b n f) : b < w.heap.size := by obtain ⟨es, h, _⟩ := h; exact h.lt
theorem EMap.of_block (h : EMap mem w b n f) (e : w'.heap[b]? = w.heap[b]?) : EMap mem w' b n f := by
  obtain ⟨es, h1, h2⟩ := h; exact ⟨es, h1.of_block e, h2⟩
theorem EMap.below {B : Nat} (h : EMap mem w b n f) (hu : Below B w w') (hn : b < B) : EMap mem w' b n f := h.of_block (hu.block _ hn)
theorem EMap.bel (h : EMap mem w b n f) (hu : Below w.heap.size w w') : EMap mem w' b n f := h.below hu h.lt
theorem EMap.alloc (h : EMap mem w b n f) (o : Obj) : EMap mem (w.alloc o) b n f := h.of_block (Below.heap_alloc _ _ _ h.lt)
theorem EMap.setCell (h : EMap mem w b n f) {p : Addr} (u : Value) (hn : b ≠ p.block) : EMap mem (w.setCell p u) b n f := h.of_block (Below.heap_setCell _ _ _ _ hn)
theorem EMap.grown {row : Option Nat} (h : EMap mem w b n f) (hu : w.grownBy w' row) (hn : some b ≠ row) : EMap mem w' b n f := h.of_block (hu.block _ h.lt hn)
theorem EMap.upd {F : Nat → Prop} (h : EMap mem w b n f) (hu : Upd F w w') (hn : ¬ F b) : EMap mem w' b n f := h.of_block (hu.block _ h.lt hn)
theorem EMap.made (mem : Addr → Option Value) (w : World) : EMap mem (w.alloc (.map #[] 0)) w.heap.size 0 (fun _ => none) :=
  ⟨[], IMap.made _ _ w, rfl, fun i => by simp [keysL], fun _ => rfl⟩
theorem EMap.ext {g : Int → Option Blk} (h : EMap mem w b n f) (e : ∀ i, g i = f i) : EMap mem w b n g := by
  obtain ⟨es, h1, h2, h3, h4⟩ := h
  exact ⟨es, h1, h2, fun i => by rw [e]; exact h3 i, fun i => by rw [e]; exact h4 i⟩
theorem EMap.look (h : EMap mem w b n f) {i : Int} (hi : okI i) : ∃ v, (Instr.lookup 177 (.map (some b)) (.int .i64 i) false).run Tryz.prog w = .ok v w ∧ EntV mem v (f i) := by
  obtain ⟨es, h1, _, _, h4⟩ := h
  exact ⟨_, h1.look Tryz.underlying3 Tryz.underlying177 (zero_ent w) hi, h4 i⟩
theorem EMap.store (h : EMap mem w b n f) (hn : n ≤ 100000) {i : Int} (hi : okI i) (hf : f i = none) {x : Blk} {v : Value} (hv : EntV mem v (some x)) :
    ∃ w', (Instr.mapUpdate 177 (.map (some b)) (.int .i64 i) v).run Tryz.prog w = .ok () w' ∧ EMap mem w' b (n + 1) (fun j => if j = i then some x else f j) ∧ w.grownBy w' (some b) := by
  obtain ⟨es, h1, h2, h3, h4⟩ := h
  have hk : i ∉ keysL es := fun hk => by have := (h3 i).1 hk; rw [hf] at this; cases this
  obtain ⟨w', r, g1, g2⟩ := h1.store Tryz.underlying3 Tryz.underlying177 (by unfold maxLen; omega) hi hk v
  have hks : keysL (es ++ [(i, v)]) = keysL es ++ [i] := by unfold keysL; simp
  refine ⟨w', r, ⟨_, g1, by simp [h2], fun j => ?_, fun j => ?_⟩, g2⟩
  · rw [hks]
    by_cases e : j = i
    · subst e; simp
    · simp [e, h3 j]
  · dsimp only
    by_cases e : j = i
    · subst e; rw [if_pos rfl, getL_snoc_same hk]; exact hv
    · rw [if_neg e, getL_snoc_other (Ne.symm e)]; exact h4 j
theorem EMap.len (h : EMap mem w b n f) (ty : TypeId) : (Builtin.len_ #[177] ty #[.map (some b)]).run Tryz.prog w = .ok (.int .i64 n) w := by
  obtain ⟨es, h1, rfl, _⟩ := h
  exact h1.len Tryz.underlying177 ty
end
theorem run_makeMap_hint {P : Program} (t k e : TypeId) (kd : IntKind) (n : Int) (ht : P.underlying t = some (.map k e)) (w : World) :
    (Instr.makeMap t (some (.int kd n))).run P w = .ok (.map (some w.heap.size)) (w.alloc (.map #[] 0)) := by
  simp [Instr.makeMap, run_underlying ht]; rfl
theorem find_take {l : List Blk} {k : Nat} (hk : k < l.length) (hn : (ids l).Nodup) (i : Int) : find (l.take (k + 1)) i = if i = l[k].id then some l[k] else find (l.take k) i := by
  unfold find
  rw [List.take_succ_eq_append_getElem hk, List.find?_append, List.find?_singleton]
  by_cases e : i = l[k].id
  · rw [if_pos e]
    have : (l.take k).find? (fun b => decide (b.id = i)) = none := by
      rw [List.find?_eq_none]
      intro b hb h
      obtain ⟨j, hj, rfl⟩ := List.getElem_of_mem hb
      rw [List.length_take] at hj
      rw [List.getElem_take] at h
      have := (List.pairwise_iff_getElem.1 hn) j k (by simp; omega) (by simpa using hk) (by omega)
      simp at this h
      exact this (h.trans e)
    rw [this]; simp [e]
  · rw [if_neg e]
    have : ¬ l[k].id = i := fun h => e h.symm
    simp [this]
theorem find_take_none {l : List Blk} {k : Nat} (hk : k < l.length) (hn : (ids l).Nodup) : find (l.take k) l[k].id = none := by
  rw [find_none]
  intro hm
  obtain ⟨b, hb, e⟩ := List.mem_map.1 hm
  obtain ⟨j, hj, rfl⟩ := List.getElem_of_mem hb
  rw [List.length_take] at hj
  rw [List.getElem_take] at e
  have := (List.pairwise_iff_getElem.1 hn) j k (by simp; omega) (by simpa using hk) (by omega)
  simp at this
  exact this e

set_option maxRecDepth 10000 in
set_option maxHeartbeats 2000000 in
theorem byID_any {mem : Addr → Option Value} {v : Value} {l : List Blk} (h : BlksM mem v l) (hl : l.length ≤ 1000) (hnd : (ids l).Nodup) (w : World) (hs : Sees mem w) :
    Calls Tryz.prog 131 #[v] w fun e w' => e = .returned (.map (some w.heap.size)) ∧ EMap mem w' w.heap.size l.length (find l) ∧ Below w.heap.size w w' := by
  obtain ⟨ao, cap, b, o, rfl, hcap, hm, hao, hblks⟩ := h.open_
  have HAO := Lib.hid hao
  have HB := Lib.hid hblks
  have HS := Lib.hid hs
  have hmk := fun W => run_makeMap_hint (P := Tryz.prog) 177 3 180 .i64 (l.length : Int) Tryz.underlying177 W
  have HND := Lib.hid hnd
  have H0 := Lib.hid (EMap.made mem w)
  clear h hao hblks hs hnd
  go_enter Tryz.func131, Tryz.ntmps131
  go_wp2_with fail
  clear hmk
  go_loopw [11] (fun i wr => ∃ k : Nat, k ≤ l.length ∧ i = .int .i64 k ∧ Below w.heap.size w wr ∧ Hid (EMap mem wr w.heap.size k (find (l.take k)))) (fun i _ => l.length - (intOf i).toNat)
  case atStart => exact ⟨0, Nat.zero_le _, rfl, (Below.refl _ w).alloc (Nat.le_refl _) _, H0⟩
  case round =>
    obtain ⟨k, hk, rfl, hb, hM⟩ := hrel
    by_cases hlt : k < l.length
    · obtain ⟨⟨_, _, hok⟩, lo, lc, hi, c9⟩ := (HB.out k hlt).nine (HS.out.bel hb)
      obtain rfl := HAO.out (by omega)
      obtain ⟨c0, c1, c2, c3, c4, c5, c6, c7, c8⟩ := c9
      have hfn := find_take_none hlt HND.out
      have HF : Hid (∀ i, find (l.take (k + 1)) i = if i = l[k].id then some l[k] else find (l.take k) i) := Lib.hid (find_take hlt HND.out)
      generalize l[k] = x at *
      have hM1 := hM.out.alloc (.cells #[.int .i64 x.id, .int .i64 x.kind, .string x.text, .int .i64 x.story, .int .i64 x.ref, .int .i64 x.lab.till, .slice lo x.lab.after.length lc, .int .i64 x.lab.appr, .int .i64 x.lab.denied] 58)
      obtain ⟨w2, hst, hM2, hg2⟩ := hM1.store (by omega) hok hfn (x := x) (v := entAgg x (.slice lo x.lab.after.length lc)) ⟨lo, lc, hi, rfl⟩
      have HM2 := Lib.hid (hM2.ext HF.out)
      have hB2 : Below w.heap.size w w2 := (hb.alloc hb.size _).grown hg2 (by have := hb.size; simp; omega) (fun k e => by cases e; exact Nat.le_refl _)
      simp only [entAgg] at hst
      clear hM hM1 hM2 hg2 HF hfn hi
      go_wp2_with fail
      go_roundw
      case rel => exact ⟨k + 1, by omega, by go_num, hB2, HM2⟩
      case measure => simp [intOf]; omega
    · have e : k = l.length := by omega
      subst e
      have HF : Hid (EMap mem wr w.heap.size l.length (find l)) := Lib.hid (by have := hM.out; rwa [List.take_length] at this)
      go_wp2_with fail
      go_ret
      exact ⟨rfl, HF.out, hb⟩
end Go.Proofs.YtdkkhmjlamkgdaaGreatDoor
namespace Go.Proofs.YtdkkhmjlamkgdaaGreatDoor
open Go.RowKit Mg Go.Shelf

set_option maxHeartbeats 1000000 in
theorem index_any {mem : Addr → Option Value} (v : Value) (l : List Int) (h : IntsM mem v l) (x : Int) (w : World) (hs : Sees mem w) :
    Calls Tryz.prog 170 #[v, .int .i64 x] w fun e w' => e = .returned (.int .i64 (idxI l x)) ∧ w = w' := by
  obtain ⟨ao, cap, b, o, rfl, hcap, hm, hao, hcells⟩ := h.open_ hs
  have HA := Lib.hid hao
  have HC := Lib.hid hcells
  have hlen : (l.length : Int) ≤ 9223372036854775807 := by unfold maxLen at hm; omega
  clear hao hcells hs h hcap hm
  go_enter Tryz.func170, Tryz.ntmps170
  go_wp2_with fail
  go_loop [8] (fun i => ∃ k : Nat, k ≤ l.length ∧ i = .int .i64 k ∧ Hid (x ∉ l.take k)) (fun i => l.length - (intOf i).toNat)
  case atStart => exact ⟨0, Nat.zero_le _, rfl, Lib.hid (by simp)⟩
  case round =>
    obtain ⟨k, hk, rfl, hn⟩ := hrel
    by_cases hlt : k < l.length
    · have c1 := HC.out k hlt
      obtain rfl := HA.out (by omega)
      have HE : Hid (l[k] = x → idxI l x = k) := Lib.hid (fun e => by
        unfold idxI
        have hm : x ∈ l := e ▸ List.getElem_mem hlt
        rw [if_pos hm]
        have hs : l = l.take k ++ l[k] :: l.drop (k + 1) := by rw [← List.drop_eq_getElem_cons hlt, List.take_append_drop]
        have : l.idxOf x = k := by
          rw [hs, List.idxOf_append, if_neg hn.out, e]
          simp; omega
        rw [this])
      have HN : Hid (l[k] ≠ x → x ∉ l.take (k + 1)) := Lib.hid (fun e => by
        rw [List.take_succ_eq_append_getElem hlt]
        intro hm
        rcases List.mem_append.1 hm with hm | hm
        · exact hn.out hm
        · simp at hm; exact e hm.symm)
      generalize l[k] = y at *
      clear hn
      by_cases hxy : x = y
      · have e1 : (x == y) = true := by simpa using hxy
        have HF := Lib.hid (HE.out hxy.symm)
        clear hxy HE HN
        go_wp2_with fail
        go_ret
        exact ⟨ret_int (by rw [HF.out]), rfl⟩
      · have e1 : (x == y) = false := by simpa using hxy
        have HF := Lib.hid (HN.out (fun e => hxy e.symm))
        clear hxy HE HN
        go_wp2_with fail
        go_round
        case rel => exact ⟨k + 1, by omega, by go_num, HF⟩
        case measure => simp [intOf]; omega
    · have e : k = l.length := by omega
      subst e
      have HF : Hid (x ∉ l) := Lib.hid (by have := hn.out; rwa [List.take_length] at this)
      go_wp2_with fail
      go_ret
      exact ⟨ret_int (by unfold idxI; rw [if_neg HF.out]), rfl⟩

end Go.Proofs.YtdkkhmjlamkgdaaGreatDoor
namespace Go.Proofs.YtdkkhmjlamkgdaaGreatDoor
open Go.RowKit Mg Go.Shelf

def InsPost (B : Nat) (v : Value) (r : List Int) (w : World) (e : Ending) (w' : World) : Prop :=
  ∃ v', e = .returned v' ∧ IRow w' B v' r ∧ w.grownBy w' v.ownBlock ∧ (v'.ownBlock = v.ownBlock ∨ v'.ownBlock = some w.heap.size)
theorem enc_get {l : List Int} {j : Nat} {u : Value} (h : (l.map encI)[j]? = some u) : ∃ hj : j < l.length, u = .int .i64 l[j] := by
  rw [List.getElem?_map, Option.map_eq_some_iff] at h
  obtain ⟨i, h1, rfl⟩ := h
  obtain ⟨hj, rfl⟩ := List.getElem?_eq_some_iff.1 h1
  exact ⟨hj, rfl⟩
theorem row_of {w : World} {B g cap : Nat} {cur : Array Value} {l : List Int} (hB : B ≤ g) (hh : w.heap[g]? = some (.cells cur 3 (0, 0))) (hn : l.length ≤ cap) (hc : cap ≤ maxLen) (hs : cur.size = cap)
    (hx : ∀ j (hj : j < l.length), w.cell? ⟨g, j, none⟩ = some (.int .i64 l[j])) : IRow w B (.slice (some ⟨g, 0, none⟩) l.length cap) l := by
  have := row_of_cells (e := 3) (xs := l.map encI) hB hh (by simpa using hn) hc hs (fun j u hu => by obtain ⟨hj, rfl⟩ := enc_get hu; exact hx j hj)
  unfold IRow
  rwa [List.length_map] at this
theorem ins_get (l : List Int) (i : Nat) (hi : i ≤ l.length) (x : Int) (j : Nat) (hj : j < (l.take i ++ x :: l.drop i).length) : (l.take i ++ x :: l.drop i)[j] = if h : j < i then l[j]'(by omega) else if h2 : j = i then x else l[j - 1]'(by simp at hj; omega) := by
  by_cases h : j < i
  · rw [dif_pos h, List.getElem_append_left (by rw [List.length_take]; omega), List.getElem_take]
  · rw [dif_neg h, List.getElem_append_right (by rw [List.length_take]; omega)]
    by_cases h2 : j = i
    · rw [dif_pos h2]; simp only [List.length_take, Nat.min_eq_left hi, h2, Nat.sub_self, List.getElem_cons_zero]
    · rw [dif_neg h2]
      obtain ⟨m, hm⟩ : ∃ m, j - i = m + 1 := ⟨j - i - 1, by omega⟩
      simp only [List.length_take, Nat.min_eq_left hi, hm, List.getElem_cons_succ, List.getElem_drop]
      congr 1; omega
theorem ins_len (l : List Int) (i : Nat) (hi : i ≤ l.length) (x : Int) : (l.take i ++ x :: l.drop i).length = l.length + 1 := by simp; omega

theorem insert_any (w : World) (B : Nat) (hB : B ≤ w.heap.size) (v : Value) (l : List Int) (h : IRow w B v l) (i : Nat) (hi : i ≤ l.length) (x : Int) (vb : Nat) (hvb : w.heap[vb]? = some (.cells #[.int .i64 x] 3 (0, 0))) (hne : v.ownBlock ≠ some vb) (hl : l.length ≤ 100000) :
    Calls Tryz.prog 171 #[v, .int .i64 i, .slice (some ⟨vb, 0, none⟩) 1 1] w (InsPost B v (l.take i ++ x :: l.drop i) w) := by
  have hvs : ∀ j u, ([.int .i64 x] : List Value)[j]? = some u → w.cell? ⟨vb, 0 + j, none⟩ = some u := fun j u hu => by
    match j, hu with
    | 0, hu => simp at hu; subst hu; unfold World.cell?; simp [hvb]
  have h1v : ∀ u ∈ ([.int .i64 x] : List Value), u.oneCell' = true := by simp [Value.oneCell']
  have hlen := ins_len l i hi x
  have hz0 : ∀ n, (Builtin.zeroCells (Value.int .i64 0).cells n).size = n := fun n => by rw [size_zeroCells]; simp [Value.cells]
  rcases h.2 with ⟨rfl, h0⟩ | ⟨g, cap, cur, rfl, hbg, hgg, hnc, hcm, hcs, htk⟩
  · -- nothing stands yet
    have hl0 : l = [] := List.eq_nil_of_length_eq_zero h0
    subst hl0
    obtain rfl : i = 0 := by simpa using hi
    have c := Any2.slices_Insert_int_end_grow Tryz.laysIns none 0 0 vb 0 1 1 [] [.int .i64 x] w (by omega) (by omega) (by omega) (by omega) rfl rfl (fun _ => rfl) (fun a e => by cases e) hvs h1v
    rw [show Tryz.laysIns_ren.t 3 = 3 from rfl] at c
    refine c.mono ?_
    rintro e w' ⟨rfl, rfl⟩
    have hge := grownCap_ge w (0 + 1) 0 3
    refine ⟨_, rfl, ?_, ⟨rfl, rfl, rfl, by simp, fun k hk _ => Below.heap_alloc w.drew _ k hk⟩, .inr rfl⟩
    refine row_of (l := [x]) (cap := grownCap w (0 + 1) 0 3) hB (heap_alloc_new w.drew _) (by simpa using hge) (grownCap_le_maxLen _ _ _ _ (by unfold maxLen; omega)) (by rw [Array.size_append, hz0]; simp only [List.nil_append, List.size_toArray, List.length_cons, List.length_nil]; omega) (fun j hj => ?_)
    match j, hj with
    | 0, _ => rw [show (⟨w.heap.size, 0, none⟩ : Addr) = ⟨w.drew.heap.size, 0, none⟩ from rfl, World.cell?_alloc_at _ _ _ _ rfl, Array.getElem?_append_left (by simp)]; rfl
  · have hcell : ∀ j (hj : j < l.length), w.cell? ⟨g, j, none⟩ = some (.int .i64 l[j]) := fun j hj => by
      obtain ⟨g', cap', e, _, _, _, hc⟩ := h.cells j hj
      injection e with e1
      injection e1 with e1
      injection e1 with e1
      subst e1; exact hc
    have hcsl : ∀ j u, (l.map encI)[j]? = some u → w.cell? ⟨g, 0 + j, none⟩ = some u := fun j u hu => by
      obtain ⟨hj, rfl⟩ := enc_get hu
      rw [Nat.zero_add]; exact hcell j hj
    have hvg : vb ≠ g := fun e => hne (by rw [e]; rfl)
    have hsome : ∀ j, j < cap → (w.cell? ⟨g, j, none⟩).isSome = true := fun j hj => by
      unfold World.cell?; simp [hgg]; omega
    have hfree : ∀ j, w.frozen? ⟨g, j, none⟩ = false := fun j => by unfold World.frozen?; simp [hgg]
    have hglt : g < w.heap.size := (Array.getElem?_eq_some_iff.1 hgg).1
    by_cases hroom : l.length + 1 ≤ cap
    · by_cases hin : i < l.length
      · refine (Any2.slices_Insert_int_shift Tryz.laysIns g 0 l.length cap i vb 0 1 1 (l.map encI) [.int .i64 x] w hin (by omega) hroom (by unfold maxLen at hcm; omega) hvg (by simp) rfl hcsl (fun j hj => by rw [Nat.zero_add]; exact hsome j (by omega)) (fun j _ => hfree _) hvs (one_cell l) h1v
          3 3 1 cur.size (by unfold World.shape?; simp [hvb]) (by unfold World.shape?; simp [hgg]) (by omega) (by unfold World.frozen?; simp [hvb]) (by unfold World.frozen?; simp [hvb])).mono ?_
        rintro e w' ⟨rfl, rfl⟩
        obtain ⟨c1, hh1, hs1⟩ := setCells_heap g 3 ((l.map encI).drop i) (0 + (i + 1)) w.drew cur hgg
        obtain ⟨c2, hh2, hs2⟩ := setCells_heap g 3 [.int .i64 x] (0 + i) _ c1 hh1
        have hd1 : ∀ j, j < ((l.map encI).drop i).length → (w.drew.cell? ⟨g, 0 + (i + 1) + j, none⟩).isSome = true := fun j hj => hsome _ (by simp at hj; omega)
        refine ⟨_, rfl, ?_, setCells_grown g _ _ _ _ (setCells_grown g _ _ _ _ (only_drew (World.grownBy.refl w _))), .inl rfl⟩
        have := row_of (l := l.take i ++ x :: l.drop i) (cap := cap) hbg hh2 (by omega) hcm (by rw [hs2, hs1]; omega) (fun j hj => by
          rw [ins_get l i hi x j hj]
          by_cases hj1 : j < i
          · rw [dif_pos hj1, World.cell?_setCells_out g _ _ _ _ (fun _ _ => .inl (by simp; omega)), World.cell?_setCells_out g _ _ _ _ (fun _ _ => .inl (by simp; omega))]
            exact hcell j (by omega)
          · rw [dif_neg hj1]
            by_cases hj2 : j = i
            · rw [dif_pos hj2]
              have := World.cell?_setCells_in g [.int .i64 x] (0 + i) (w.drew.setCells g (0 + (i + 1)) ((l.map encI).drop i)) (fun j hj => by
                rw [World.cell?_setCells_out g _ _ _ _ (fun _ _ => .inl (by simp at hj ⊢; omega))]; exact hsome _ (by simp at hj; omega)) 0 (by simp)
              rw [hj2]
              simpa using this
            · rw [dif_neg hj2, World.cell?_setCells_out g _ _ _ _ (fun _ _ => .inr (by simp; omega))]
              have h4 := World.cell?_setCells_in g ((l.map encI).drop i) (0 + (i + 1)) w.drew hd1 (j - (i + 1)) (by simp; omega)
              rw [show 0 + (i + 1) + (j - (i + 1)) = j by omega] at h4
              rw [h4, List.getElem_drop, List.getElem_map]
              simp only [encI]
              congr 3; omega)
        rwa [hlen] at this
      · obtain rfl : i = l.length := by omega
        refine (Any2.slices_Insert_int_end_room Tryz.laysIns g 0 l.length cap vb 0 1 1 [.int .i64 x] w (by omega) hroom (by unfold maxLen at hcm; omega) rfl (fun j hj => hsome _ (by omega)) (fun j _ => hfree _) hvs h1v).mono ?_
        rintro e w' ⟨rfl, rfl⟩
        obtain ⟨c2, hh2, hs2⟩ := setCells_heap g 3 [.int .i64 x] (0 + l.length) w cur hgg
        refine ⟨_, rfl, ?_, setCells_grown g _ _ _ _ (World.grownBy.refl w _), .inl rfl⟩
        have := row_of (l := l.take l.length ++ x :: l.drop l.length) (cap := cap) hbg hh2 (by omega) hcm (by rw [hs2]; omega) (fun j hj => by
          rw [ins_get l l.length hi x j hj]
          by_cases hj1 : j < l.length
          · rw [dif_pos hj1, World.cell?_setCells_out g _ _ _ _ (fun _ _ => .inl (by simp; omega))]
            exact hcell j hj1
          · have hj2 : j = l.length := by omega
            rw [dif_neg hj1, dif_pos hj2]
            have := World.cell?_setCells_in g [.int .i64 x] (0 + l.length) w (fun j hj => hsome _ (by simp at hj; omega)) 0 (by simp)
            rw [hj2]
            simpa using this)
        rwa [hlen] at this
    · by_cases hin : i < l.length
      · have c := Any2.slices_Insert_int_grow Tryz.laysIns g 0 l.length cap i vb 0 1 1 (l.map encI) [.int .i64 x] w hin (by omega) hnc (by omega) (by omega) (by simp) rfl hcsl hvs (one_cell l) h1v
        rw [show Tryz.laysIns_ren.t 3 = 3 from rfl] at c
        have hge := grownCap_ge w (l.length + 1) cap 3
        have hgm : grownCap w (l.length + 1) cap 3 ≤ maxLen := grownCap_le_maxLen _ _ _ _ (by unfold maxLen; omega)
        obtain ⟨A, hA⟩ : ∃ A : Array Value, A = ((l.map encI).take i).toArray ++ Builtin.zeroCells (Value.int .i64 0).cells (l.length + 1 - i) ++ Builtin.zeroCells (Value.int .i64 0).cells (grownCap w (l.length + 1) cap 3 - (l.length + 1)) := ⟨_, rfl⟩
        rw [← hA] at c
        have hsz : A.size = grownCap w (l.length + 1) cap 3 := by
          rw [hA, Array.size_append, Array.size_append, hz0, hz0]; simp; omega
        have hAg : ∀ j (hj : j < i), A[j]? = some (.int .i64 (l[j]'(by omega))) := fun j hj => by
          rw [hA, Array.append_assoc, Array.getElem?_append_left (by simp; omega), List.getElem?_toArray, List.getElem?_take, if_pos hj, List.getElem?_map, List.getElem?_eq_getElem (by omega)]; rfl
        clear hA
        obtain ⟨w1, hw1⟩ : ∃ w1, w1 = w.alloc (.cells A 3) := ⟨_, rfl⟩
        obtain ⟨w2, hw2⟩ : ∃ w2, w2 = w1.drew.setCells w.heap.size i [.int .i64 x] := ⟨_, rfl⟩
        rw [← hw1, ← hw2] at c
        refine c.mono ?_
        rintro e w' ⟨rfl, rfl⟩
        have hh0 : w1.drew.heap[w.heap.size]? = some (.cells A 3 (0, 0)) := by rw [hw1]; exact heap_alloc_new w _
        have hc1 : ∀ j, w1.drew.cell? ⟨w.heap.size, j, none⟩ = A[j]? := fun j => by
          unfold World.cell?; simp [hh0]
        have hsm : ∀ j, j < grownCap w (l.length + 1) cap 3 → (w1.drew.cell? ⟨w.heap.size, j, none⟩).isSome = true := fun j hj => by
          rw [hc1, Array.getElem?_eq_getElem (by rw [hsz]; exact hj)]; rfl
        obtain ⟨d1, hh1, hs1⟩ := setCells_heap w.heap.size 3 [.int .i64 x] i _ _ hh0
        rw [← hw2] at hh1
        obtain ⟨d2, hh2, hs2⟩ := setCells_heap w.heap.size 3 ((l.map encI).drop i) (i + 1) w2.drew d1 hh1
        have hin1 := World.cell?_setCells_in w.heap.size [.int .i64 x] i w1.drew (fun j hj => hsm _ (by simp at hj; omega)) 0 (by simp)
        have hout1 : ∀ j, j ≠ i → w2.drew.cell? ⟨w.heap.size, j, none⟩ = w1.drew.cell? ⟨w.heap.size, j, none⟩ := fun j hj => by
          show w2.cell? ⟨w.heap.size, j, none⟩ = _
          rw [hw2, World.cell?_setCells_out _ _ _ _ _ (fun _ _ => by simp; omega)]
        rw [← hw2, Nat.add_zero] at hin1
        refine ⟨_, rfl, ?_, ?_, .inr rfl⟩
        · have := row_of (l := l.take i ++ x :: l.drop i) (cap := grownCap w (l.length + 1) cap 3) hB hh2 (by omega) hgm (by rw [hs2, hs1, hsz]) (fun j hj => by
            rw [ins_get l i hi x j hj]
            by_cases hj1 : j < i
            · rw [dif_pos hj1, World.cell?_setCells_out _ _ _ _ _ (fun _ _ => .inl (by show j < i + 1; omega)), hout1 j (by omega), hc1, hAg j hj1]
            · rw [dif_neg hj1]
              by_cases hj2 : j = i
              · rw [dif_pos hj2, World.cell?_setCells_out _ _ _ _ _ (fun _ _ => .inl (by show j < i + 1; omega)), hj2]
                exact hin1
              · rw [dif_neg hj2]
                have h4 := World.cell?_setCells_in w.heap.size ((l.map encI).drop i) (i + 1) w2.drew (fun j hj => by
                    rw [hout1 _ (by omega)]
                    exact hsm _ (by simp at hj; omega)) (j - (i + 1)) (by simp; omega)
                rw [show i + 1 + (j - (i + 1)) = j by omega] at h4
                refine h4.trans ?_
                rw [List.getElem_drop, List.getElem_map]
                simp only [encI]
                congr 3; omega)
          rwa [hlen] at this
        · have g1 : w1.grownBy (w2.drew.setCells w.heap.size (i + 1) ((l.map encI).drop i)) (some w.heap.size) := by
            rw [hw2]
            exact setCells_grown _ _ _ _ _ (only_drew (setCells_grown _ _ _ _ _ (only_drew (World.grownBy.refl _ _))))
          have hw1s : w1.heap.size = w.heap.size + 1 := by rw [hw1]; simp
          exact ⟨by rw [g1.os, hw1]; rfl, by rw [g1.tape, hw1]; rfl, by rw [g1.output, hw1]; rfl, by have := g1.size; omega, fun k hk _ => (g1.block k (by omega) (fun e => by injection e; omega)).trans (by rw [hw1]; exact Below.heap_alloc w _ k hk)⟩
      · obtain rfl : i = l.length := by omega
        have c := Any2.slices_Insert_int_end_grow Tryz.laysIns (some ⟨g, 0, none⟩) l.length cap vb 0 1 1 (l.map encI) [.int .i64 x] w (by omega) hnc (by omega) (by omega) (by simp) rfl (fun e => by cases e) (fun a e j u hu => by cases e; rw [Addr.add_lit]; exact hcsl j u hu) hvs h1v
        rw [show Tryz.laysIns_ren.t 3 = 3 from rfl] at c
        have hge := grownCap_ge w (l.length + 1) cap 3
        have hgm : grownCap w (l.length + 1) cap 3 ≤ maxLen := grownCap_le_maxLen _ _ _ _ (by unfold maxLen; omega)
        obtain ⟨A, hA⟩ : ∃ A : Array Value, A = (l.map encI ++ [Value.int .i64 x]).toArray ++ Builtin.zeroCells (Value.int .i64 0).cells (grownCap w (l.length + 1) cap 3 - (l.length + 1)) := ⟨_, rfl⟩
        rw [← hA] at c
        have hsz : A.size = grownCap w (l.length + 1) cap 3 := by
          rw [hA, Array.size_append, hz0]; simp; omega
        have hAg : ∀ j (hj : j < l.length), A[j]? = some (.int .i64 l[j]) := fun j hj => by
          rw [hA, Array.getElem?_append_left (by simp; omega), List.getElem?_toArray, List.getElem?_append_left (by simpa using hj), List.getElem?_map, List.getElem?_eq_getElem hj]; rfl
        have hAx : A[l.length]? = some (.int .i64 x) := by
          rw [hA, Array.getElem?_append_left (by simp), List.getElem?_toArray, List.getElem?_append_right (by simp)]; simp
        clear hA
        obtain ⟨w1, hw1⟩ : ∃ w1, w1 = w.drew.alloc (.cells A 3) := ⟨_, rfl⟩
        rw [← hw1] at c
        refine c.mono ?_
        rintro e w' ⟨rfl, rfl⟩
        have hh0 : w'.heap[w.heap.size]? = some (.cells A 3 (0, 0)) := by rw [hw1]; exact heap_alloc_new w.drew _
        refine ⟨_, rfl, ?_, by rw [hw1]; exact ⟨rfl, rfl, rfl, by simp, fun k hk _ => Below.heap_alloc w.drew _ k hk⟩, .inr rfl⟩
        have := row_of (l := l.take l.length ++ x :: l.drop l.length) (cap := grownCap w (l.length + 1) cap 3) hB hh0 (by omega) hgm hsz (fun j hj => by
          have hc : w'.cell? ⟨w.heap.size, j, none⟩ = A[j]? := by unfold World.cell?; simp [hh0]
          rw [hc, ins_get l l.length hi x j hj]
          by_cases hj1 : j < l.length
          · rw [dif_pos hj1, hAg j hj1]
          · have hj2 : j = l.length := by omega
            rw [dif_neg hj1, dif_pos hj2, hj2, hAx])
        rwa [hlen] at this
end Go.Proofs.YtdkkhmjlamkgdaaGreatDoor
namespace Go.Proofs.YtdkkhmjlamkgdaaGreatDoor
open Go.RowKit Mg Go.Shelf
attribute [local go_sem] Oper.semAt_some

theorem lists_but {mem : Addr → Option Value} {v : Value} {l : List Blk} (h : BlksM mem v l) {W w : World} (hs : Sees mem w) (hsW : Sees mem W) {B : Nat} (hB : w.heap.size ≤ B) {g : Nat} (hg : W.cell? ⟨g, 0, none⟩ = some v) (hne : g ≠ B) : ListsM (memBut W B) (.slice (some ⟨g, 0, none⟩) 1 1) [l] :=
  ⟨_, 1, rfl, by simp, by simp, by unfold maxLen; omega, fun j hj => by
    match j, hj with
    | 0, _ => exact ⟨_, memBut_of hg hne, h.mono (fun a u e => memBut_of (hsW a u e) (by have := cell_lt (hs a u e); omega))⟩⟩

theorem keepB_of {N : Nat} {F G : Nat → Prop} {X Y : World} (h : Upd G X Y) (hN : N ≤ X.heap.size) (hG : ∀ k, k < N → ¬ F k → ¬ G k) : KeepB N F X Y := fun k hk hf => h.block k (by omega) (hG k hk hf)
theorem boxed_upd {G : Nat → Prop} {X Y : World} {B : Nat} {t : TypeId} {v : Value} (h : Boxed X B t v) (hu : Upd G X Y) (hn : ¬ G B) : Boxed Y B t v := (hu.block B h.lt hn).trans h
theorem row_cells {w : World} {B : Nat} {v : Value} {l : List Int} (h : IRow w B v l) (j : Nat) (o : Obj) (e : v.ownBlock = some j) (ho : w.heap[j]? = some o) : o.isCells = true := by
  rcases h.2 with ⟨rfl, _⟩ | ⟨g, cap, cur, rfl, _, hh, _⟩
  · cases e
  · obtain rfl : g = j := by injection e
    rw [hh] at ho; cases ho; rfl
def selB (b : Bool) (x : Int) : List Int := cond b [x] []
structure AppB (W W' : World) (N1 B7 : Nat) (v' : Value) (L : List Int) : Prop where
  upd : Upd (fun k => k = B7 ∨ N1 ≤ k) W W'
  box : Boxed W' B7 46 v'
  row : IRow W' N1 v' L
  keeps : KeepsOthers W W'
theorem appB {W w1 : World} {N1 B7 : Nat} {r v' : Value} {l L : List Int} (hB7 : B7 < N1) (hb7 : Boxed W B7 46 r) (hr : IRow W N1 r l) {o : Obj} (hr' : IRow w1 N1 v' L) (hg : (W.alloc o).grownBy w1 r.ownBlock) :
    AppB W (w1.setCell ⟨B7, 0, none⟩ v') N1 B7 v' L := by
  have hu : Upd (fun k => k = B7 ∨ N1 ≤ k) W w1 := ((Upd.refl _ W).alloc o).grown hg (fun k e => .inl (.inr (hr.ge k e)))
  have hb1 : Boxed w1 B7 46 r := (hb7.alloc o).kept hg (fun e => by have := hr.ge B7 e.symm; omega)
  refine ⟨hu.setCell (.inl (.inl rfl)) _, hb1.set _, ?_, ?_⟩
  · exact IRow.kept (F := fun k => k = B7) hr' ((Upd.refl (fun k => k = B7) w1).setCell (p := ⟨B7, 0, none⟩) (.inl rfl) v') (fun k hk e => by have := hr'.ge k hk; omega)
  · exact ((KeepsOthers.alloc W o).trans (KeepsOthers.of_grownBy hg (fun j ob e ho => row_cells (IRow.alloc hr o) j ob e ho))).trans (KeepsOthers.setCell _ _ _)
def ordSt (has : Int → Bool) (lead pre : List Int) : List Int × Nat := pre.foldl (Mg.step has lead) (lead.filter has, 0)
theorem ordSt_snoc (has : Int → Bool) (lead pre : List Int) (x : Int) : ordSt has lead (pre ++ [x]) = Mg.step has lead (ordSt has lead pre) x := by
  unfold ordSt; rw [List.foldl_append]; rfl
theorem step_ok {has : Int → Bool} {lead : List Int} {st : List Int × Nat} (h1 : ∀ y, has y = true → y ∈ lead → y ∈ st.1) (h2 : st.2 ≤ st.1.length) (x : Int) :
    (∀ y, has y = true → y ∈ lead → y ∈ (Mg.step has lead st x).1) ∧ (Mg.step has lead st x).2 ≤ (Mg.step has lead st x).1.length ∧ (Mg.step has lead st x).1.length ≤ st.1.length + 1 := by
  unfold Mg.step
  by_cases hx : has x = true
  · rw [if_pos hx]
    by_cases hl : x ∈ lead
    · rw [if_pos hl]
      have := List.idxOf_lt_length_iff.2 (h1 x hx hl)
      exact ⟨h1, by show st.1.idxOf x + 1 ≤ st.1.length; omega, Nat.le_succ _⟩
    · rw [if_neg hl]
      refine ⟨fun y a b => insAt_mem.2 (.inr (h1 y a b)), ?_, ?_⟩
      · rw [insAt_length]; show st.2 + 1 ≤ st.1.length + 1; omega
      · rw [insAt_length]; exact Nat.le_refl _
  · rw [if_neg hx]
    exact ⟨h1, h2, Nat.le_succ _⟩
theorem ordSt_ok (has : Int → Bool) (lead : List Int) : ∀ (r pre : List Int), ((∀ y, has y = true → y ∈ lead → y ∈ (ordSt has lead pre).1) ∧ (ordSt has lead pre).2 ≤ (ordSt has lead pre).1.length ∧ (ordSt has lead pre).1.length ≤ lead.length + pre.length) →
    (∀ y, has y = true → y ∈ lead → y ∈ (ordSt has lead (pre ++ r)).1) ∧ (ordSt has lead (pre ++ r)).2 ≤ (ordSt has lead (pre ++ r)).1.length ∧ (ordSt has lead (pre ++ r)).1.length ≤ lead.length + (pre ++ r).length
  | [], pre, h => by rwa [List.append_nil]
  | x :: r, pre, h => by
    have h2 := step_ok h.1 h.2.1 x
    rw [← ordSt_snoc] at h2
    have := ordSt_ok has lead r (pre ++ [x]) ⟨h2.1, h2.2.1, by have := h2.2.2; have := h.2.2; simp; omega⟩
    rwa [List.append_assoc] at this
theorem ordSt_all (has : Int → Bool) (lead pre : List Int) : (∀ y, has y = true → y ∈ lead → y ∈ (ordSt has lead pre).1) ∧ (ordSt has lead pre).2 ≤ (ordSt has lead pre).1.length ∧ (ordSt has lead pre).1.length ≤ lead.length + pre.length :=
  ordSt_ok has lead pre [] ⟨fun y a b => List.mem_filter.2 ⟨b, a⟩, Nat.zero_le _, by show (lead.filter has).length ≤ _; have := List.length_filter_le has lead; simp; omega⟩
open Classical in
noncomputable def memOff (W : World) (F : Nat → Prop) (a : Addr) : Option Value := if F a.block then none else W.cell? a
theorem memOff_sees (W : World) (F : Nat → Prop) : Sees (memOff W F) W := fun a u h => by
  unfold memOff at h
  split at h
  · cases h
  · exact h
theorem memOff_lt {W : World} {F : Nat → Prop} (a : Addr) (u : Value) (h : memOff W F a = some u) : a.block < W.heap.size ∧ ¬ F a.block := by
  unfold memOff at h
  split at h
  · cases h
  · next hne => exact ⟨World.block_lt_of_cell? W a h, hne⟩
theorem memOff_of {W : World} {F : Nat → Prop} {a : Addr} {u : Value} (h : W.cell? a = some u) (hne : ¬ F a.block) : memOff W F a = some u := by
  unfold memOff; rw [if_neg hne]; exact h
theorem lists_off {mem : Addr → Option Value} {v : Value} {l : List Blk} (h : BlksM mem v l) {W w : World} (hs : Sees mem w) (hsW : Sees mem W) {F : Nat → Prop} (hF : ∀ k, k < w.heap.size → ¬ F k) {g : Nat} (hg : W.cell? ⟨g, 0, none⟩ = some v) (hne : ¬ F g) : ListsM (memOff W F) (.slice (some ⟨g, 0, none⟩) 1 1) [l] :=
  ⟨_, 1, rfl, by simp, by simp, by unfold maxLen; omega, fun j hj => by
    match j, hj with
    | 0, _ => exact ⟨_, memOff_of hg hne, h.mono (fun a u e => memOff_of (hsW a u e) (hF _ (cell_lt (hs a u e))))⟩⟩
theorem ordUpd {W w1 : World} {B7 B10 : Nat} {r v' : Value} {o : Obj} (hg : (W.alloc o).grownBy w1 r.ownBlock) (u : Value) :
    Upd (fun k => k = B7 ∨ k = B10 ∨ r.ownBlock = some k) W ((w1.setCell ⟨B7, 0, none⟩ v').setCell ⟨B10, 0, none⟩ u) :=
  ((((Upd.refl _ W).alloc o).grown hg (fun _ e => .inl (.inr (.inr e)))).setCell (.inl (.inl rfl)) _).setCell (.inl (.inr (.inl rfl))) _
def OrdPost (r : List Int) (w : World) (e : Ending) (w' : World) : Prop := ∃ v, e = .returned v ∧ IRow w' w.heap.size v r ∧ Below w.heap.size w w'

set_option maxRecDepth 100000 in
set_option maxHeartbeats 4000000 in
theorem order_wide (m : Nat) {mem : Addr → Option Value} {v u : Value} {lead foll : List Blk} (h1 : BlksM mem v lead) (h2 : BlksM mem u foll) (hl1 : lead.length ≤ 1000) (hl2 : foll.length ≤ 1000) (M n : Nat) (f : Int → Option Blk) (w : World) (hs : Sees mem w) (hM : EMap mem w M n f) :
    CallsIn Fence.wide m Tryz.prog 138 #[v, u, .map (some M)] w (OrdPost (orderF (fun i => (f i).isSome) (ids lead) (ids foll)) w) := by
  refine callsIn_wide.2 ((callsIn_wide (n := 6)).1 ?_)
  obtain ⟨ao, cap, rfl⟩ := h1.slice
  obtain ⟨ao2, cap2, rfl⟩ := h2.slice
  obtain ⟨xs, hx⟩ := okIds h1
  obtain ⟨ys, hy⟩ := okIds h2
  refine callsIn_of_wp_marks Tryz.func138 rfl trivial ?_ rfl
  simp only [Tryz.ntmps138, List.size_toArray, List.length_cons, List.length_nil, Nat.reduceAdd, Nat.reduceSub, Array.replicate_succ, Array.replicate_zero, List.push_toArray, List.append_toArray, List.nil_append, List.cons_append]
  gi_wp2_with fail
  refine ⟨trivial, ?_⟩
  refine (callsIn_wide.2 (each_any _ ⟨_, _, _, rfl⟩ _)).mono ?_
  rintro e w' ⟨rfl, rfl⟩
  gi_wp2_with fail
  obtain ⟨W1, HW1⟩ := named ((((w.alloc (.cells #[.map (some M)] 177)).alloc (.cells #[.slice none 0 0] 46)).alloc (.cells #[.slice ao lead.length cap] 37)).alloc (.cells #[.slice (some ⟨w.heap.size + 1 + 1, 0, none⟩) 1 1] 65))
  rw [← HW1.out]
  have hz1 : W1.heap.size = w.heap.size + 4 := by rw [HW1.out]; simp
  have hB1 : Below w.heap.size w W1 := by rw [HW1.out]; exact ((((Below.refl _ w).alloc (Nat.le_refl _) _).alloc (by simp) _).alloc (by simp; omega) _).alloc (by simp; omega) _
  have r5 : Boxed W1 w.heap.size 177 (.map (some M)) := by rw [HW1.out]; exact (((Boxed.new w _ _).alloc _).alloc _).alloc _
  have r7 : Boxed W1 (w.heap.size + 1) 46 (.slice none 0 0) := by
    have h := ((Boxed.new (w.alloc (.cells #[.map (some M)] 177)) 46 (.slice none 0 0)).alloc (.cells #[.slice ao lead.length cap] 37)).alloc (.cells #[.slice (some ⟨w.heap.size + 1 + 1, 0, none⟩) 1 1] 65)
    rw [World.size_alloc] at h
    rw [HW1.out]; exact h
  have r8 : W1.cell? ⟨w.heap.size + 2, 0, none⟩ = some (.slice ao lead.length cap) := by rw [HW1.out]; exact cell_old (cell_new (by simp) rfl)
  have r9 : W1.cell? ⟨w.heap.size + 3, 0, none⟩ = some (.slice (some ⟨w.heap.size + 2, 0, none⟩) 1 1) := by rw [HW1.out]; exact cell_new (by simp) rfl
  have hls1 := lists_but h1 hs (hs.bel hB1) (B := w.heap.size + 1) (by omega) r8 (by omega)
  have hM1 := hM.bel hB1
  have hMl := hM.lt
  have hsW1 := hs.bel hB1
  obtain ⟨N1, HN1⟩ := named W1.heap.size
  rw [← HN1.out] at hz1
  refine wpIn_rangeFunc_ownG rfl (by omega) (gf := 169) (lb := #[.pointer (some ⟨w.heap.size + 3, 0, none⟩)]) rfl trivial (enters_of Tryz.func169 (by kernel_rfl) rfl)
    (each_stops _ (w.heap.size + 3) (KeepB W1.heap.size (fun k => k = w.heap.size + 1)) (memBut W1 (w.heap.size + 1)) W1 (memBut_sees _ _) (sees_keepB memBut_lt) _ [lead] hls1 (memBut_of r9 (by simp)) xs (by rw [idsOf_one]; exact hx)) keepB_t (keepB_b (Nat.le_refl _)) (Below.refl _ _) (fun _ => rfl)
    (fun pre W => (Boxed W w.heap.size 177 (.map (some M)) ∧ (∃ r, Boxed W (w.heap.size + 1) 46 r ∧ W.ownsRow N1 3 1 r ((vals pre).filter (fun i => (f i).isSome)).length (((vals pre).filter (fun i => (f i).isSome)).map encI) ∧ True)) ∧ ((EMap mem W M n f ∧ Below w.heap.size w W) ∧ N1 ≤ W.heap.size))
    (fun _ _ _ => False)
    (OwnFrom.and (OwnFrom.and (Own.from (boxed_own _ _ (fun _ => .map (some M))) _) (Own.from (holdsRow_own N1 (w.heap.size + 1) 46 3 1 (fun pre : List OkInt => ((vals pre).filter (fun i => (f i).isSome)).length) (fun pre => ((vals pre).filter (fun i => (f i).isSome)).map encI) (fun _ _ => True)) _))
      (OwnFrom.and (OwnFrom.and (fun s A B row hs hg hr => hs.grown hg (fun e => by have := (hr _ e.symm).1; rw [← HN1.out] at this; omega)) (ownFrom_below (Nat.le_refl _) (by rw [← HN1.out]; omega))) (fun s A B row hs hg hr => Nat.le_trans hs hg.size)))
    (fun _ _ _ _ _ hs _ _ => hs)
    ⟨⟨r5, _, r7, World.ownsRow_nil _ _ _ _, trivial⟩, ⟨hM1, hB1⟩, by rw [HN1.out]; exact Nat.le_refl _⟩
    (fun x => { tmps := #[.slice ao lead.length cap, .slice ao2 foll.length cap2, .map (some M), undef, undef, .pointer (some ⟨w.heap.size, 0, none⟩), .slice none 0 0, .pointer (some ⟨w.heap.size + 1, 0, none⟩), .int .i64 x.1, undef, undef, undef, undef, undef,
        .slice ao lead.length cap, .slice (some ⟨w.heap.size + 1 + 1, 0, none⟩) 1 1, .func (.func 169) #[] #[.pointer (some ⟨w.heap.size + 1 + 1 + 1, 0, none⟩)], .int .i64 x.1, undef, undef, undef, undef, undef, undef, undef, undef, undef, undef, undef, undef, undef, undef, undef, undef, undef, undef, undef, undef, undef, undef, undef, undef, undef, undef, undef, undef, undef, undef, undef, undef, undef, undef, undef, undef, undef, undef, undef, undef], defers := [] }) ?assign ?body ?done ?stop
  case assign =>
    intro l x W K hK
    gi_wp2
    exact hK
  case stop =>
    rintro D c pre W _ _ h _
    exact h.elim
  case body =>
    rintro l0 pre x W ⟨⟨hb5, r, hb7, hr, _⟩, ⟨hMW, hB⟩, hNW⟩ hlt
    obtain ⟨ev, hlk, hev⟩ := hMW.look x.2
    obtain ⟨e0, e1, et, e3, e4, e5, ea, en, ec, e7, e8, rfl⟩ := hev.form
    have c5 := hb5.cell
    have c7 := hb7.cell
    obtain ⟨L, HL⟩ := named ((vals pre).filter (fun i => (f i).isSome))
    have hV : Hid ((vals (pre ++ [x])).filter (fun i => (f i).isSome) = L ++ selB (f x.1).isSome x.1) := Lib.hid (by rw [HL.out]; unfold vals selB; rw [List.map_append, List.filter_append]; cases h : (f x.1).isSome <;> simp [h])
    rw [← HL.out] at hr
    have hll : L.length ≤ 100000 := by
      rw [HL.out]
      have g1 := List.length_filter_le (fun i => (f i).isSome) (vals pre)
      have g2 : (vals pre).length = pre.length := List.length_map _
      have g3 : xs.length = lead.length := by have := congrArg List.length hx; rwa [List.length_map, List.length_map] at this
      omega
    have hfl := field_some e0 e1 e3 e4 e5 e7 e8 et ea en ec (f x.1).isSome
    have HB := Lib.hid (And.intro hB (And.intro hb5 (And.intro hb7 (And.intro hr (And.intro hMW hNW)))))
    have hzN := HN1.out
    clear hb5 hb7 hMW hB hNW hlt hev h1 h2 hx hy hM1 hM hs hsW1 r5 r7 r8 r9 hls1
    generalize (f x.1).isSome = b at *
    cases b with
    | false =>
      have HV2 : Hid ((vals (pre ++ [x])).filter (fun i => (f i).isSome) = L) := Lib.hid (hV.out.trans (List.append_nil L))
      clear hV HL
      gi_wp2
      obtain ⟨hB, hb5, hb7, hr, hMW, hNW⟩ := HB.out
      have hfin : W.ownsRow N1 3 1 r ((vals (pre ++ [x])).filter (fun i => (f i).isSome)).length (((vals (pre ++ [x])).filter (fun i => (f i).isSome)).map encI) := by rw [HV2.out]; exact hr
      exact ⟨KeepsFrom.refl _ _, fun k hk hf => rfl, ⟨⟨hb5, r, hb7, hfin, trivial⟩, ⟨hMW, hB⟩, hNW⟩⟩
    | true =>
      have HV2 : Hid ((vals (pre ++ [x])).filter (fun i => (f i).isSome) = L ++ [x.1]) := Lib.hid hV.out
      clear hV HL
      gi_wp2_with (gi_at_builtin; refine wpListIn_app_int rfl _ _ rfl N1 _ _ rfl (IRow.alloc hr _) x.1 W.heap.size 1 rfl (cell_new rfl rfl) hll (Nat.le_trans HB.out.2.2.2.2.2 (by simp)) ?_; intro v' w1 hr' hg' _; have hap := Lib.hid (appB (by omega) HB.out.2.2.1 hr hr' hg'); have k7 := ((HB.out.2.2.1.alloc _).kept hg' (fun e => by have := IRow.ge hr _ e.symm; omega)).cell; have j7 := ((HB.out.2.2.1.alloc _).kept hg' (fun e => by have := IRow.ge hr _ e.symm; omega)).frozen; obtain ⟨va, vn, vc, rfl⟩ := hr'.sl; clear hr' hg')
      obtain ⟨hB, hb5, hb7, hr, hMW, hNW⟩ := HB.out
      obtain ⟨u1, u2, u3, u4⟩ := hap.out
      have hfin : (w1.setCell ⟨w.heap.size + 1, 0, none⟩ (.slice va vn vc)).ownsRow N1 3 1 (.slice va vn vc) ((vals (pre ++ [x])).filter (fun i => (f i).isSome)).length (((vals (pre ++ [x])).filter (fun i => (f i).isSome)).map encI) := by rw [HV2.out]; exact u3
      exact ⟨u4.from _, keepB_of u1 (by omega) (fun k hk hf hg => by rcases hg with hg | hg; exact hf hg; omega), ⟨⟨boxed_upd hb5 u1 (by omega), _, u2, hfin, trivial⟩, ⟨hMW.upd u1 (by omega), hB.trans (u1.below (fun k hk => by omega) hB.size)⟩, Nat.le_trans hNW u1.size⟩⟩
  case done =>
    rintro D zs W hD rfl ⟨⟨hb5, r, hb7, hr, _⟩, ⟨hMW, hB⟩, hNW⟩ hK
    have hzN := HN1.out
    rw [← hzN] at hD
    gi_wp2_with fail
    refine ⟨trivial, ?_⟩
    refine (callsIn_wide.2 (each_any _ ⟨_, _, _, rfl⟩ _)).mono ?_
    rintro e w' ⟨rfl, rfl⟩
    obtain ⟨W2, HW2⟩ := named ((W.alloc (.cells #[.slice ao lead.length cap] 37)).alloc (.cells #[.slice (some ⟨W.heap.size, 0, none⟩) 1 1] 65))
    rw [← HW2.out]
    have hBW2 : Below W.heap.size W W2 := by rw [HW2.out]; exact ((Below.refl _ W).alloc (Nat.le_refl _) _).alloc (by simp) _
    have hz2 : W2.heap.size = W.heap.size + 2 := by rw [HW2.out]; simp
    have q1 : W2.cell? ⟨W.heap.size, 0, none⟩ = some (.slice ao lead.length cap) := by rw [HW2.out]; exact cell_old (cell_new rfl rfl)
    have q2 : W2.cell? ⟨W.heap.size + 1, 0, none⟩ = some (.slice (some ⟨W.heap.size, 0, none⟩) 1 1) := by rw [HW2.out]; exact cell_new (by simp) rfl
    have cP := positions_each h1 (by omega) ((hs.bel hB).bel hBW2) q1 q2
    clear q1 q2
    gi_wp2_with fail
    refine ⟨trivial, ?_⟩
    refine (callsIn_wide.2 cP).mono ?_
    rintro e w3 ⟨K, es, rfl, hm, hp, hb3, hKK⟩
    clear cP
    gi_wp2_with fail
    refine ⟨trivial, ?_⟩
    refine (callsIn_wide.2 (each_any _ ⟨_, _, _, rfl⟩ _)).mono ?_
    rintro e w' ⟨rfl, rfl⟩
    gi_wp2_with fail
    obtain ⟨W5, HW5⟩ := named ((((w3.alloc (.cells #[.map (some K)] 184)).alloc (.cells #[.int .i64 0] 3)).alloc (.cells #[.slice ao2 foll.length cap2] 37)).alloc (.cells #[.slice (some ⟨w3.heap.size + 1 + 1, 0, none⟩) 1 1] 65))
    rw [← HW5.out]
    have hz3 := hb3.size
    have hz5 : W5.heap.size = w3.heap.size + 4 := by rw [HW5.out]; simp
    have hB35 : Below w3.heap.size w3 W5 := by rw [HW5.out]; exact ((((Below.refl _ w3).alloc (Nat.le_refl _) _).alloc (by simp) _).alloc (by simp; omega) _).alloc (by simp; omega) _
    have hBW5 : Below W.heap.size W W5 := (hBW2.trans (hb3.mono hBW2.size)).trans (hB35.mono (by omega))
    have hB5 : Below w.heap.size w W5 := hB.trans (hBW5.mono hB.size)
    have b5 : Boxed W5 w.heap.size 177 (.map (some M)) := hb5.kept (grown_none hBW5) (by simp)
    have b7 : Boxed W5 (w.heap.size + 1) 46 r := hb7.kept (grown_none hBW5) (by simp)
    have b9 : Boxed W5 w3.heap.size 184 (.map (some K)) := by rw [HW5.out]; exact (((Boxed.new w3 _ _).alloc _).alloc _).alloc _
    have b10 : Boxed W5 (w3.heap.size + 1) 3 (.int .i64 ((0 : Nat) : Int)) := by
      have h := (((Boxed.new (w3.alloc (.cells #[.map (some K)] 184)) 3 (.int .i64 0)).alloc (.cells #[.slice ao2 foll.length cap2] 37)).alloc (.cells #[.slice (some ⟨w3.heap.size + 1 + 1, 0, none⟩) 1 1] 65))
      rw [World.size_alloc] at h
      rw [HW5.out]; exact h
    have q7 : W5.cell? ⟨w3.heap.size + 2, 0, none⟩ = some (.slice ao2 foll.length cap2) := by rw [HW5.out]; exact cell_old (cell_new (by simp) rfl)
    have q8 : W5.cell? ⟨w3.heap.size + 3, 0, none⟩ = some (.slice (some ⟨w3.heap.size + 2, 0, none⟩) 1 1) := by rw [HW5.out]; exact cell_new (by simp) rfl
    have hrI : IRow W N1 r ((ids lead).filter (fun i => (f i).isSome)) := by have h := hr; rw [hx] at h; exact h
    have hrow : IRow W5 N1 r ((ids lead).filter (fun i => (f i).isSome)) := IRow.kept (F := fun _ => False) hrI ⟨hBW5.os, hBW5.tape, hBW5.output, hBW5.size, fun k hk _ => hBW5.block k hk⟩ (fun _ _ f => f)
    have hDl : D < W.heap.size := (Array.getElem?_eq_some_iff.1 hK).1
    have hK5 : W5.heap[D]? = some (.deferred (some [])) := (hBW5.block D hDl).trans hK
    have hrD : ∀ k, r.ownBlock = some k → (N1 ≤ k ∧ k < W.heap.size ∧ k ≠ D) ∨ W5.heap.size ≤ k := fun k e => .inl ⟨hrI.ge k e, hrI.lt k e, fun h => by
      subst h
      have := row_cells hrI k _ e hK
      cases this⟩
    have hm5 : IMap Tryz.prog 3 W5 K es := hm.below hB35 hm.lt
    have hKl := hm.lt
    have hM5 := hMW.bel hBW5
    obtain ⟨N5, HN5⟩ := named W5.heap.size
    obtain ⟨S0, HS0⟩ := named W.heap.size
    obtain ⟨B9, HB9⟩ := named w3.heap.size
    rw [← HN5.out] at hrD hz5
    rw [← HS0.out] at hrD hDl hz2
    rw [← HB9.out] at hz5 hz3 hKl b9 b10 q7 q8
    have hls5 := lists_off h2 hs (hs.bel hB5) (F := fun k => k = w.heap.size + 1 ∨ k = B9 + 1 ∨ (N1 ≤ k ∧ k < S0 ∧ k ≠ D)) (fun _k hk h => by omega) q7 (fun h => by omega)
    have hst : ∀ pre, Hid ((∀ y, (f y).isSome = true → y ∈ ids lead → y ∈ (ordSt (fun i => (f i).isSome) (ids lead) (vals pre)).1) ∧ (ordSt (fun i => (f i).isSome) (ids lead) (vals pre)).2 ≤ (ordSt (fun i => (f i).isSome) (ids lead) (vals pre)).1.length ∧ (ordSt (fun i => (f i).isSome) (ids lead) (vals pre)).1.length ≤ (ids lead).length + (vals pre).length) := fun pre => Lib.hid (ordSt_all _ _ _)
    have hstep : ∀ pre (x : OkInt), Hid (ordSt (fun i => (f i).isSome) (ids lead) (vals (pre ++ [x])) = Mg.step (fun i => (f i).isSome) (ids lead) (ordSt (fun i => (f i).isSome) (ids lead) (vals pre)) x.1) := fun pre x => Lib.hid (by rw [← ordSt_snoc]; unfold vals; rw [List.map_append]; rfl)
    obtain ⟨st, HST⟩ := named (fun pre : List OkInt => ordSt (fun i => (f i).isSome) (ids lead) (vals pre))
    have hys : ys.length ≤ 1000 := by have := congrArg List.length hy; rw [List.length_map, List.length_map] at this; omega
    refine wpIn_rangeFunc_ownG rfl (by omega) (gf := 169) (lb := #[.pointer (some ⟨B9 + 3, 0, none⟩)]) (by rw [HB9.out]; rfl) trivial (enters_of Tryz.func169 (by kernel_rfl) rfl)
      (each_stops _ (B9 + 3) (KeepB W5.heap.size (fun k => k = w.heap.size + 1 ∨ k = B9 + 1 ∨ (N1 ≤ k ∧ k < S0 ∧ k ≠ D))) (memOff W5 (fun k => k = w.heap.size + 1 ∨ k = B9 + 1 ∨ (N1 ≤ k ∧ k < S0 ∧ k ≠ D))) W5 (memOff_sees _ _) (sees_keepB memOff_lt) _ [foll] hls5 (memOff_of q8 (fun h => by have h : B9 + 3 = w.heap.size + 1 ∨ B9 + 3 = B9 + 1 ∨ (N1 ≤ B9 + 3 ∧ B9 + 3 < S0 ∧ B9 + 3 ≠ D) := h; omega)) ys (by rw [idsOf_one]; exact hy)) keepB_t (keepB_b (Nat.le_refl _)) (Below.refl _ _) (fun _ => rfl)
      (fun pre W => ((Boxed W w.heap.size 177 (.map (some M)) ∧ Boxed W B9 184 (.map (some K))) ∧ (∃ r : Value, (Boxed W (w.heap.size + 1) 46 r ∧ W.ownsRow N1 3 1 r (st pre).1.length ((st pre).1.map encI) ∧ True) ∧ Boxed W (B9 + 1) 3 (.int .i64 ((st pre).2 : Nat)) ∧ (∀ k, r.ownBlock = some k → (N1 ≤ k ∧ k < S0 ∧ k ≠ D) ∨ N5 ≤ k))) ∧ (((EMap mem W M n f ∧ IMap Tryz.prog 3 W K es) ∧ Below w.heap.size w W) ∧ N5 ≤ W.heap.size ∧ W.heap[D]? = some (.deferred (some []))))
      (fun _ _ _ => False)
      (OwnFrom.and (OwnFrom.and (OwnFrom.and (Own.from (boxed_own _ _ (fun _ => .map (some M))) _) (Own.from (boxed_own _ _ (fun _ => .map (some K))) _))
          (fun s A B row ⟨r, g1, g2, g3⟩ hg hr => by
            obtain ⟨a1, a2, _⟩ := g1
            refine ⟨r, ⟨boxed_own _ _ (fun _ : Unit => r) () A B row a1 hg (fun r e => (hr r e).2), World.ownsRow.kept a2 hg ?_, trivial⟩, boxed_own _ _ (fun _ : Unit => .int .i64 ((st s).2 : Nat)) () A B row g2 hg (fun r e => (hr r e).2), g3⟩
            by_cases e0 : r.ownBlock = none
            · exact .inl e0
            · refine .inr (fun e2 => ?_)
              obtain ⟨b, hb⟩ := Option.ne_none_iff_exists'.1 e0
              obtain ⟨_, o, ho, hc⟩ := hr b (e2.symm.trans hb)
              have := row_cells a2 b o hb ho
              rw [this] at hc; cases hc))
        (OwnFrom.and (OwnFrom.and (OwnFrom.and (fun s A B row hs hg hr => hs.grown hg (fun e => by have := (hr _ e.symm).1; rw [← HN5.out] at this; omega)) (fun s A B row hs hg hr => hs.grown hg (fun e => by have := (hr _ e.symm).1; rw [← HN5.out] at this; omega))) (ownFrom_below (Nat.le_refl _) (by rw [← HN5.out]; omega)))
          (OwnFrom.and (fun s A B row hs hg hr => Nat.le_trans hs hg.size) (fun s A B row hs hg hr => (hg.block D (Array.getElem?_eq_some_iff.1 hs).1 (fun e => by have := (hr _ e.symm).1; rw [← HN5.out] at this; omega)).trans hs))))
      (fun _ _ _ _ _ hs _ _ => hs)
      ⟨⟨⟨b5, b9⟩, r, ⟨b7, by rw [HST.out]; exact hrow, trivial⟩, by rw [HST.out]; exact b10, hrD⟩, ⟨⟨hM5, hm5⟩, hB5⟩, by rw [HN5.out]; exact Nat.le_refl _, hK5⟩
      (fun x => { tmps := #[.slice ao lead.length cap, .slice ao2 foll.length cap2, .map (some M), undef, undef, .pointer (some ⟨w.heap.size, 0, none⟩), .slice none 0 0, .pointer (some ⟨w.heap.size + 1, 0, none⟩), undef, .pointer (some ⟨w3.heap.size, 0, none⟩), .pointer (some ⟨w3.heap.size + 1, 0, none⟩), .int .i64 x.1, undef, undef,
          .slice ao lead.length cap, .slice (some ⟨w.heap.size + 1 + 1, 0, none⟩) 1 1, .func (.func 169) #[] #[.pointer (some ⟨w.heap.size + 1 + 1 + 1, 0, none⟩)], undef, undef, undef, undef, undef, undef, undef, undef, undef,
          .slice ao lead.length cap, .slice (some ⟨W.heap.size, 0, none⟩) 1 1, .func (.func 169) #[] #[.pointer (some ⟨W.heap.size + 1, 0, none⟩)], .map (some K), .slice ao2 foll.length cap2, .slice (some ⟨w3.heap.size + 1 + 1, 0, none⟩) 1 1, .func (.func 169) #[] #[.pointer (some ⟨w3.heap.size + 1 + 1 + 1, 0, none⟩)], .int .i64 x.1, undef, undef, undef, undef, undef, undef, undef, undef, undef, undef, undef, undef, undef, undef, undef, undef, undef, undef, undef, undef, undef, undef, undef, undef], defers := [] }) ?assign2 ?body2 ?done2 ?stop2
    case assign2 =>
      intro l x W K hK
      gi_wp2
      exact hK
    case stop2 =>
      rintro D c pre W _ _ h _
      exact h.elim
    case body2 =>
      rintro l0 pre x Wb ⟨⟨⟨hb5', hb9⟩, r', ⟨hb7', hr', _⟩, hb10, hrb⟩, ⟨⟨⟨hMW', hmW⟩, hB'⟩, hNW', hDW⟩⟩ hlt
      obtain ⟨ev, hlk, hev⟩ := hMW'.look x.2
      obtain ⟨e0, e1, et, e3, e4, e5, ea, en, ec, e7, e8, rfl⟩ := hev.form
      have hlp := hmW.lookOk Tryz.underlying3 Tryz.underlying184 (zero_int Wb) x.2
      rw [hp.has, hp.val] at hlp
      generalize (((if x.1 ∈ ids lead then (ids lead).idxOf x.1 else 0 : Nat)) : Int) = z at hlp
      have hfl := field_some e0 e1 e3 e4 e5 e7 e8 et ea en ec (f x.1).isSome
      have c5 := hb5'.cell
      have c7 := hb7'.cell
      have f7 := hb7'.frozen
      have c9 := hb9.cell
      have c10 := hb10.cell
      have f10 := hb10.frozen
      have hrow' : IRow Wb N1 r' (st pre).1 := hr'
      have hs1 : st (pre ++ [x]) = Mg.step (fun i => (f i).isSome) (ids lead) (st pre) x.1 := by rw [HST.out]; exact (hstep pre x).out
      have hs2 : (∀ y, (f y).isSome = true → y ∈ ids lead → y ∈ (st pre).1) ∧ (st pre).2 ≤ (st pre).1.length ∧ (st pre).1.length ≤ (ids lead).length + (vals pre).length := by rw [HST.out]; exact (hst pre).out
      have hlen : (st pre).1.length ≤ 100000 := by
        have := hs2.2.2
        rw [List.length_map, List.length_map] at this
        omega
      have H0 := Lib.hid (And.intro hB' (And.intro hb5' (And.intro hb9 (And.intro hb7' (And.intro hrow' (And.intro hb10 (And.intro hrb (And.intro hMW' (And.intro hmW (And.intro hNW' (And.intro hDW (And.intro hs1 hs2))))))))))))
      have hz9 := HB9.out
      rw [HB9.out] at c9 c10 f10
      have hzS := HS0.out
      clear hb5' hb9 hb7' hr' hb10 hrb hMW' hmW hB' hNW' hDW hlt hev hs1 hs2 hrow' hstep hst
      clear h1 h2 hx hy hM1 hM hs hsW1 r5 r7 r8 r9 hls1 hls5 hb5 hb7 hr hMW hB hNW hK hm hp hb3 hBW2 hB35 hBW5 hB5 b5 b7 b9 b10 q7 q8 hrI hrow hK5 hrD hm5 hM5
      by_cases hb : (f x.1).isSome = true
      · rw [hb] at hlk hfl
        have HF := Lib.hid hb
        clear hb
        by_cases hx2 : x.1 ∈ ids lead
        · rw [decide_eq_true hx2] at hlp
          have HX := Lib.hid hx2
          clear hx2
          gi_wp2_with fail
          refine ⟨trivial, ?_⟩
          refine (CallsIn.inRound l0 (callsIn_wide.2 (index_any _ _ (IRow.ints H0.out.2.2.2.2.1) x.1 Wb (Sees.self Wb)))).mono ?_
          rintro e w' ⟨rfl, rfl⟩
          have hmem : x.1 ∈ (st pre).1 := H0.out.2.2.2.2.2.2.2.2.2.2.2.2.1 x.1 HF.out HX.out
          have hidx : idxI (st pre).1 x.1 = (((st pre).1.idxOf x.1 : Nat) : Int) := by unfold idxI; rw [if_pos hmem]
          have hjl := List.idxOf_lt_length_iff.2 hmem
          obtain ⟨j, HJ⟩ := named ((st pre).1.idxOf x.1)
          rw [← HJ.out] at hidx hjl
          rw [hidx]
          clear hidx hmem
          gi_wp2
          obtain ⟨hB', hb5', hb9, hb7', hrow', hb10, hrb, hMW', hmW, hNW', hDW, hs1, hs2⟩ := H0.out
          have e1 : st (pre ++ [x]) = ((st pre).1, j + 1) := by
            rw [hs1]; unfold Mg.step
            rw [if_pos (show (f x.1).isSome = true from HF.out), if_pos HX.out, ← HJ.out]
          have hu := (Upd.refl (fun k => k = B9 + 1) Wb).setCell (p := ⟨w3.heap.size + 1, 0, none⟩) (.inl (by rw [HB9.out])) (.int .i64 ((j : Int) + 1))
          have hrr : ∀ k, r'.ownBlock = some k → ¬ k = B9 + 1 := fun k e h => by have := hrb k e; omega
          have hb2 : Boxed (Wb.setCell ⟨w3.heap.size + 1, 0, none⟩ (.int .i64 ((j : Int) + 1))) (B9 + 1) 3 (.int .i64 ((j + 1 : Nat) : Int)) := by
            rw [HB9.out] at hb10 ⊢; exact hb10.set _
          exact ⟨(KeepsOthers.setCell _ _ _).from _, keepB_of hu (by have := HN5.out; omega) (fun k hk hf hg => hf (.inr (.inl hg))), ⟨⟨⟨boxed_upd hb5' hu (by omega), boxed_upd hb9 hu (by omega)⟩, r', ⟨boxed_upd hb7' hu (by omega), by rw [e1]; exact IRow.kept hrow' hu hrr, trivial⟩, by rw [e1]; exact hb2, hrb⟩, ⟨⟨hMW'.upd hu (by omega), hmW.upd hu (by omega)⟩, hB'.trans (hu.below (fun k hk => by omega) hB'.size)⟩, Nat.le_trans hNW' hu.size, (hu.block D (Array.getElem?_eq_some_iff.1 hDW).1 (by omega)).trans hDW⟩⟩
        · rw [decide_eq_false hx2] at hlp
          have HX := Lib.hid hx2
          clear hx2
          gi_wp2_with fail
          refine ⟨trivial, ?_⟩
          have hrne : r'.ownBlock ≠ some Wb.heap.size := fun e => by have := (IRow.lt H0.out.2.2.2.2.1) _ e; omega
          refine (CallsIn.inRound l0 (callsIn_wide.2 (insert_any _ N1 (by have := H0.out.2.2.2.2.2.2.2.2.2.1; simp; omega) _ _ (IRow.alloc H0.out.2.2.2.2.1 _) (st pre).2 H0.out.2.2.2.2.2.2.2.2.2.2.2.2.2.1 x.1 Wb.heap.size (World.alloc_heap_new _ _) hrne hlen))).mono ?_
          rintro e w1 ⟨v', rfl, hr1, hg1, ho1⟩
          have k7 := ((H0.out.2.2.2.1.alloc _).kept hg1 (fun e => by have := IRow.ge H0.out.2.2.2.2.1 _ e.symm; omega)).cell
          have j7 := ((H0.out.2.2.2.1.alloc _).kept hg1 (fun e => by have := IRow.ge H0.out.2.2.2.2.1 _ e.symm; omega)).frozen
          have k10 := ((H0.out.2.2.2.2.2.1.alloc _).kept hg1 (fun e => by have := H0.out.2.2.2.2.2.2.1 _ e.symm; omega)).cell
          have j10 := ((H0.out.2.2.2.2.2.1.alloc _).kept hg1 (fun e => by have := H0.out.2.2.2.2.2.2.1 _ e.symm; omega)).frozen
          rw [hz9] at k10 j10
          have hk2 : (st pre).2 ≤ 100000 := Nat.le_trans H0.out.2.2.2.2.2.2.2.2.2.2.2.2.2.1 hlen
          have H1 := Lib.hid (And.intro hr1 (And.intro hg1 ho1))
          obtain ⟨va, vn, vc, rfl⟩ := hr1.sl
          clear hr1 hg1 ho1
          gi_wp2
          obtain ⟨hB', hb5', hb9, hb7', hrow', hb10, hrb, hMW', hmW, hNW', hDW, hs1, hs2⟩ := H0.out
          obtain ⟨hr1, hg1, ho1⟩ := H1.out
          have e1 : st (pre ++ [x]) = (insAt (st pre).1 (st pre).2 x.1, (st pre).2 + 1) := by
            rw [hs1]; unfold Mg.step
            rw [if_pos (show (f x.1).isSome = true from HF.out), if_neg HX.out]
          have hu := ordUpd (B7 := w.heap.size + 1) (B10 := w3.heap.size + 1) (v' := .slice va vn vc) hg1 (.int .i64 (((st pre).2 : Int) + 1))
          have b7w : Boxed w1 (w.heap.size + 1) 46 r' := (hb7'.alloc _).kept hg1 (fun e => by have := IRow.ge hrow' _ e.symm; omega)
          have b10w : Boxed w1 (B9 + 1) 3 (.int .i64 ((st pre).2 : Nat)) := (hb10.alloc _).kept hg1 (fun e => by have := hrb _ e.symm; omega)
          have hb2 : Boxed ((w1.setCell ⟨w.heap.size + 1, 0, none⟩ (.slice va vn vc)).setCell ⟨w3.heap.size + 1, 0, none⟩ (.int .i64 (((st pre).2 : Int) + 1))) (B9 + 1) 3 (.int .i64 (((st pre).2 + 1 : Nat) : Int)) := by
            rw [HB9.out] at b10w ⊢; exact (b10w.other (by omega) _).set _
          have hb1 : Boxed ((w1.setCell ⟨w.heap.size + 1, 0, none⟩ (.slice va vn vc)).setCell ⟨w3.heap.size + 1, 0, none⟩ (.int .i64 (((st pre).2 : Int) + 1))) (w.heap.size + 1) 46 (.slice va vn vc) := (b7w.set _).other (by omega) _
          have hsz : (Wb.alloc (.cells #[.int .i64 x.1] 3)).heap.size = Wb.heap.size + 1 := by simp
          rw [hsz] at ho1
          have hrr : ∀ k, (Value.slice va vn vc).ownBlock = some k → (N1 ≤ k ∧ k < S0 ∧ k ≠ D) ∨ N5 ≤ k := fun k e => by
            rcases ho1 with h | h
            · exact hrb k (h ▸ e)
            · have : some k = some (Wb.heap.size + 1) := e.symm.trans h
              injection this with this; right; omega
          have hrow2 : IRow ((w1.setCell ⟨w.heap.size + 1, 0, none⟩ (.slice va vn vc)).setCell ⟨w3.heap.size + 1, 0, none⟩ (.int .i64 (((st pre).2 : Int) + 1))) N1 (.slice va vn vc) (insAt (st pre).1 (st pre).2 x.1) :=
            IRow.kept (F := fun k => k = w.heap.size + 1 ∨ k = w3.heap.size + 1) hr1 (((Upd.refl _ _).setCell (.inl (.inl rfl)) _).setCell (.inl (.inr rfl)) _) (fun k e h => by have := hrr k e; rcases h with h | h <;> omega)
          have hG : ∀ k, (k = w.heap.size + 1 ∨ k = w3.heap.size + 1 ∨ r'.ownBlock = some k) → k = w.heap.size + 1 ∨ k = B9 + 1 ∨ (N1 ≤ k ∧ k < S0 ∧ k ≠ D) ∨ N5 ≤ k := fun k h => by
            rcases h with h | h | h
            · exact .inl h
            · exact .inr (.inl (by omega))
            · exact .inr (.inr (hrb k h))
          have hn : ∀ k, k ≠ w.heap.size + 1 → k ≠ B9 + 1 → ¬ (N1 ≤ k ∧ k < S0 ∧ k ≠ D) → k < N5 → ¬ (k = w.heap.size + 1 ∨ k = w3.heap.size + 1 ∨ r'.ownBlock = some k) := fun k a b c d h => by
            have := hG k h; omega
          have hko : KeepsOthers Wb ((w1.setCell ⟨w.heap.size + 1, 0, none⟩ (.slice va vn vc)).setCell ⟨w3.heap.size + 1, 0, none⟩ (.int .i64 (((st pre).2 : Int) + 1))) :=
            (((KeepsOthers.alloc Wb _).trans (KeepsOthers.of_grownBy hg1 (fun j ob e ho => row_cells (IRow.alloc hrow' _) j ob e ho))).trans (KeepsOthers.setCell _ _ _)).trans (KeepsOthers.setCell _ _ _)
          exact ⟨hko.from _, keepB_of hu (by have := HN5.out; omega) (fun k hk hf hg => by have := HN5.out; have := hG k hg; rcases this with h | h | h | h; exact hf (.inl h); exact hf (.inr (.inl h)); exact hf (.inr (.inr h)); omega), ⟨⟨⟨boxed_upd hb5' hu (hn _ (by omega) (by omega) (by omega) (by omega)), boxed_upd hb9 hu (hn _ (by omega) (by omega) (by omega) (by omega))⟩, _, ⟨hb1, by rw [e1]; exact hrow2, trivial⟩, by rw [e1]; exact hb2, hrr⟩, ⟨⟨hMW'.upd hu (hn _ (by omega) (by omega) (by omega) (by omega)), hmW.upd hu (hn _ (by omega) (by omega) (by omega) (by omega))⟩, hB'.trans (hu.below (fun k hk => by have := hG k hk; omega) hB'.size)⟩, Nat.le_trans hNW' hu.size, (hu.block D (Array.getElem?_eq_some_iff.1 hDW).1 (hn _ (by omega) (by omega) (by omega) (by omega))).trans hDW⟩⟩
      · rw [Bool.not_eq_true] at hb
        rw [hb] at hlk hfl
        have HF := Lib.hid hb
        clear hb
        gi_wp2
        obtain ⟨hB', hb5', hb9, hb7', hrow', hb10, hrb, hMW', hmW, hNW', hDW, hs1, hs2⟩ := H0.out
        have e1 : st (pre ++ [x]) = st pre := by rw [hs1]; unfold Mg.step; rw [if_neg (show ¬ ((f x.1).isSome = true) by rw [HF.out]; simp)]
        exact ⟨KeepsFrom.refl _ _, fun k hk hf => rfl, ⟨⟨⟨hb5', hb9⟩, r', ⟨hb7', by rw [e1]; exact hrow', trivial⟩, by rw [e1]; exact hb10, hrb⟩, ⟨⟨hMW', hmW⟩, hB'⟩, hNW', hDW⟩⟩
    case done2 =>
      rintro D2 zs W6 hD2 rfl ⟨⟨⟨hb5', hb9⟩, r', ⟨hb7', hr', _⟩, hb10, hrb⟩, ⟨⟨⟨hMW', hmW⟩, hB'⟩, hNW', hDW⟩⟩ hK2
      have c7 := hb7'.cell
      have f7 := hb7'.frozen
      gi_wp2_with fail
      have hN5 := HN5.out
      have hS0 := HS0.out
      have hDW2 := ((grownBy_putObj' W6 D2 (.deferred none)).block D (Array.getElem?_eq_some_iff.1 hDW).1 (fun e => by cases e; omega)).trans hDW
      refine ⟨by simp, .inl ⟨_, _, rfl, run_takeDeferred hK2, ?_⟩⟩
      refine ⟨by simp, .inl ⟨_, _, rfl, run_takeDeferred hDW2, ?_⟩⟩
      have hg := (grownBy_putObj' W6 D2 (.deferred none))
      have hg2 := (grownBy_putObj' (W6.putObj D2 (.deferred none)) D (.deferred none))
      have hrow : IRow W6 N1 r' (orderF (fun i => (f i).isSome) (ids lead) (ids foll)) := by
        have h : IRow W6 N1 r' (st zs).1 := hr'
        rw [HST.out] at h
        rw [← hy]; exact h
      have hrow2 : IRow ((W6.putObj D2 (.deferred none)).putObj D (.deferred none)) N1 r' (orderF (fun i => (f i).isSome) (ids lead) (ids foll)) :=
        IRow.kept (F := fun k => k = D ∨ k = D2) hrow ⟨hg2.os.trans hg.os, hg2.tape.trans hg.tape, hg2.output.trans hg.output, Nat.le_trans hg.size hg2.size, fun k hk hn => (hg2.block k (Nat.lt_of_lt_of_le hk hg.size) (fun e => by cases e; exact hn (.inl rfl))).trans (hg.block k hk (fun e => by cases e; exact hn (.inr rfl)))⟩ (fun k e h => by
          rcases h with h | h
          · have := hrb k e; omega
          · subst h
            have := row_cells hrow k _ e hK2
            cases this)
      have hbe : Below w.heap.size w ((W6.putObj D2 (.deferred none)).putObj D (.deferred none)) :=
        (hB'.trans (belowK_b (w := w) (Nat.le_refl _) W6 D2 _ (.deferred none) (by omega) hK2 rfl rfl)).trans (belowK_b (w := w) (Nat.le_refl _) _ D _ (.deferred none) (by omega) hDW2 rfl rfl)
      refine ⟨_, results_tmp rfl _ _ _, _, rfl, ?_, hbe⟩
      exact ⟨hrow2.1, by
        rcases hrow2.2 with h | ⟨g, cp, cur, h1, h2, rest⟩
        · exact .inl h
        · exact .inr ⟨g, cp, cur, h1, by omega, rest⟩⟩
theorem order_any {mem : Addr → Option Value} {v u : Value} {lead foll : List Blk} (h1 : BlksM mem v lead) (h2 : BlksM mem u foll) (hl1 : lead.length ≤ 1000) (hl2 : foll.length ≤ 1000) (M n : Nat) (f : Int → Option Blk) (w : World) (hs : Sees mem w) (hM : EMap mem w M n f) :
    Calls Tryz.prog 138 #[v, u, .map (some M)] w (OrdPost (orderF (fun i => (f i).isSome) (ids lead) (ids foll)) w) := callsIn_wide.1 (order_wide 5 h1 h2 hl1 hl2 M n f w hs hM)
end Go.Proofs.YtdkkhmjlamkgdaaGreatDoor
namespace Go.Proofs.YtdkkhmjlamkgdaaGreatDoor
open Go.RowKit Mg Go.Shelf

structure TakePost (mem : Addr → Option Value) (C b5 B n : Nat) (g : Int → Option Blk) (p : Option Blk × Bool) (i : Int) (L : List Int) (w w' : World) : Prop where
  upd : Upd (fun k => k = C ∨ k = b5 ∨ B ≤ k) w w'
  map : EMap mem w' C (if p.1.isSome then n + 1 else n) (fun j => if j = i then p.1 else g j)
  row : ∃ r', Boxed w' b5 46 r' ∧ IRow w' B r' (L ++ selB p.2 i)

set_option maxRecDepth 100000 in
set_option maxHeartbeats 4000000 in
theorem take_any {mem : Addr → Option Value} {M1 M2 M3 C n1 n2 n3 n b1 b2 b3 b4 b5 B : Nat} {f1 f2 f3 g : Int → Option Blk} {r : Value} {L : List Int} (i : Int) (w : World) (hs : Sees mem w)
    (h1 : EMap mem w M1 n1 f1) (h2 : EMap mem w M2 n2 f2) (h3 : EMap mem w M3 n3 f3) (hC : EMap mem w C n g) (hg : g i = none) (hn : n ≤ 100000) (hi : okI i)
    (hb1 : Boxed w b1 177 (.map (some M1))) (hb2 : Boxed w b2 177 (.map (some M2))) (hb3 : Boxed w b3 177 (.map (some M3))) (hb4 : Boxed w b4 177 (.map (some C))) (hb5 : Boxed w b5 46 r) (hr : IRow w B r L) (hl : L.length ≤ 100000) (hB : B ≤ w.heap.size) (hlt : b5 < B) (hCB : C < B) (hne : C ≠ b5) :
    Calls Tryz.prog 132 #[.int .i64 i, .pointer (some ⟨b1, 0, none⟩), .pointer (some ⟨b2, 0, none⟩), .pointer (some ⟨b3, 0, none⟩), .pointer (some ⟨b4, 0, none⟩), .pointer (some ⟨b5, 0, none⟩)] w fun e w' => e = .returned (.tuple #[]) ∧ TakePost mem C b5 B n g (pick (f1 i) (f2 i) (f3 i)) i L w w' := by
  obtain ⟨v1, k1, e1⟩ := h1.look hi
  obtain ⟨v2, k2, e2⟩ := h2.look hi
  obtain ⟨v3, k3, e3⟩ := h3.look hi
  have c1 := hb1.cell
  have c2 := hb2.cell
  have c3 := hb3.cell
  have HB := Lib.hid (And.intro hb4 (And.intro hb5 (And.intro hr hC)))
  have hch := choose_any e1 e2 e3 w hs
  generalize pick (f1 i) (f2 i) (f3 i) = p at *
  clear h1 h2 h3 hb1 hb2 hb3 hb4 hb5 hr hC e1 e2 e3
  go_enter Tryz.func132, Tryz.ntmps132
  go_wp2_with fail
  refine hch.mono ?_
  rintro e w1 ⟨v, rfl, hv, hb⟩
  clear k1 k2 k3 c1 c2 c3 hch
  obtain ⟨p1, p2⟩ := p
  obtain ⟨hb4, hb5, hr, hC⟩ := HB.out
  have hb4' := boxed_bel hb4 hb
  have hb5' := boxed_bel hb5 hb
  have hr1 := hr.bel hb
  have hC1 := hC.bel hb
  have hsz := hb.size
  clear hb4 hb5 hr hC
  have c5 := hb5'.cell
  have f5 := hb5'.frozen
  have c4 := hb4'.cell
  have l5 := hb5'.lt
  have l4 := hb4'.lt
  cases p1 with
  | none =>
    obtain rfl : v = zeroEnt := hv
    unfold zeroEnt
    have HE : Hid (∀ W : World, EMap mem W C n g → EMap mem W C n (fun j => if j = i then none else g j)) := Lib.hid (fun W h => h.ext (fun j => by by_cases e : j = i <;> simp [e, hg]))
    have X5 := hb5'.alloc (.cells #[.int .i64 0, .int .i64 0, .string .empty, .int .i64 0, .int .i64 0, .int .i64 0, .slice none 0 0, .int .i64 0, .int .i64 0, .bool false] 180)
    have XR := IRow.alloc hr1 (.cells #[.int .i64 0, .int .i64 0, .string .empty, .int .i64 0, .int .i64 0, .int .i64 0, .slice none 0 0, .int .i64 0, .int .i64 0, .bool false] 180)
    have XC := hC1.alloc (.cells #[.int .i64 0, .int .i64 0, .string .empty, .int .i64 0, .int .i64 0, .int .i64 0, .slice none 0 0, .int .i64 0, .int .i64 0, .bool false] 180)
    obtain ⟨W2, HW2⟩ := named (w1.alloc (.cells #[.int .i64 0, .int .i64 0, .string .empty, .int .i64 0, .int .i64 0, .int .i64 0, .slice none 0 0, .int .i64 0, .int .i64 0, .bool false] 180))
    have hb2 : Below w.heap.size w W2 := by rw [HW2.out]; exact hb.alloc hsz _
    have XB : B ≤ (w1.alloc (.cells #[.int .i64 0, .int .i64 0, .string .empty, .int .i64 0, .int .i64 0, .int .i64 0, .slice none 0 0, .int .i64 0, .int .i64 0, .bool false] 180)).heap.size := by simp; omega
    have hu0 := Upd.of_below hb2
    rw [HW2.out] at hu0
    clear hb2 HW2
    cases p2 with
    | false =>
      go_wp2_with fail
      go_end0
      exact ⟨rfl, hu0.mono (fun k h => .inl (.inr (.inr (Nat.le_trans hB h)))), HE.out _ XC, r, X5, by simpa [selB] using XR⟩
    | true =>
      go_wp2_with (at_builtin; refine wpList_app_int rfl _ _ rfl B _ _ rfl (IRow.alloc XR _) i (w1.alloc (.cells #[.int .i64 0, .int .i64 0, .string .empty, .int .i64 0, .int .i64 0, .int .i64 0, .slice none 0 0, .int .i64 0, .int .i64 0, .bool false] 180)).heap.size 1 (by simp <;> rfl) (cell_new rfl rfl) hl (Nat.le_trans XB (by simp)) ?_; intro v' w3 hr' hg' _; have hap := Lib.hid (appB hlt X5 XR hr' hg'); have k7 := ((X5.alloc _).kept hg' (fun e => by have := IRow.ge XR _ e.symm; omega)).cell; have j7 := ((X5.alloc _).kept hg' (fun e => by have := IRow.ge XR _ e.symm; omega)).frozen; obtain ⟨va, vn, vc, rfl⟩ := hr'.sl; clear hr' hg')
      go_end0
      obtain ⟨u1, u2, u3, _⟩ := hap.out
      exact ⟨rfl, (hu0.mono (G := fun k => k = C ∨ k = b5 ∨ B ≤ k) (fun k h => .inl (.inr (.inr (Nat.le_trans hB h))))).trans u1 (fun k h => .inl (.inr h)), HE.out _ (XC.upd u1 (by omega)), _, u2, by simpa [selB] using u3⟩
  | some x =>
    obtain ⟨ao, cap, hints, rfl⟩ := hv
    have hC2 := hC1.alloc (.cells #[.int .i64 x.id, .int .i64 x.kind, .string x.text, .int .i64 x.story, .int .i64 x.ref, .int .i64 x.lab.till, .slice ao x.lab.after.length cap, .int .i64 x.lab.appr, .int .i64 x.lab.denied, .bool true] 180)
    obtain ⟨w2, hst, hM2, hg2⟩ := hC2.store hn hi hg (x := x) (v := entAgg x (.slice ao x.lab.after.length cap)) ⟨ao, cap, hints, rfl⟩
    have hu0 : Upd (fun k => k = C ∨ k = b5 ∨ B ≤ k) w w2 := (((Upd.of_below hb).mono (G := fun k => k = C ∨ k = b5 ∨ B ≤ k) (fun k h => .inl (.inr (.inr (Nat.le_trans hB h))))).alloc (.cells #[.int .i64 x.id, .int .i64 x.kind, .string x.text, .int .i64 x.story, .int .i64 x.ref, .int .i64 x.lab.till, .slice ao x.lab.after.length cap, .int .i64 x.lab.appr, .int .i64 x.lab.denied, .bool true] 180)).grown hg2 (fun k e => by cases e; exact .inl (.inl rfl))
    have X5 := (hb5'.alloc (.cells #[.int .i64 x.id, .int .i64 x.kind, .string x.text, .int .i64 x.story, .int .i64 x.ref, .int .i64 x.lab.till, .slice ao x.lab.after.length cap, .int .i64 x.lab.appr, .int .i64 x.lab.denied, .bool true] 180)).kept hg2 (fun e => by cases e; exact hne rfl)
    have XR : IRow w2 B r L := IRow.kept (F := fun k => k = C) (hr1.alloc (.cells #[.int .i64 x.id, .int .i64 x.kind, .string x.text, .int .i64 x.story, .int .i64 x.ref, .int .i64 x.lab.till, .slice ao x.lab.after.length cap, .int .i64 x.lab.appr, .int .i64 x.lab.denied, .bool true] 180)) ((Upd.refl _ _).grown hg2 (fun k e => by cases e; exact .inl rfl)) (fun k e h => by have := hr1.ge k e; omega)
    have XB : B ≤ w2.heap.size := Nat.le_trans hB hu0.size
    have c5 := X5.cell
    have f5 := X5.frozen
    have l5 := X5.lt
    simp only [entAgg] at hst
    unfold entAgg
    have HM := Lib.hid hM2
    clear hM2 hg2 hC2 hC1 hr1 hb5' hb4' hints
    cases p2 with
    | false =>
      go_wp2_with fail
      go_end0
      exact ⟨rfl, hu0, HM.out, r, X5, by simpa [selB] using XR⟩
    | true =>
      go_wp2_with (at_builtin; refine wpList_app_int rfl _ _ rfl B _ _ rfl (IRow.alloc XR _) i w2.heap.size 1 rfl (cell_new rfl rfl) hl (Nat.le_trans XB (by simp)) ?_; intro v' w3 hr' hg' _; have hap := Lib.hid (appB hlt X5 XR hr' hg'); have k7 := ((X5.alloc _).kept hg' (fun e => by have := IRow.ge XR _ e.symm; omega)).cell; have j7 := ((X5.alloc _).kept hg' (fun e => by have := IRow.ge XR _ e.symm; omega)).frozen; obtain ⟨va, vn, vc, rfl⟩ := hr'.sl; clear hr' hg')
      go_end0
      obtain ⟨u1, u2, u3, _⟩ := hap.out
      exact ⟨rfl, hu0.trans u1 (fun k h => .inl (.inr h)), HM.out.upd u1 (by omega), _, u2, by simpa [selB] using u3⟩
end Go.Proofs.YtdkkhmjlamkgdaaGreatDoor
namespace Go.Proofs.YtdkkhmjlamkgdaaGreatDoor
open Go.RowKit Go.Shelf Go.Maps Go.Sort

theorem sorts_any (m : Nat) : AnyZI.SortsIn Tryz.prog Tryz.sortedA_ren Fence.wide m :=
  ⟨fun blk off cap ss W hH hblk hsz => callsIn_wide.2 (AnyM.slices_Sort_int Tryz.sortA blk off cap ss W hH hblk hsz),
   fun p cap W => callsIn_wide.2 (AnyM.slices_Sort_int_none Tryz.sortA p cap W)⟩
theorem keys_perm {P : Program} {k : TypeId} {w : World} {b : Nat} {l : List (Int × Value)} (K : Maps.Keyed P k) (hk : P.underlying k = some (.int .i64)) (h : IMap P k w b l) :
    ∃ D : DataW Value, w.ownsMap P k heldV b l.length D ∧ Maps.size D = l.length ∧ (keysL l).Perm (intKeys D) := by
  obtain ⟨D, h1, h2, h3, h4, h5⟩ := h
  refine ⟨D, h1, h4, ?_⟩
  refine CollectedI.perm (left := fun _ => false) ⟨h2, fun x => ?_⟩ h1 K hk (fun _ => rfl)
  by_cases hx : Go.Proofs.YtdkkhmjlamkgdaaGreatDoor.okI x
  · rw [(h5 x hx).1]; simp
  · constructor
    · intro hm
      obtain ⟨p, hp, rfl⟩ := List.mem_map.1 hm
      exact absurd (h3 p hp) hx
    · rintro ⟨hh, _⟩
      obtain ⟨es, rfl, hko⟩ := h1.keysOf
      rw [has_eq, List.any_eq_true] at hh
      obtain ⟨p, hp, hs⟩ := hh
      obtain ⟨v, hv⟩ := hko p hp
      obtain ⟨y, _, hy, hl⟩ := Maps.keyOf_i64 hk hv
      rw [hy] at hs
      have : y = x := by simpa [Lit.sameKey] using hs
      subst this
      refine absurd ?_ hx
      have e1 : IntKind.i64.min = -9223372036854775808 := by decide
      have e2 : IntKind.i64.max = 9223372036854775807 := by decide
      simp only [Lit.wf, e1, e2, Bool.and_eq_true, decide_eq_true_eq] at hl
      exact hl
theorem sort_up {l s : List Int} (hn : l.Nodup) (hp : s.Perm l) : (s.mergeSort (fun x y => decide (x ≤ y))).Pairwise (fun x y => x < y) ∧ ∀ y, y ∈ s.mergeSort (fun x y => decide (x ≤ y)) ↔ y ∈ l := by
  have tr : ∀ a b c : Int, decide (a ≤ b) = true → decide (b ≤ c) = true → decide (a ≤ c) = true := fun a b c h1 h2 => by simp only [decide_eq_true_eq] at *; exact Int.le_trans h1 h2
  have to : ∀ a b : Int, (decide (a ≤ b) || decide (b ≤ a)) = true := fun a b => by simp only [Bool.or_eq_true, decide_eq_true_eq]; exact Int.le_total a b
  have hq := (List.mergeSort_perm s (fun x y => decide (x ≤ y))).trans hp
  refine ⟨?_, fun y => hq.mem_iff⟩
  have h1 := List.pairwise_mergeSort tr to s
  have h2 : (s.mergeSort (fun x y => decide (x ≤ y))).Nodup := (hq.nodup_iff).2 hn
  exact (h1.and h2).imp (fun ⟨a, b⟩ => by simp only [decide_eq_true_eq] at a; omega)
def SortedPost (l : List Int) (W : World) (e : Ending) (w' : World) : Prop := ∃ v s, e = .returned v ∧ IRow w' W.heap.size v s ∧ s.Pairwise (fun x y => x < y) ∧ (∀ y, y ∈ s ↔ y ∈ l) ∧ Below W.heap.size W w'
theorem keys_any (mb : Option Nat) (W : World) : Calls Tryz.prog 134 #[.map mb] W fun e w' => e = .returned (.func (.func 168) #[] #[.pointer (some ⟨W.heap.size, 0, none⟩)]) ∧ w' = W.alloc (.cells #[.map mb] 184) :=
  callsIn_wide.1 (AnyZI.keys_in Tryz.keysA Fence.wide 5 trivial rfl mb W)
theorem sorted_any (b : Nat) (es : List (Int × Value)) (w : World) (h : IMap Tryz.prog 3 w b es) (hl : es.length ≤ 100000) :
    Calls Tryz.prog 76 #[.func (.func 168) #[] #[.pointer (some ⟨w.heap.size, 0, none⟩)]] (w.alloc (.cells #[.map (some b)] 184)) (SortedPost (keysL es) (w.alloc (.cells #[.map (some b)] 184))) := by
  have K : Maps.Keyed Tryz.prog 3 := int_keyed Tryz.underlying3
  obtain ⟨D, hown, hsz, hperm⟩ := keys_perm K Tryz.underlying3 h
  have hbl := hown.lt
  have hseq : SeqGives Fence.wide 2 Tryz.prog 168 #[.pointer (some ⟨w.heap.size, 0, none⟩)] encZ (fun ss => ss.Perm (intKeys D)) (Maps.size D) (w.alloc (.cells #[.map (some b)] 184)) :=
    AnyZI.keys_gives (ρ := Tryz.keysA_ren) { Tryz.keysA with } Fence.wide _ trivial rfl (by omega) w.heap.size b es.length D _ (by simp) (by simp) (by
      obtain ⟨es, clock, hb, Ft, hs, hD⟩ := hown
      exact ⟨es, clock, (Below.heap_alloc _ _ b hbl).trans hb, Ft, hs, hD⟩)
  have cS := AnyZI.sorted_in Tryz.sortedA Fence.wide 5 trivial trivial trivial trivial rfl (by omega) (sorts_any _) (enters_of Tryz.func111 (by kernel_rfl) rfl) 168 #[.pointer (some ⟨w.heap.size, 0, none⟩)] trivial (enters_of Tryz.func168 (by kernel_rfl) rfl) _ _ (by rw [hsz]; unfold maxLen; omega) (by omega) _ hseq
  refine (callsIn_wide.1 cS).mono ?_
  rintro e w' ⟨v, ss, rfl, hp, hrow, _, hb⟩
  obtain ⟨u1, u2⟩ := sort_up h.nodup (hp.trans hperm.symm)
  refine ⟨v, _, rfl, ?_, u1, u2, hb⟩
  unfold IRow
  rw [List.length_mergeSort]
  exact hrow
end Go.Proofs.YtdkkhmjlamkgdaaGreatDoor
namespace Go.Proofs.YtdkkhmjlamkgdaaGreatDoor
open Go.RowKit Mg Go.Shelf

def MergePost (base a b : List Blk) (w : World) (e : Ending) (w' : World) : Prop :=
  ∃ v u, e = .returned (.tuple #[v, u, .int .i64 (mergeF base a b).2.2]) ∧ BRow w' w.heap.size v (mergeF base a b).1 ∧ IRow w' w.heap.size u (mergeF base a b).2.1 ∧ Below w.heap.size w w'
theorem mergePost_err {base a b : List Blk} {w w' : World} (h : mergeF base a b = ([], [], 40)) (hb : Below w.heap.size w w') : MergePost base a b w (.returned (.tuple #[.slice none 0 0, .slice none 0 0, .int .i64 40])) w' := by
  unfold MergePost
  rw [h]
  exact ⟨_, _, rfl, BRow.nil _ _, World.ownsRow_nil _ _ _ _, hb⟩
theorem valid_bool {mem : Addr → Option Value} {v : Value} {l : List Blk} {q : Bool} (h : BlksM mem v l) (hq : decide (ValidL l) = q) (w : World) (hs : Sees mem w) :
    Calls Tryz.prog 130 #[v] w fun e w' => e = .returned (.bool q) ∧ Below w.heap.size w w' := by rw [← hq]; exact validList_any h w hs

set_option maxRecDepth 10000 in
set_option maxHeartbeats 2000000 in
theorem merge_bad {mem : Addr → Option Value} {v1 v2 v3 : Value} {base a b : List Blk} (h1 : BlksM mem v1 base) (h2 : BlksM mem v2 a) (h3 : BlksM mem v3 b) (hv : ¬ (ValidL base ∧ ValidL a ∧ ValidL b)) (w : World) (hs : Sees mem w) :
    Calls Tryz.prog 114 #[v1, v2, v3] w (MergePost base a b w) := by
  have HP := Lib.hid (fun (w' : World) (hb : Below w.heap.size w w') => mergePost_err (mergeF_bad hv) hb)
  by_cases p1 : ValidL base
  · have c1 := fun W hW => valid_bool h1 (decide_eq_true p1) W hW
    by_cases p2 : ValidL a
    · have c2 := fun W hW => valid_bool h2 (decide_eq_true p2) W hW
      have p3 : ¬ ValidL b := fun p3 => hv ⟨p1, p2, p3⟩
      have c3 := fun W hW => valid_bool h3 (decide_eq_false p3) W hW
      clear h1 h2 h3 hv p1 p2 p3
      go_enter Tryz.func114, Tryz.ntmps114
      go_wp2_with fail
      refine (c1 w hs).mono ?_
      rintro e w1 ⟨rfl, hb1⟩
      go_wp2_with fail
      refine (c2 w1 (hs.bel hb1)).mono ?_
      rintro e w2 ⟨rfl, hb2⟩
      go_wp2_with fail
      refine (c3 w2 ((hs.bel hb1).bel hb2)).mono ?_
      rintro e w3 ⟨rfl, hb3⟩
      go_wp2_with fail
      go_ret3
      exact HP.out _ ((hb1.trans (hb2.mono hb1.size)).trans (hb3.mono (Nat.le_trans hb1.size hb2.size)))
    · have c2 := fun W hW => valid_bool h2 (decide_eq_false p2) W hW
      clear h1 h2 h3 hv p1 p2
      go_enter Tryz.func114, Tryz.ntmps114
      go_wp2_with fail
      refine (c1 w hs).mono ?_
      rintro e w1 ⟨rfl, hb1⟩
      go_wp2_with fail
      refine (c2 w1 (hs.bel hb1)).mono ?_
      rintro e w2 ⟨rfl, hb2⟩
      go_wp2_with fail
      go_ret3
      exact HP.out _ (hb1.trans (hb2.mono hb1.size))
  · have c1 := fun W hW => valid_bool h1 (decide_eq_false p1) W hW
    clear h1 h2 h3 hv p1
    go_enter Tryz.func114, Tryz.ntmps114
    go_wp2_with fail
    refine (c1 w hs).mono ?_
    rintro e w1 ⟨rfl, hb1⟩
    go_wp2_with fail
    go_ret3
    exact HP.out _ hb1
end Go.Proofs.YtdkkhmjlamkgdaaGreatDoor
namespace Go.Proofs.YtdkkhmjlamkgdaaGreatDoor
open Go.RowKit Mg Go.Shelf

theorem lists3 {mem : Addr → Option Value} {v1 v2 v3 : Value} {l1 l2 l3 : List Blk} (h1 : BlksM mem v1 l1) (h2 : BlksM mem v2 l2) (h3 : BlksM mem v3 l3) {W : World} (hs : Sees mem W) {g : Nat} (hg1 : W.cell? ⟨g, 0, none⟩ = some v1) (hg2 : W.cell? ⟨g, 1, none⟩ = some v2) (hg3 : W.cell? ⟨g, 2, none⟩ = some v3) : ListsM (fun a => W.cell? a) (.slice (some ⟨g, 0, none⟩) 3 3) [l1, l2, l3] :=
  ⟨g, 3, rfl, by simp, by simp, by unfold maxLen; omega, fun j hj => by
    match j, hj with
    | 0, _ => exact ⟨v1, hg1, h1.mono (fun a u e => hs a u e)⟩
    | 1, _ => exact ⟨v2, hg2, h2.mono (fun a u e => hs a u e)⟩
    | 2, _ => exact ⟨v3, hg3, h3.mono (fun a u e => hs a u e)⟩⟩
theorem okIds3 {mem : Addr → Option Value} {v1 v2 v3 : Value} {l1 l2 l3 : List Blk} (h1 : BlksM mem v1 l1) (h2 : BlksM mem v2 l2) (h3 : BlksM mem v3 l3) : ∃ xs : List OkInt, vals xs = idsOf [l1, l2, l3] := by
  obtain ⟨x1, e1⟩ := okIds h1
  obtain ⟨x2, e2⟩ := okIds h2
  obtain ⟨x3, e3⟩ := okIds h3
  refine ⟨x1 ++ (x2 ++ x3), ?_⟩
  unfold vals at *
  rw [List.map_append, List.map_append, e1, e2, e3]
  simp [idsOf]
theorem run_makeMap_none {P : Program} (t : TypeId) (w : World) : (Instr.makeMap t none).run P w = .ok (.map (some w.heap.size)) (w.alloc (.map #[] 0)) := by
  simp [Instr.makeMap]
def allocL (w : World) (os : List Obj) : World := os.foldl World.alloc w
theorem allocL_size : ∀ (os : List Obj) (w : World), (allocL w os).heap.size = w.heap.size + os.length
  | [], _ => rfl
  | o :: os, w => by
    show (allocL (w.alloc o) os).heap.size = _
    rw [allocL_size os, World.size_alloc, List.length_cons]; omega
theorem allocL_below : ∀ (os : List Obj) (w : World), Below w.heap.size w (allocL w os)
  | [], w => Below.refl _ w
  | o :: os, w => ((Below.refl _ w).alloc (Nat.le_refl _) o).trans ((allocL_below os (w.alloc o)).mono (by simp))
theorem allocL_heap : ∀ (os : List Obj) (w : World) (j : Nat) (o : Obj), os[j]? = some o → (allocL w os).heap[w.heap.size + j]? = some o
  | [], _, _, _, h => by simp at h
  | o :: os, w, 0, o', h => by
    have h : o = o' := by simpa using h
    subst h
    show (allocL (w.alloc o) os).heap[w.heap.size + 0]? = _
    rw [(allocL_below os (w.alloc o)).block _ (by simp)]
    exact World.alloc_heap_new _ _
  | o :: os, w, j + 1, o', h => by
    have := allocL_heap os (w.alloc o) j o' (by simpa using h)
    rw [World.size_alloc] at this
    rw [show w.heap.size + (j + 1) = w.heap.size + 1 + j by omega]
    exact this
theorem EMap.fresh {mem : Addr → Option Value} {w : World} {b : Nat} (h : w.heap[b]? = some (.map #[] 0)) : EMap mem w b 0 (fun _ => none) := by
  obtain ⟨es, clock, h1, r⟩ := World.ownsMap_made w Tryz.prog 3 heldV
  rw [World.alloc_heap_new] at h1
  injection h1 with h1
  injection h1 with h1 h2
  subst h1 h2
  exact ⟨[], ⟨_, ⟨_, _, h, r⟩, List.nodup_nil, by simp, rfl, fun i _ => ⟨rfl, fun _ => rfl⟩⟩, rfl, fun i => by simp [keysL], fun _ => rfl⟩
structure TakeK (mem : Addr → Option Value) (base a b : List Blk) (s : List Int) (C b5 N : Nat) (W : World) (k : Nat) (wr : World) : Prop where
  upd : Upd (fun j => j = C ∨ j = b5 ∨ N ≤ j) W wr
  map : EMap mem wr C ((s.take k).filter (hasAt base a b)).length (fun i => if i ∈ s.take k then (pickAt base a b i).1 else none)
  row : ∃ r, Boxed wr b5 46 r ∧ IRow wr N r ((s.take k).filter (fun i => (pickAt base a b i).2))

theorem TakeK.step {mem : Addr → Option Value} {base a b : List Blk} {s : List Int} {C b5 N : Nat} {W wr wr' : World} {k : Nat} (h : TakeK mem base a b s C b5 N W k wr) (hk : k < s.length) {g : Int → Option Blk} {L : List Int} {n : Nat}
    (hg : g = fun i => if i ∈ s.take k then (pickAt base a b i).1 else none) (hn : n = ((s.take k).filter (hasAt base a b)).length) (hL : L = (s.take k).filter (fun i => (pickAt base a b i).2)) (hT : TakePost mem C b5 N n g (pick (find base s[k]) (find a s[k]) (find b s[k])) s[k] L wr wr') : TakeK mem base a b s C b5 N W (k + 1) wr' := by
  have et := List.take_succ_eq_append_getElem hk
  subst hg hn hL
  refine ⟨h.upd.trans hT.upd (fun i h => .inl h), ?_, ?_⟩
  · have hm := hT.map
    have e1 : ((s.take (k + 1)).filter (hasAt base a b)).length = if (pick (find base s[k]) (find a s[k]) (find b s[k])).1.isSome then ((s.take k).filter (hasAt base a b)).length + 1 else ((s.take k).filter (hasAt base a b)).length := by
      rw [et, List.filter_append, List.length_append]
      show _ + (List.filter (hasAt base a b) [s[k]]).length = _
      by_cases hq : (pick (find base s[k]) (find a s[k]) (find b s[k])).1.isSome = true
      · rw [if_pos hq, List.filter_cons_of_pos (show hasAt base a b s[k] = true from hq)]; rfl
      · rw [if_neg hq, List.filter_cons_of_neg (show ¬ hasAt base a b s[k] = true from hq)]; rfl
    rw [e1]
    refine hm.ext (fun i => ?_)
    rw [et]
    by_cases e : i = s[k]
    · subst e; rw [if_pos (List.mem_append_right _ (List.mem_singleton.2 rfl)), if_pos rfl]; rfl
    · rw [if_neg e]
      by_cases hm2 : i ∈ s.take k
      · rw [if_pos (List.mem_append_left _ hm2), if_pos hm2]
      · rw [if_neg (fun hmm => (List.mem_append.1 hmm).elim hm2 (fun h => e (List.mem_singleton.1 h))), if_neg hm2]
  · obtain ⟨r', g1, g2⟩ := hT.row
    refine ⟨r', g1, ?_⟩
    have e2 : (s.take (k + 1)).filter (fun i => (pickAt base a b i).2) = (s.take k).filter (fun i => (pickAt base a b i).2) ++ selB (pick (find base s[k]) (find a s[k]) (find b s[k])).2 s[k] := by
      rw [et, List.filter_append]
      congr 1
    rw [e2]; exact g2
theorem take_not {s : List Int} (hn : s.Nodup) {k : Nat} (hk : k < s.length) : s[k] ∉ s.take k := fun h => by
  obtain ⟨j, hj, e⟩ := List.getElem_of_mem h
  rw [List.length_take] at hj
  rw [List.getElem_take] at e
  exact (List.pairwise_iff_getElem.1 hn) j k (by omega) hk (by omega) e

theorem app_ready {wq w11 : World} {B : Nat} {r v' : Value} {l : List Blk} {m : List Int} (hr : BRow wq B r l) (hB : B ≤ wq.heap.size) {o : Obj} (hI : IRow w11 (wq.alloc o).heap.size v' m) (hg : (wq.alloc o).grownBy w11 none) (o2 : Obj) :
    BRow ((w11.setCell ⟨wq.heap.size, 6, none⟩ v').alloc o2) B r l ∧ IntsM (memFr ((w11.setCell ⟨wq.heap.size, 6, none⟩ v').alloc o2) (fun k => k < B ∨ r.ownBlock = some k)) v' m ∧ Below wq.heap.size wq ((w11.setCell ⟨wq.heap.size, 6, none⟩ v').alloc o2) := by
  have hu0 : Upd (fun k => wq.heap.size ≤ k) (wq.alloc o) w11 := (Upd.refl _ _).grown hg (fun k e => by cases e)
  have hu1 : Upd (fun k => k = wq.heap.size) w11 ((w11.setCell ⟨wq.heap.size, 6, none⟩ v').alloc o2) := ((Upd.refl (fun k => k = wq.heap.size) w11).setCell (.inl rfl) _).alloc _
  have hu : Upd (fun k => wq.heap.size ≤ k) wq ((w11.setCell ⟨wq.heap.size, 6, none⟩ v').alloc o2) := (((Upd.refl _ wq).alloc o).trans hu0 (fun i h => .inl h)).trans hu1 (fun i h => .inl (by rw [h]; exact Nat.le_refl _))
  refine ⟨hr.kept hu (fun k h => .inr h), ?_, hu.below (fun i h => h) (Nat.le_refl _)⟩
  have h1 := IRow.kept hI hu1 (fun k e h => by have := hI.ge k e; simp at this; omega)
  refine h1.intsFr (fun k e h => ?_)
  have h2 := hI.ge k e
  simp at h2
  rcases h with h | h
  · omega
  · have := (hr.ge k h).2; omega
theorem BRow.less {w : World} {B B' : Nat} {v : Value} {l : List Blk} (h : BRow w B v l) (hB : B' ≤ B) : BRow w B' v l := by
  obtain ⟨vs, h1, h2⟩ := h
  refine ⟨vs, ⟨h1.1, ?_⟩, h2.mono (memFr_mono (Upd.refl (fun _ => False) w) (fun k _ hf => ⟨fun g => hf (g.elim (fun h => .inl (by omega)) .inr), fun g => g⟩))⟩
  rcases h1.2 with hq | ⟨g, cap, cur, e, hb, rest⟩
  · exact .inl hq
  · exact .inr ⟨g, cap, cur, e, by omega, rest⟩
theorem IRow.less {w : World} {B B' : Nat} {v : Value} {l : List Int} (h : IRow w B v l) (hB : B' ≤ B) : IRow w B' v l := by
  refine ⟨h.1, ?_⟩
  rcases h.2 with hq | ⟨g, cap, cur, e, hb, rest⟩
  · exact .inl hq
  · exact .inr ⟨g, cap, cur, e, by omega, rest⟩
theorem BRow.drew {w : World} {B : Nat} {v : Value} {l : List Blk} (h : BRow w B v l) : BRow w.drew B v l := h
theorem IRow.drew {w : World} {B : Nat} {v : Value} {l : List Int} (h : IRow w B v l) : IRow w.drew B v l := h
structure OutK (base a b : List Blk) (L : List Int) (W : World) (k : Nat) (r : Value) (wq : World) : Prop where
  row : BRow wq W.heap.size r ((L.take k).filterMap fun i => (pickAt base a b i).1)
  below : Below W.heap.size W wq
theorem OutK.step {base a b : List Blk} {L : List Int} {W wq w' w2 : World} {k : Nat} {r v : Value} {x : Blk} (h : OutK base a b L W k r wq) (hk : k < L.length) (hx : (pickAt base a b L[k]).1 = some x) (hb : Below wq.heap.size wq w') (hr : BRow w2 W.heap.size v (((L.take k).filterMap fun i => (pickAt base a b i).1) ++ [x])) (hg : w'.grownBy w2 r.ownBlock) : OutK base a b L W (k + 1) v w2 := by
  refine ⟨?_, ?_⟩
  · rw [List.take_succ_eq_append_getElem hk, List.filterMap_append, List.filterMap_cons_some (f := fun i => (pickAt base a b i).1) hx]; exact hr
  · have h1 := h.below.trans (hb.mono h.below.size)
    exact h1.grown hg h1.size (fun k e => (h.row.ge k e).1)

set_option maxRecDepth 100000 in
set_option maxHeartbeats 8000000 in
theorem merge_good {mem : Addr → Option Value} {v1 v2 v3 : Value} {base a b : List Blk} (h1 : BlksM mem v1 base) (h2 : BlksM mem v2 a) (h3 : BlksM mem v3 b) (p1 : ValidL base) (p2 : ValidL a) (p3 : ValidL b) (w : World) (hs : Sees mem w) :
    Calls Tryz.prog 114 #[v1, v2, v3] w (MergePost base a b w) := by
  have c1 := fun W hW => valid_bool h1 (decide_eq_true p1) W hW
  have c2 := fun W hW => valid_bool h2 (decide_eq_true p2) W hW
  have c3 := fun W hW => valid_bool h3 (decide_eq_true p3) W hW
  have m1 := fun W hW => byID_any h1 (by have := p1.1; omega) p1.2.2 W hW
  have m2 := fun W hW => byID_any h2 (by have := p2.1; omega) p2.2.2 W hW
  have m3 := fun W hW => byID_any h3 (by have := p3.1; omega) p3.2.2 W hW
  obtain ⟨xs, hx⟩ := okIds3 h1 h2 h3
  have hxl : xs.length ≤ 72 := by
    have e := congrArg List.length hx
    have q1 := p1.1; have q2 := p2.1; have q3 := p3.1
    simp [idsOf, vals] at e
    omega
  obtain ⟨a1, n1, rfl⟩ := h1.slice
  obtain ⟨a2, n2, rfl⟩ := h2.slice
  obtain ⟨a3, n3, rfl⟩ := h3.slice
  have HS := Lib.hid hs
  have HH := Lib.hid (And.intro h1 (And.intro h2 h3))
  have HPV := Lib.hid (And.intro p1 (And.intro p2 p3))
  clear h1 h2 h3 p1 p2 p3 hs
  go_enter Tryz.func114, Tryz.ntmps114
  go_wp2_with fail
  refine (c1 w HS.out).mono ?_
  rintro e w1 ⟨rfl, hb⟩
  have hs := HS.out.bel hb
  go_wp2_with fail
  refine (c2 w1 hs).mono ?_
  rintro e w2 ⟨rfl, hb'⟩
  replace hs := hs.bel hb'
  replace hb := hb.trans (hb'.mono hb.size)
  clear hb'
  go_wp2_with fail
  refine (c3 w2 hs).mono ?_
  rintro e w3 ⟨rfl, hb'⟩
  replace hs := hs.bel hb'
  replace hb := hb.trans (hb'.mono hb.size)
  clear hb' c1 c2 c3
  go_wp2_with fail
  refine (m1 w3 hs).mono ?_
  rintro e w4 ⟨rfl, E1, hb'⟩
  replace hs := hs.bel hb'
  have hz3 := hb.size
  replace hb := hb.trans (hb'.mono hb.size)
  clear hb' m1
  go_wp2_with fail
  refine (m2 w4 hs).mono ?_
  rintro e w5 ⟨rfl, E2, hb'⟩
  replace hs := hs.bel hb'
  replace E1 := E1.bel hb'
  have hz4 := hb.size
  replace hb := hb.trans (hb'.mono hb.size)
  clear hb' m2
  go_wp2_with fail
  refine (m3 w5 hs).mono ?_
  rintro e w6 ⟨rfl, E3, hb'⟩
  replace hs := hs.bel hb'
  replace E1 := E1.bel hb'
  replace E2 := E2.bel hb'
  have hz5 := hb.size
  replace hb := hb.trans (hb'.mono hb.size)
  clear hb' m3
  obtain ⟨M1, HM1⟩ := named w3.heap.size
  obtain ⟨M2, HM2⟩ := named w4.heap.size
  obtain ⟨M3, HM3⟩ := named w5.heap.size
  rw [← HM1.out] at E1 hz3 ⊢
  rw [← HM2.out] at E2 hz4 ⊢
  rw [← HM3.out] at E3 hz5 ⊢
  have hmk := fun W => run_makeMap_none (P := Tryz.prog) 177 W
  go_wp2_with fail
  clear hmk
  refine (each_any _ ⟨_, _, _, rfl⟩ _).mono ?_
  rintro e w' ⟨rfl, rfl⟩
  obtain ⟨os, HO⟩ := named (α := List Obj) [.cells #[.map (some M1)] 177, .cells #[.map (some M2)] 177, .cells #[.map (some M3)] 177, .map #[] 0, .cells #[.map (some (w6.heap.size + 1 + 1 + 1))] 177, .cells #[.slice none 0 0] 46, .cells #[.slice a1 base.length n1, .slice a2 a.length n2, .slice a3 b.length n3] 37, .cells #[.slice (some ⟨w6.heap.size + 1 + 1 + 1 + 1 + 1 + 1, 0, none⟩) 3 3] 65]
  obtain ⟨W1, HW1⟩ := named (allocL w6 os)
  have hW1 := HW1.out
  rw [HO.out] at hW1
  simp only [allocL, List.foldl_cons, List.foldl_nil] at hW1
  rw [← hW1]
  clear hW1
  have hz1 : W1.heap.size = w6.heap.size + 8 := by rw [HW1.out, allocL_size, HO.out]; rfl
  have hbW : Below w6.heap.size w6 W1 := by rw [HW1.out]; exact allocL_below _ _
  have hcell : ∀ j o, os[j]? = some o → W1.heap[w6.heap.size + j]? = some o := fun j o h => by rw [HW1.out]; exact allocL_heap os w6 j o h
  rw [HO.out] at hcell
  have b1 : Boxed W1 w6.heap.size 177 (.map (some M1)) := hcell 0 _ rfl
  have b2 : Boxed W1 (w6.heap.size + 1) 177 (.map (some M2)) := hcell 1 _ rfl
  have b3 : Boxed W1 (w6.heap.size + 2) 177 (.map (some M3)) := hcell 2 _ rfl
  have b4 : Boxed W1 (w6.heap.size + 4) 177 (.map (some (w6.heap.size + 3))) := hcell 4 _ rfl
  have b5 : Boxed W1 (w6.heap.size + 5) 46 (.slice none 0 0) := hcell 5 _ rfl
  have q6 := hcell 6 _ rfl
  have q7 := hcell 7 _ rfl
  have eC : EMap mem W1 (w6.heap.size + 3) 0 (fun _ => none) := EMap.fresh (hcell 3 _ rfl)
  have l1 := E1.lt
  have l2 := E2.lt
  have l3 := E3.lt
  have hs1 := hs.bel hbW
  have hl := lists3 HH.out.1 HH.out.2.1 HH.out.2.2 hs1 (g := w6.heap.size + 6) ((blk_cell q6 0).trans rfl) ((blk_cell q6 1).trans rfl) ((blk_cell q6 2).trans rfl)
  have cP := positions_any (w6.heap.size + 7) (fun a => W1.cell? a) W1 (Sees.self W1) (fun a u e => cell_lt e) _ _ hl ((blk_cell q7 0).trans rfl) xs hx (by omega)
  clear q6 q7 hl hcell
  replace E1 := E1.bel hbW
  replace E2 := E2.bel hbW
  replace E3 := E3.bel hbW
  go_wp2_with fail
  refine cP.mono ?_
  rintro e w7 ⟨K, es, rfl, hK, hP, hb7, _⟩
  clear cP
  go_wp2_with fail
  refine (keys_any _ _).mono ?_
  rintro e w' ⟨rfl, rfl⟩
  go_wp2_with fail
  have cS := sorted_any K es w7 hK (by have := hP.len hK.nodup; rw [List.length_map] at this; omega)
  refine cS.mono ?_
  rintro e w8 ⟨sv, s, rfl, hrow, hup, hmem, hb8⟩
  clear cS
  have hkx : ∀ y, y ∈ s ↔ y ∈ vals xs := fun y => (hmem y).trans (hP.keys y)
  have hok : ∀ y ∈ s, okI y := fun y hy => hK.okI y ((hmem y).1 hy)
  have hnd : s.Nodup := hup.imp (fun h e => by omega)
  have hsl : s.length ≤ 72 := by
    have := List.Nodup.length_le_of_subset hnd (fun y hy => (hkx y).1 hy)
    rw [List.length_map] at this
    omega
  have hall : ∀ y, (y ∈ ids base ∨ y ∈ ids a ∨ y ∈ ids b) ↔ y ∈ s := fun y => by
    rw [hkx, hx]; simp [idsOf]
  have hbx : Below W1.heap.size W1 w8 := hb7.trans (((Below.refl _ w7).alloc (Nat.le_refl _) _ |>.trans (hb8.mono (by simp))).mono hb7.size)
  replace b1 := boxed_bel b1 hbx
  replace b2 := boxed_bel b2 hbx
  replace b3 := boxed_bel b3 hbx
  replace b4 := boxed_bel b4 hbx
  replace b5 := boxed_bel b5 hbx
  replace E1 := E1.bel hbx
  replace E2 := E2.bel hbx
  replace E3 := E3.bel hbx
  replace eC := eC.bel hbx
  have hs8 := hs1.bel hbx
  have hn8 := hbx.size
  have hbw : Below w.heap.size w w8 := (hb.trans (hbW.mono hb.size)).trans (hbx.mono (by have := hb.size; omega))
  have hl1 := E1.lt
  have hrowI : IRow w8 (W1.heap.size) sv s := ⟨hrow.1, by
    have := hb7.size
    rcases hrow.2 with h | ⟨g, cp, cur, h1, h2, rest⟩
    · exact .inl h
    · exact .inr ⟨g, cp, cur, h1, by simp at h2; omega, rest⟩⟩
  clear hP hK hmem hkx hb7 hb8 hrow hs1 hbW hb hs hx hxl HO HW1 hbx
  clear HM1 HM2 HM3 hl1
  obtain ⟨S, HSz⟩ := named w6.heap.size
  rw [← HSz.out] at b1 b2 b3 b4 b5 eC l1 l2 l3 hz1
  have H0 := Lib.hid (TakeK.mk (mem := mem) (base := base) (a := a) (b := b) (s := s) (C := S + 3) (b5 := S + 5) (N := w8.heap.size) (W := w8) (k := 0) (Upd.refl _ _) (by simpa using eC) ⟨_, b5, World.ownsRow_nil _ _ _ _⟩)
  clear eC b5
  have HBX := Lib.hid (And.intro b1 (And.intro b2 (And.intro b3 (And.intro b4 (And.intro E1 (And.intro E2 (And.intro E3 (And.intro hrowI (And.intro hs8 hbw)))))))))
  have HSL := Lib.hid (And.intro hup (And.intro hok (And.intro hnd hall)))
  obtain ⟨ao, cap, rfl⟩ := hrowI.shape
  clear b1 b2 b3 b4 E1 E2 E3 hrowI hs8 hbw hup hok hnd hall
  rw [← HSz.out]
  go_wp2_with fail
  go_loopw [53] (fun i wr => ∃ k : Nat, k ≤ s.length ∧ i = .int .i64 k ∧ Hid (TakeK mem base a b s (S + 3) (S + 5) w8.heap.size w8 k wr)) (fun i _ => s.length - (Go.RowKit.intOf i).toNat)
  case atStart => exact ⟨0, Nat.zero_le _, rfl, H0⟩
  case round =>
    obtain ⟨k, hk, rfl, hT⟩ := hrel
    by_cases hlt : k < s.length
    · obtain ⟨b1, b2, b3, b4, E1, E2, E3, hrowI, hs8, hbw⟩ := HBX.out
      obtain ⟨hup, hok, hnd, hall⟩ := HSL.out
      obtain ⟨g, cp, e, _, _, hgl, hc⟩ := hrowI.cells k hlt
      injection e with e _ e2
      subst e e2
      have hgg : g < w8.heap.size := cell_lt hc
      have hu := hT.out.upd
      have hc' := hu.cell_some hc (by show ¬ (g = S + 3 ∨ g = S + 5 ∨ w8.heap.size ≤ g); omega)
      have hbr : Below w.heap.size w wr := hbw.trans (hu.below (fun k hk => by omega) hbw.size)
      obtain ⟨r, hb5, hr⟩ := hT.out.row
      have hL : ((s.take k).filter (fun i => (pickAt base a b i).2)).length ≤ 100000 := by have := List.length_filter_le (fun i => (pickAt base a b i).2) (s.take k); rw [List.length_take] at this; omega
      have hN : ((s.take k).filter (hasAt base a b)).length ≤ 100000 := by have := List.length_filter_le (hasAt base a b) (s.take k); rw [List.length_take] at this; omega
      have cT := take_any s[k] wr (HS.out.bel hbr) (E1.upd hu (by omega)) (E2.upd hu (by omega)) (E3.upd hu (by omega)) hT.out.map (by rw [if_neg (take_not hnd hlt)]) hN (hok _ (List.getElem_mem hlt))
        (boxed_upd b1 hu (by omega)) (boxed_upd b2 hu (by omega)) (boxed_upd b3 hu (by omega)) (boxed_upd b4 hu (by omega)) hb5 hr hL hu.size (by omega) (by omega) (by omega)
      have hst := fun wr' (h : TakePost mem (S + 3) (S + 5) w8.heap.size _ _ (pick (find base s[k]) (find a s[k]) (find b s[k])) s[k] _ wr wr') => Lib.hid (hT.out.step hlt rfl rfl rfl h)
      have HST := Lib.hid hst
      clear hst hc hbr hr hb5 hu b1 b2 b3 b4 E1 E2 E3 hrowI hs8 hbw hup hok hnd hall hL hN
      generalize s[k] = x at *
      go_wp2_with fail
      refine cT.mono ?_
      rintro e w9 ⟨rfl, hTP⟩
      have HT2 := HST.out _ hTP
      clear hTP cT HST
      go_wp2_with fail
      go_roundw
      case rel => exact ⟨k + 1, by omega, by go_num, HT2⟩
      case measure => simp [Go.RowKit.intOf]; omega
    · have e : k = s.length := by omega
      subst e
      obtain ⟨b1, b2, b3, b4, E1, E2, E3, hrowI, hs8, hbw⟩ := HBX.out
      obtain ⟨hup, hok, hnd, hall⟩ := HSL.out
      obtain ⟨p1, p2, p3⟩ := HPV.out
      obtain ⟨hu, hM, r, hb5, hr⟩ := hT.out
      rw [List.take_length] at hM hr
      have hbr : Below w.heap.size w wr := hbw.trans (hu.below (fun k hk => by omega) hbw.size)
      have hcnt : (s.filter (hasAt base a b)).length = (merged base a b).length := contents_count p2.2.2 p3.2.2 hnd (fun y hy => (hall y).1 (hy.elim (fun h => .inr (.inl h)) (fun h => .inr (.inr h))))
      rw [hcnt] at hM
      replace hM := hM.ext (g := fun i => (pickAt base a b i).1) (fun i => by
        by_cases hi : i ∈ s
        · rw [if_pos hi]
        · rw [if_neg hi]
          cases hq : (pickAt base a b i).1 with
          | none => rfl
          | some x => exact absurd ((hall i).1 (.inr (has_in (by unfold hasAt; rw [hq]; rfl)))) hi)
      have hcf : s.filter (fun i => (pickAt base a b i).2) = confs base a b := conflicts_eq _ hup (fun y hy => by
          rcases (hall y).2 hy with h | h | h
          · exact p1.range y h
          · exact p2.range y h
          · exact p3.range y h) (fun y hy => (hall y).1 (conflict_in hy))
      rw [hcf] at hr
      have b4r := boxed_upd b4 hu (by omega)
      have c4 := b4r.cell
      have c5 := hb5.cell
      have hlen := fun ty => hM.len ty
      have hsr := HS.out.bel hbr
      clear b1 b2 b3 b4 E1 E2 E3 hrowI hs8 hbw hup hok hnd hall hcnt hcf
      by_cases hn : (merged base a b).length ≤ 24
      · go_wp2_with fail
        have cM := moved_any HH.out.1 HH.out.2.2 (by have := HPV.out.1.1; omega) wr hsr
        refine cM.mono ?_
        clear cM
        rintro e wm ⟨rfl, hbm⟩
        have hkp := movedL_keeps (base := ids base) (l := ids b) HPV.out.1.2.2 HPV.out.2.2.2.2
        have hM2 := hM.bel hbm
        have hsm := hsr.bel hbm
        replace c4 := (boxed_bel b4r hbm).cell
        have hcO := fun (vl vf : Value) (lead foll : List Blk) (h1 : BlksM mem vl lead) (h2 : BlksM mem vf foll) (h3 : ValidL lead) (h4 : ValidL foll) => order_any h1 h2 (by have := h3.1; omega) (by have := h4.1; omega) _ _ _ wm hsm hM2
        have e1 : (fun i => ((pickAt base a b i).1).isSome) = hasAt base a b := rfl
        rw [e1] at hcO
        have HCO := Lib.hid hcO
        clear hcO hsm hlen hsr
        generalize hq : movedL (ids base) (-1) (ids b) = q at *
        cases q
        · have hor : orderOf base a b = orderF (hasAt base a b) (ids a) (ids b) := by unfold orderOf; rw [if_pos (hkp.1 rfl)]
          have cO := HCO.out _ _ _ _ HH.out.2.1 HH.out.2.2 HPV.out.2.1 HPV.out.2.2
          rw [← hor] at cO
          clear hor hkp
          go_wp2_with fail
          refine cO.mono ?_
          clear cO HCO
          rintro e w10 ⟨ov, rfl, hov, hb10⟩
          have hbx : Below wr.heap.size wr w10 := hbm.trans (hb10.mono hbm.size)
          have hMx := hM.bel hbx
          have b4x := boxed_bel b4r hbx
          have b5x := boxed_bel hb5 hbx
          have hrx := hr.bel hbx
          have hsx := (HS.out.bel hbr).bel hbx
          have hbwx : Below w.heap.size w w10 := hbr.trans (hbx.mono hbr.size)
          have hNx : w8.heap.size ≤ w10.heap.size := Nat.le_trans hu.size hbx.size
          obtain ⟨hoi, hom⟩ := orderOf_inv (base := base) HPV.out.2.1.2.2 HPV.out.2.2.2.2
          have hmg : merged base a b = (orderOf base a b).filterMap fun i => (pickAt base a b i).1 := rfl
          obtain ⟨L, HL⟩ := named (orderOf base a b)
          rw [← HL.out] at hov hom hoi hmg
          have hov' : IRow w10 w.heap.size ov L := hov.less (Nat.le_trans hbr.size hbm.size)
          have hLl : L.length ≤ 48 := by
            have h := congrArg List.length (merged_ids (base := base) HPV.out.2.1.2.2 HPV.out.2.2.2.2)
            rw [List.length_map, ← HL.out] at h
            omega
          have hLok : ∀ (k : Nat) (h : k < L.length), ∃ x, (pickAt base a b L[k]).1 = some x ∧ okI L[k] ∧ x.lab.after.length ≤ 64 := fun k h => by
            obtain ⟨x, hx⟩ := Option.isSome_iff_exists.1 ((hom L[k]).1 (List.getElem_mem h))
            obtain ⟨g1, g2⟩ := pickAt_id hx
            refine ⟨x, hx, ?_, ?_⟩
            · rw [← g1]
              rcases g2 with g2 | g2
              · have := HPV.out.2.1.range x.id (List.mem_map.2 ⟨x, g2, rfl⟩); unfold okI; omega
              · have := HPV.out.2.2.range x.id (List.mem_map.2 ⟨x, g2, rfl⟩); unfold okI; omega
            · exact g2.elim (valid_after HPV.out.2.1) (valid_after HPV.out.2.2)
          have HX := Lib.hid (And.intro hMx (And.intro b4x (And.intro b5x (And.intro hrx (And.intro hsx (And.intro hbwx (And.intro hov' (And.intro hmg hLok))))))))
          obtain ⟨oa, oc, rfl⟩ := hov.shape
          have H0 := Lib.hid (OutK.mk (base := base) (a := a) (b := b) (L := L) (W := w10) (k := 0) (BRow.nil _ _) (Below.refl _ w10))
          have c5x := b5x.cell
          clear hMx b4x b5x hrx hsx hbwx hov' hmg hLok hM hM2 b4r hb5 hr hbr hbx hom hoi hov hb10 hbm c4 c5 e1 hq
          go_wp2_with fail
          go_loopw [76, 19] (fun i r wq => ∃ k : Nat, k ≤ L.length ∧ i = .int .i64 k ∧ (∃ ra rn rc, r = .slice ra rn rc) ∧ Hid (OutK base a b L w10 k r wq)) (fun i _ _ => L.length - (Go.RowKit.intOf i).toNat)
          case atStart => exact ⟨0, Nat.zero_le _, rfl, ⟨_, _, _, rfl⟩, H0⟩
          case round =>
            obtain ⟨k, hk, rfl, ⟨ra, rn, rc, rfl⟩, hO⟩ := hrel
            by_cases hlt : k < L.length
            · obtain ⟨hMx, b4x, b5x, hrx, hsx, hbwx, hov, hmg, hLok⟩ := HX.out
              have hb := hO.out.below
              obtain ⟨g, cp, e, _, _, hgl, hc⟩ := hov.cells k hlt
              injection e with e _ e2
              subst e e2
              have hgg : g < w10.heap.size := cell_lt hc
              have hc' := (hb.cell (p := ⟨g, k, none⟩) hgg).trans hc
              obtain ⟨x, hx, hok, hal⟩ := hLok k hlt
              obtain ⟨v, hlk, hev⟩ := (hMx.bel hb).look hok
              rw [hx] at hev
              obtain ⟨ao, ac, hints, rfl⟩ := hev
              simp only [entAgg] at hlk
              have hfb := fun W => field_block x.id x.kind x.story x.ref x.lab.till x.lab.appr x.lab.denied x.text ao x.lab.after.length ac true W
              have c4 := (boxed_bel b4x hb).cell
              have hsq := hsx.bel hb
              have HSt := Lib.hid (fun (w' w2 : World) (v : Value) (h1 : Below wr.heap.size wr w') h2 h3 => Lib.hid (OutK.step (w' := w') (w2 := w2) (v := v) hO.out hlt hx h1 h2 h3))
              have hrow := hO.out.row
              have hsz := hb.size
              have hBk := (((L.take k).filterMap fun i => (pickAt base a b i).1)).length
              have hlen : (((L.take k).filterMap fun i => (pickAt base a b i).1)).length ≤ 100000 := by
                have := List.length_filterMap_le (fun i => (pickAt base a b i).1) (L.take k)
                rw [List.length_take] at this; omega
              clear hMx b4x b5x hrx hsx hbwx hov hmg hLok hb hc hx hBk
              generalize (L.take k).filterMap (fun i => (pickAt base a b i).1) = Lk at *
              generalize L[k] = y at *
              have hB : w10.heap.size ≤ wr.heap.size := hsz
              go_wp2_with (first
                | (at_builtin; refine wpList_app_after rfl _ _ rfl rfl ao ac x.lab.after rfl hints (hsq.alloc _) (by omega) ?_; intro v' w11 hI hg11
                   have hh := (hg11.block wr.heap.size (by simp) (by simp)).trans (World.alloc_heap_new _ _)
                   have f0 := blk_free hh 6
                   have d0 := blk_cell hh 0; have d1 := blk_cell hh 1; have d2 := blk_cell hh 2; have d3 := blk_cell hh 3; have d4 := blk_cell hh 4; have d5 := blk_cell hh 5; have d6 := blk_cell hh 6; have d7 := blk_cell hh 7; have d8 := blk_cell hh 8
                   obtain ⟨va, vc, rfl⟩ := hI.shape
                   simp only [List.getElem?_toArray, List.getElem?_cons_zero, List.getElem?_cons_succ] at d0 d1 d2 d3 d4 d5 d6 d7 d8)
                | (at_builtin
                   obtain ⟨r1, r2, r3⟩ := app_ready hrow hB hI hg11 (.cells (blkCells x (.slice va x.lab.after.length vc)) 58)
                   refine wpList_app_blk rfl _ _ rfl w10.heap.size _ Lk rfl r1 x va vc r2 w11.heap.size 1 rfl (by rw [← show (w11.setCell ⟨wr.heap.size, 6, none⟩ (.slice va x.lab.after.length vc)).heap.size = w11.heap.size by simp [World.setCell]]; exact World.alloc_heap_new _ _) hlen (Nat.le_trans hB r3.size) ?_
                   intro v2 w12 h12 hg12
                   have HFin := HSt.out _ _ _ r3 h12 hg12
                   obtain ⟨qa, qn, qc, rfl⟩ := h12.sl
                   clear h12 hg12 r1 r2 r3 hI hg11 hh HSt))
              go_roundw
              case rel => exact ⟨k + 1, by omega, by go_num, ⟨_, _, _, rfl⟩, HFin⟩
              case measure => simp [Go.RowKit.intOf]; omega
            · have e : k = L.length := by omega
              subst e
              obtain ⟨hMx, b4x, b5x, hrx, hsx, hbwx, hov, hmg, hLok⟩ := HX.out
              have hb := hO.out.below
              have c5 := (boxed_bel b5x hb).cell
              have hrow := hO.out.row
              rw [List.take_length, ← hmg] at hrow
              have hrow2 := hrow.less hbwx.size
              have hcf := (hrx.bel hb).less (B' := w.heap.size) (by omega)
              have hbf := hbwx.trans (hb.mono hbwx.size)
              have HF := Lib.hid (And.intro hrow2 (And.intro hcf hbf))
              clear hMx b4x b5x hrx hsx hbwx hov hmg hLok hb hrow hrow2 hcf hbf
              go_wp2_with fail
              go_region
              all_goals (try go_wp2)
              all_goals go_ret3
              obtain ⟨hrow2, hcf, hbf⟩ := HF.out
              unfold MergePost
              rw [mergeF_yes HPV.out hn]
              exact ⟨_, _, rfl, hrow2.drew, hcf.drew, hbf.drew⟩
        · have hor : orderOf base a b = orderF (hasAt base a b) (ids b) (ids a) := by unfold orderOf; rw [if_neg (fun h => by have := hkp.2 h; cases this)]
          have cO := HCO.out _ _ _ _ HH.out.2.2 HH.out.2.1 HPV.out.2.2 HPV.out.2.1
          rw [← hor] at cO
          clear hor hkp
          go_wp2_with fail
          refine cO.mono ?_
          clear cO HCO
          rintro e w10 ⟨ov, rfl, hov, hb10⟩
          have hbx : Below wr.heap.size wr w10 := hbm.trans (hb10.mono hbm.size)
          have hMx := hM.bel hbx
          have b4x := boxed_bel b4r hbx
          have b5x := boxed_bel hb5 hbx
          have hrx := hr.bel hbx
          have hsx := (HS.out.bel hbr).bel hbx
          have hbwx : Below w.heap.size w w10 := hbr.trans (hbx.mono hbr.size)
          have hNx : w8.heap.size ≤ w10.heap.size := Nat.le_trans hu.size hbx.size
          obtain ⟨hoi, hom⟩ := orderOf_inv (base := base) HPV.out.2.1.2.2 HPV.out.2.2.2.2
          have hmg : merged base a b = (orderOf base a b).filterMap fun i => (pickAt base a b i).1 := rfl
          obtain ⟨L, HL⟩ := named (orderOf base a b)
          rw [← HL.out] at hov hom hoi hmg
          have hov' : IRow w10 w.heap.size ov L := hov.less (Nat.le_trans hbr.size hbm.size)
          have hLl : L.length ≤ 48 := by
            have h := congrArg List.length (merged_ids (base := base) HPV.out.2.1.2.2 HPV.out.2.2.2.2)
            rw [List.length_map, ← HL.out] at h
            omega
          have hLok : ∀ (k : Nat) (h : k < L.length), ∃ x, (pickAt base a b L[k]).1 = some x ∧ okI L[k] ∧ x.lab.after.length ≤ 64 := fun k h => by
            obtain ⟨x, hx⟩ := Option.isSome_iff_exists.1 ((hom L[k]).1 (List.getElem_mem h))
            obtain ⟨g1, g2⟩ := pickAt_id hx
            refine ⟨x, hx, ?_, ?_⟩
            · rw [← g1]
              rcases g2 with g2 | g2
              · have := HPV.out.2.1.range x.id (List.mem_map.2 ⟨x, g2, rfl⟩); unfold okI; omega
              · have := HPV.out.2.2.range x.id (List.mem_map.2 ⟨x, g2, rfl⟩); unfold okI; omega
            · exact g2.elim (valid_after HPV.out.2.1) (valid_after HPV.out.2.2)
          have HX := Lib.hid (And.intro hMx (And.intro b4x (And.intro b5x (And.intro hrx (And.intro hsx (And.intro hbwx (And.intro hov' (And.intro hmg hLok))))))))
          obtain ⟨oa, oc, rfl⟩ := hov.shape
          have H0 := Lib.hid (OutK.mk (base := base) (a := a) (b := b) (L := L) (W := w10) (k := 0) (BRow.nil _ _) (Below.refl _ w10))
          have c5x := b5x.cell
          clear hMx b4x b5x hrx hsx hbwx hov' hmg hLok hM hM2 b4r hb5 hr hbr hbx hom hoi hov hb10 hbm c4 c5 e1 hq
          go_wp2_with fail
          go_loopw [76, 19] (fun i r wq => ∃ k : Nat, k ≤ L.length ∧ i = .int .i64 k ∧ (∃ ra rn rc, r = .slice ra rn rc) ∧ Hid (OutK base a b L w10 k r wq)) (fun i _ _ => L.length - (Go.RowKit.intOf i).toNat)
          case atStart => exact ⟨0, Nat.zero_le _, rfl, ⟨_, _, _, rfl⟩, H0⟩
          case round =>
            obtain ⟨k, hk, rfl, ⟨ra, rn, rc, rfl⟩, hO⟩ := hrel
            by_cases hlt : k < L.length
            · obtain ⟨hMx, b4x, b5x, hrx, hsx, hbwx, hov, hmg, hLok⟩ := HX.out
              have hb := hO.out.below
              obtain ⟨g, cp, e, _, _, hgl, hc⟩ := hov.cells k hlt
              injection e with e _ e2
              subst e e2
              have hgg : g < w10.heap.size := cell_lt hc
              have hc' := (hb.cell (p := ⟨g, k, none⟩) hgg).trans hc
              obtain ⟨x, hx, hok, hal⟩ := hLok k hlt
              obtain ⟨v, hlk, hev⟩ := (hMx.bel hb).look hok
              rw [hx] at hev
              obtain ⟨ao, ac, hints, rfl⟩ := hev
              simp only [entAgg] at hlk
              have hfb := fun W => field_block x.id x.kind x.story x.ref x.lab.till x.lab.appr x.lab.denied x.text ao x.lab.after.length ac true W
              have c4 := (boxed_bel b4x hb).cell
              have hsq := hsx.bel hb
              have HSt := Lib.hid (fun (w' w2 : World) (v : Value) (h1 : Below wr.heap.size wr w') h2 h3 => Lib.hid (OutK.step (w' := w') (w2 := w2) (v := v) hO.out hlt hx h1 h2 h3))
              have hrow := hO.out.row
              have hsz := hb.size
              have hBk := (((L.take k).filterMap fun i => (pickAt base a b i).1)).length
              have hlen : (((L.take k).filterMap fun i => (pickAt base a b i).1)).length ≤ 100000 := by
                have := List.length_filterMap_le (fun i => (pickAt base a b i).1) (L.take k)
                rw [List.length_take] at this; omega
              clear hMx b4x b5x hrx hsx hbwx hov hmg hLok hb hc hx hBk
              generalize (L.take k).filterMap (fun i => (pickAt base a b i).1) = Lk at *
              generalize L[k] = y at *
              have hB : w10.heap.size ≤ wr.heap.size := hsz
              go_wp2_with (first
                | (at_builtin; refine wpList_app_after rfl _ _ rfl rfl ao ac x.lab.after rfl hints (hsq.alloc _) (by omega) ?_; intro v' w11 hI hg11
                   have hh := (hg11.block wr.heap.size (by simp) (by simp)).trans (World.alloc_heap_new _ _)
                   have f0 := blk_free hh 6
                   have d0 := blk_cell hh 0; have d1 := blk_cell hh 1; have d2 := blk_cell hh 2; have d3 := blk_cell hh 3; have d4 := blk_cell hh 4; have d5 := blk_cell hh 5; have d6 := blk_cell hh 6; have d7 := blk_cell hh 7; have d8 := blk_cell hh 8
                   obtain ⟨va, vc, rfl⟩ := hI.shape
                   simp only [List.getElem?_toArray, List.getElem?_cons_zero, List.getElem?_cons_succ] at d0 d1 d2 d3 d4 d5 d6 d7 d8)
                | (at_builtin
                   obtain ⟨r1, r2, r3⟩ := app_ready hrow hB hI hg11 (.cells (blkCells x (.slice va x.lab.after.length vc)) 58)
                   refine wpList_app_blk rfl _ _ rfl w10.heap.size _ Lk rfl r1 x va vc r2 w11.heap.size 1 rfl (by rw [← show (w11.setCell ⟨wr.heap.size, 6, none⟩ (.slice va x.lab.after.length vc)).heap.size = w11.heap.size by simp [World.setCell]]; exact World.alloc_heap_new _ _) hlen (Nat.le_trans hB r3.size) ?_
                   intro v2 w12 h12 hg12
                   have HFin := HSt.out _ _ _ r3 h12 hg12
                   obtain ⟨qa, qn, qc, rfl⟩ := h12.sl
                   clear h12 hg12 r1 r2 r3 hI hg11 hh HSt))
              go_roundw
              case rel => exact ⟨k + 1, by omega, by go_num, ⟨_, _, _, rfl⟩, HFin⟩
              case measure => simp [Go.RowKit.intOf]; omega
            · have e : k = L.length := by omega
              subst e
              obtain ⟨hMx, b4x, b5x, hrx, hsx, hbwx, hov, hmg, hLok⟩ := HX.out
              have hb := hO.out.below
              have c5 := (boxed_bel b5x hb).cell
              have hrow := hO.out.row
              rw [List.take_length, ← hmg] at hrow
              have hrow2 := hrow.less hbwx.size
              have hcf := (hrx.bel hb).less (B' := w.heap.size) (by omega)
              have hbf := hbwx.trans (hb.mono hbwx.size)
              have HF := Lib.hid (And.intro hrow2 (And.intro hcf hbf))
              clear hMx b4x b5x hrx hsx hbwx hov hmg hLok hb hrow hrow2 hcf hbf
              go_wp2_with fail
              go_region
              all_goals (try go_wp2)
              all_goals go_ret3
              obtain ⟨hrow2, hcf, hbf⟩ := HF.out
              unfold MergePost
              rw [mergeF_yes HPV.out hn]
              exact ⟨_, _, rfl, hrow2.drew, hcf.drew, hbf.drew⟩
      · have HP := Lib.hid (mergePost_err (mergeF_long hn) hbr)
        go_wp2_with fail
        go_ret3
        exact HP.out
theorem merge_any {mem : Addr → Option Value} {v1 v2 v3 : Value} {base a b : List Blk} (h1 : BlksM mem v1 base) (h2 : BlksM mem v2 a) (h3 : BlksM mem v3 b) (w : World) (hs : Sees mem w) :
    Calls Tryz.prog 114 #[v1, v2, v3] w (MergePost base a b w) := by
  by_cases hv : ValidL base ∧ ValidL a ∧ ValidL b
  · exact merge_good h1 h2 h3 hv.1 hv.2.1 hv.2.2 w hs
  · exact merge_bad h1 h2 h3 hv w hs
end Go.Proofs.YtdkkhmjlamkgdaaGreatDoor

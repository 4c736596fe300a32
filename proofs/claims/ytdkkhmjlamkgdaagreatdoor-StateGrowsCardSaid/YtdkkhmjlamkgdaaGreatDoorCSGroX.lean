/-
  WHAT IS PROVED HERE: a law returns true and leaves its arguments as they were, for all arguments (6 texts joined). Conditions: those of the card.
-/
import Derived.Test.YtdkkhmjlamkgdaaGreatDoorBn6
/-
  WHAT IS PROVED HERE: a law of regions that draw their order, by an invariant: states st (which operations are done: L st), J holds at the state; each operation that is ready leads from J to J at a state of smaller rank. No program, no condition.
-/
namespace Go.Proofs.YtdkkhmjlamkgdaaGreatDoor

section
variable {P : Program} {ops : Array Oper} {Q : Exit → Act → World → Prop} {md : Region.Mode} {σ : Type}
theorem any_inv (L : σ → Array Bool) (rank : σ → Nat) (J : σ → Act → World → Prop) (h0 : ∀ st, rank st = 0 → Region.ready md ops (L st) = [])
    (h : ∀ st a w, J st a w → (Region.ready md ops (L st) = [] → Q .normal a w) ∧ ∀ i ∈ Region.ready md ops (L st), wpOp P ops Q i (fun a' w' => ∃ st', L st' = (L st).setIfInBounds i true ∧ rank st' < rank st ∧ J st' a' w') a w) :
    ∀ (fuel : Nat) (st : σ) (a : Act) (w : World), rank st ≤ fuel → J st a w → wpAny P md ops Q fuel (L st) a w
  | 0, st, a, w, hr, hJ => by
    have e := h0 st (by omega)
    exact ⟨e, (h st a w hJ).1 e⟩
  | fuel + 1, st, a, w, hr, hJ => by
    obtain ⟨h1, h2⟩ := h st a w hJ
    refine ⟨h1, fun i hi => wpOp_mono (fun a' w' hp => ?_) (h2 i hi)⟩
    obtain ⟨st', e, hk, hJ'⟩ := hp
    rw [← e]
    exact any_inv L rank J h0 h fuel st' a' w' (by omega) hJ'
theorem wp_inv {l : List Oper} {id : Nat} (L : σ → Array Bool) (rank : σ → Nat) (J : σ → Act → World → Prop) (hm : P.follows .mixedOrders = true) (st : σ) (hL : L st = Array.replicate l.length false) (hr : rank st ≤ l.length)
    (h0 : ∀ st, rank st = 0 → Region.ready .any l.toArray (L st) = []) {a : Act} {w : World} (hJ : J st a w.drew)
    (h : ∀ st a w, J st a w → (Region.ready .any l.toArray (L st) = [] → Q .normal a w) ∧ ∀ i ∈ Region.ready .any l.toArray (L st), wpOp P l.toArray Q i (fun a' w' => ∃ st', L st' = (L st).setIfInBounds i true ∧ rank st' < rank st ∧ J st' a' w') a w) :
    (Code.region id l.toArray true).wp P Q a w := by
  have := any_inv (md := .any) L rank J h0 h l.length st a w.drew hr hJ
  rw [hL] at this
  exact wp_region_any hm (by simpa using this)
/-- one operation of the region, where it is wanted or not -/
theorem op_inv {l : List Oper} {i : Nat} {o : Oper} {a : Act} {w : World} {K : Act → World → Prop} (ho : l[i]? = some o) (h : ∀ K' : Act → World → Prop, (∀ a w, K a w → K' a w) → if Region.wanted o (yielded l.toArray a.tmps) then o.wp P a w K' Q else K' (a.put o.dst undef) w) : wpOp P l.toArray Q i K a w := by
  have h1 := h K (fun _ _ h => h)
  unfold wpOp
  have h0 : l.toArray[i]? = some o := by simpa using ho
  simp only [h0]
  split
  · rename_i hw
    rw [if_pos hw] at h1
    exact .inl h1
  · rename_i hw
    rw [if_neg hw] at h1
    exact h1
end
end Go.Proofs.YtdkkhmjlamkgdaaGreatDoor
/-
  WHAT IS PROVED HERE: what holds while StateGrows makes its second state, in each order of the region's operations (worlds only). No condition.
-/
namespace Go.Proofs.YtdkkhmjlamkgdaaGreatDoor
open Go.RowKit Mg Go.Shelf Go.Maps

theorem short_law2 {mem : Addr → Option Value} {v : Value} {es : List FctE} (h : EsM mem v es) (w : World) (hs : Sees mem w) :
    Calls Tryz.prog 18 #[v] w (fun e w' => ∃ ra rc fs, e = .returned (.slice ra fs.length rc) ∧ FRow w' w.heap.size (.slice ra fs.length rc) fs ∧ fs.map FctE.f = shortL7 (es.map FctE.f) ∧ (∀ x ∈ fs, x.ok (memSh mem w.heap.size w' (fun k => (Value.slice ra fs.length rc).ownBlock = some k))) ∧ Below w.heap.size w w') :=
  (short_any2 h w hs).mono fun e w' hp => by
    obtain ⟨r, fs, rfl, h1, h2, h3, h4⟩ := hp
    obtain ⟨ra, rc, rfl⟩ := h1.shape
    exact ⟨ra, rc, fs, rfl, h1, h2, h3, h4⟩
/-- a folded state whose stories are small -/
def FoldGd (l : List Fct) (s : StF) : Prop := FoldIs l s ∧ ∀ x ∈ s.stories, StyGood x
/-- the second state's parts: p counts the chain empty row, first append, short, append, Fold, store; q counts load, row of one; r: the variable is there -/
structure G4 (w1 : World) (fs : List FctE) (x : FctE) (p q : Nat) (r : Bool) (v23 v25 v27 v28 v29 v30 v7 : Value) (w : World) : Prop where
  bel : Below w1.heap.size w1 w
  e0 : p = 1 → FRow w w1.heap.size v23 []
  e2 : p = 2 ∨ p = 3 → FRow w w1.heap.size v25 fs
  e4 : q = 2 → p ≤ 2 → ∃ g, v27 = .slice (some ⟨g, 0, none⟩) 1 1 ∧ w1.heap.size ≤ g ∧ w.heap[g]? = some (.cells x.cells 50 (0, 0)) ∧ (p = 1 → v23.ownBlock ≠ some g) ∧ (p = 2 → v25.ownBlock ≠ some g)
  e5 : p = 3 → ∃ gs, FRow w w1.heap.size v28 gs ∧ gs.map FctE.f = shortL7 [x.f] ∧ (∀ j, v28.ownBlock = some j → v25.ownBlock ≠ some j) ∧ ∀ y ∈ gs, y.ok (memNo w (fun k => v25.ownBlock = some k ∨ v28.ownBlock = some k))
  e6 : p = 4 → ∃ gs, FRow w w1.heap.size v29 (fs ++ gs) ∧ gs.map FctE.f = shortL7 [x.f] ∧ ∀ y ∈ fs ++ gs, y.ok (fun a => w.cell? a)
  e7 : 5 ≤ p → ∃ a c b d s, v30 = .agg #[.slice a s.stories.length c, .slice b s.tpls.length d] ∧ FoldGd (fs.map FctE.f ++ shortL7 [x.f]) s ∧ StateM (memFr w (fun k => k < w1.heap.size ∨ v7 = .pointer (some ⟨k, 0, none⟩))) v30 s
  e8 : r = true → ∃ n, v7 = .pointer (some ⟨n, 0, none⟩) ∧ w1.heap.size ≤ n ∧ w.heap[n]? = some (.cells #[.slice none 0 0, .slice none 0 0] 27 (0, 0))
  u7 : r = false → ∀ k, v7 ≠ .pointer (some ⟨k, 0, none⟩)
section
variable {w1 w w' : World} {fs : List FctE} {x : FctE} {p q : Nat} {r : Bool} {v23 v25 v27 v28 v29 v30 v7 : Value}
theorem FRow.bel {w w' : World} {B : Nat} {v : Value} {es : List FctE} (h : FRow w B v es) (hb : Below w.heap.size w w') : FRow w' B v es := h.same (fun j hj => hb.block j (h.ge j hj).2)
theorem G4.start (hu : ∀ k, v7 ≠ .pointer (some ⟨k, 0, none⟩)) : G4 w1 fs x 0 0 false v23 v25 v27 v28 v29 v30 v7 w1 :=
  ⟨Below.refl _ _, fun e => (by omega), fun e => (by omega), fun e => (by omega), fun e => (by omega), fun e => (by omega), fun e => (by omega), fun e => (by cases e), fun _ => hu⟩
/-- new blocks change nothing -/
theorem G4.keep (h : G4 w1 fs x p q r v23 v25 v27 v28 v29 v30 v7 w) (hb : Below w.heap.size w w') : G4 w1 fs x p q r v23 v25 v27 v28 v29 v30 v7 w' := by
  refine ⟨h.bel.trans (hb.mono h.bel.size), fun e => (h.e0 e).bel hb, fun e => (h.e2 e).bel hb, fun e1 e2 => ?_, fun e => ?_, fun e => ?_, fun e => ?_, fun e => ?_, h.u7⟩
  · obtain ⟨g, g1, g2, g3, g4⟩ := h.e4 e1 e2
    exact ⟨g, g1, g2, (hb.block _ (Go.Proofs.YtdkkhmjlamkgdaaGreatDoor.hlt g3)).trans g3, g4⟩
  · obtain ⟨gs, g1, g2, g3, g4⟩ := h.e5 e
    exact ⟨gs, g1.bel hb, g2, g3, fun y hy => (g4 y hy).mono (memNo_bel hb)⟩
  · obtain ⟨gs, g1, g2, g3⟩ := h.e6 e
    exact ⟨gs, g1.bel hb, g2, fun y hy => (g3 y hy).mono (sees_bel hb)⟩
  · obtain ⟨a, c, b, d, s, g1, g2, g3⟩ := h.e7 e
    exact ⟨a, c, b, d, s, g1, g2, g3.mono (memFr_below hb)⟩
  · obtain ⟨n, g1, g2, g3⟩ := h.e8 e
    exact ⟨n, g1, g2, (hb.block _ (Go.Proofs.YtdkkhmjlamkgdaaGreatDoor.hlt g3)).trans g3⟩
/-- the empty row -/
theorem G4.s0 (h : G4 w1 fs x 0 q r v23 v25 v27 v28 v29 v30 v7 w) : G4 w1 fs x 1 q r (.slice (some ⟨w.heap.size, 0, none⟩) 0 0) v25 v27 v28 v29 v30 v7 (w.alloc (.cells #[] 50)) := by
  have k := h.keep (bel1 w (.cells #[] 50))
  refine ⟨k.bel, fun _ => frow_empty h.bel.size (World.alloc_heap_new _ _), fun e => (by omega), fun e1 _ => ?_, fun e => (by omega), fun e => (by omega), fun e => (by omega), k.e8, k.u7⟩
  obtain ⟨g, g1, g2, g3, _⟩ := k.e4 e1 (by omega)
  obtain ⟨g', g1', _, g3', _⟩ := h.e4 e1 (by omega)
  refine ⟨g, g1, g2, g3, fun _ q => ?_, fun q => (by omega)⟩
  have q2 : w.heap.size = g := Option.some.inj q
  have h1 := Go.Proofs.YtdkkhmjlamkgdaaGreatDoor.hlt g3'
  rw [g1] at g1'
  injection g1' with e _ _
  injection e with e
  injection e with e
  omega
/-- the row of one -/
theorem G4.s4 (h : G4 w1 fs x p 1 r v23 v25 v27 v28 v29 v30 v7 w) (hp : p ≤ 2) : G4 w1 fs x p 2 r v23 v25 (.slice (some ⟨w.heap.size, 0, none⟩) 1 1) v28 v29 v30 v7 (w.alloc (.cells x.cells 50)) := by
  have k := h.keep (bel1 w (.cells x.cells 50))
  refine ⟨k.bel, k.e0, k.e2, fun _ _ => ⟨w.heap.size, rfl, h.bel.size, World.alloc_heap_new _ _, fun e q => ?_, fun e q => ?_⟩, k.e5, k.e6, k.e7, k.e8, k.u7⟩
  · have := ((h.e0 e).ge _ q).2; omega
  · have := ((h.e2 (.inl e)).ge _ q).2; omega
/-- the load ahead of it -/
theorem G4.s3 (h : G4 w1 fs x p 0 r v23 v25 v27 v28 v29 v30 v7 w) : G4 w1 fs x p 1 r v23 v25 v27 v28 v29 v30 v7 w := ⟨h.bel, h.e0, h.e2, fun e => (by omega), h.e5, h.e6, h.e7, h.e8, h.u7⟩
/-- the variable -/
theorem G4.s8 (h : G4 w1 fs x p q false v23 v25 v27 v28 v29 v30 v7 w) : G4 w1 fs x p q true v23 v25 v27 v28 v29 v30 (.pointer (some ⟨w.heap.size, 0, none⟩)) (w.alloc (.cells #[.slice none 0 0, .slice none 0 0] 27)) := by
  have k := h.keep (bel1 w (.cells #[.slice none 0 0, .slice none 0 0] 27))
  refine ⟨k.bel, k.e0, k.e2, k.e4, k.e5, k.e6, fun e => ?_, fun _ => ⟨_, rfl, h.bel.size, World.alloc_heap_new _ _⟩, fun e => (by cases e)⟩
  obtain ⟨a, c, b, d, s, g1, g2, g3⟩ := h.e7 e
  refine ⟨a, c, b, d, s, g1, g2, g3.mono (fun y u hy => ?_)⟩
  obtain ⟨q1, q2, q3⟩ := memFr_lt y u hy
  have hb := bel1 w (.cells #[.slice none 0 0, .slice none 0 0] 27)
  refine memFr_of ((hb.cell q1).trans (memFr_sees w _ y u hy)) ((hb.frozen q1).trans q3) (fun q => ?_)
  rcases q with q | q
  · exact q2 (.inl q)
  · injection q with q
    injection q with q
    injection q with q
    omega
theorem fact_state {g : Nat} {c1 c2 : Array Value} (h1 : w.heap[g]? = some (.cells c1 50 (0, 0))) (h2 : w.heap[g]? = some (.cells c2 27 (0, 0))) : False := by
  rw [h1] at h2
  have := Option.some.inj h2
  injection this with _ e _
  exact absurd e (by decide)
/-- a row of facts grows: the variable stands -/
theorem G4.var (h : G4 w1 fs x p q r v23 v25 v27 v28 v29 v30 v7 w) {v : Value} {es : List FctE} (hr : FRow w w1.heap.size v es) (hg : w.grownBy w' v.ownBlock) : r = true → ∃ n, v7 = .pointer (some ⟨n, 0, none⟩) ∧ w1.heap.size ≤ n ∧ w'.heap[n]? = some (.cells #[.slice none 0 0, .slice none 0 0] 27 (0, 0)) := fun e => by
  obtain ⟨n, g1, g2, g3⟩ := h.e8 e
  refine ⟨n, g1, g2, (hg.block n (Go.Proofs.YtdkkhmjlamkgdaaGreatDoor.hlt g3) (fun q => ?_)).trans g3⟩
  obtain ⟨c, hc⟩ := hr.blk n q.symm
  exact fact_state hc g3
theorem G4.grown (h : G4 w1 fs x p q r v23 v25 v27 v28 v29 v30 v7 w) {v : Value} {es : List FctE} (hr : FRow w w1.heap.size v es) (hg : w.grownBy w' v.ownBlock) : Below w1.heap.size w1 w' := h.bel.grown hg h.bel.size (fun j hj => (hr.ge j hj).1)
/-- the first append -/
theorem G4.s2 (h : G4 w1 fs x 1 q r v23 v25 v27 v28 v29 v30 v7 w) {v : Value} (hr : FRow w' w1.heap.size v fs) (hg : w.grownBy w' v23.ownBlock) (ho : v.ownBlock = v23.ownBlock ∨ v.ownBlock = some w.heap.size) : G4 w1 fs x 2 q r v23 v v27 v28 v29 v30 v7 w' := by
  have h0 := h.e0 rfl
  refine ⟨h.grown h0 hg, fun e => (by omega), fun _ => hr, fun e1 _ => ?_, fun e => (by omega), fun e => (by omega), fun e => (by omega), h.var h0 hg, h.u7⟩
  obtain ⟨g, g1, g2, g3, g4, _⟩ := h.e4 e1 (by omega)
  refine ⟨g, g1, g2, (hg.block g (Go.Proofs.YtdkkhmjlamkgdaaGreatDoor.hlt g3) (fun q => g4 rfl q.symm)).trans g3, fun e => (by omega), fun _ q => ?_⟩
  rcases ho with e | e
  · exact g4 rfl (e ▸ q)
  · have := Go.Proofs.YtdkkhmjlamkgdaaGreatDoor.hlt g3
    rw [e] at q
    have q2 : w.heap.size = g := Option.some.inj q
    omega
/-- the memory that short is handed -/
noncomputable def memOne (w1 w : World) (g : Nat) (a : Addr) : Option Value := if a.block < w1.heap.size then w1.cell? a else if a.block = g then w.cell? a else none
theorem memOne_cases {g : Nat} {a : Addr} {u : Value} (h : memOne w1 w g a = some u) : (a.block < w1.heap.size ∧ w1.cell? a = some u) ∨ (a.block = g ∧ w.cell? a = some u) := by
  unfold memOne at h
  split at h
  · next e => exact .inl ⟨e, h⟩
  · split at h
    · next e => exact .inr ⟨e, h⟩
    · cases h
theorem memOne_sees {g : Nat} (hb : Below w1.heap.size w1 w) : Sees (memOne w1 w g) w := fun a u h => by
  rcases memOne_cases h with ⟨_, q⟩ | ⟨_, q⟩
  · exact sees_bel hb a u q
  · exact q
theorem memOne_es {g : Nat} (hg : w1.heap.size ≤ g) (hh : w.heap[g]? = some (.cells x.cells 50 (0, 0))) (hx : x.ok (fun a => w1.cell? a)) : EsM (memOne w1 w g) (.slice (some ⟨g, 0, none⟩) 1 1) [x] := by
  refine ⟨g, 0, ⟨ml 1 (by omega), some ⟨g, 0, none⟩, 1, rfl, Nat.le_refl _, ml 1 (by omega), fun _ => rfl⟩, fun j hj => ?_⟩
  obtain rfl : j = 0 := by simpa using hj
  refine ⟨hx.mono (fun a u e => ?_), fun t u ht => ?_⟩
  · unfold memOne
    rw [if_pos (World.block_lt_of_cell? w1 a e)]; exact e
  · unfold memOne
    rw [if_neg (by simp only; omega), if_pos rfl]
    have : w.cell? ⟨g, 0 + 0 * 23 + t, none⟩ = x.cells[t]? := by rw [show 0 + 0 * 23 + t = t by omega]; exact rowcell hh
    rw [this]; exact ht
/-- short of the one -/
theorem G4.s5 (h : G4 w1 fs x 2 2 r v23 v25 v27 v28 v29 v30 v7 w) {v : Value} {gs : List FctE} {g : Nat} (h27 : v27 = .slice (some ⟨g, 0, none⟩) 1 1) (hr : FRow w' w.heap.size v gs) (hm : gs.map FctE.f = shortL7 [x.f]) (hok : ∀ y ∈ gs, y.ok (memSh (memOne w1 w g) w.heap.size w' (fun k => v.ownBlock = some k))) (hb : Below w.heap.size w w') : G4 w1 fs x 3 2 r v23 v25 v27 v v29 v30 v7 w' := by
  have k := h.keep hb
  have h2 := h.e2 (.inl rfl)
  obtain ⟨g', g1, g2, g3, _, g5⟩ := h.e4 rfl (by omega)
  rw [h27] at g1
  injection g1 with e _ _
  injection e with e
  injection e with e
  subst e
  refine ⟨k.bel, fun e => (by omega), fun _ => k.e2 (.inl rfl), fun _ e => (by omega), fun _ => ⟨gs, hr.weaken h.bel.size, hm, fun j hj q => ?_, fun y hy => (hok y hy).mono (fun a u ha => ?_)⟩, fun e => (by omega), fun e => (by omega), k.e8, k.u7⟩
  · have q1 := (hr.ge j hj).1
    have q2 := (h2.ge j q).2
    omega
  · rcases memSh_cases ha with ⟨q1, q2⟩ | ⟨q1, q2⟩
    · refine memNo_of (sees_bel hb a u (memOne_sees h.bel a u q2)) (fun q => ?_)
      rcases q with q | q
      · rcases memOne_cases q2 with ⟨q3, _⟩ | ⟨q3, _⟩
        · have := (h2.ge _ q).1; omega
        · rw [q3] at q; exact g5 rfl q
      · have := (hr.ge _ q).1; omega
    · obtain ⟨q3, q4⟩ := memNo_get q2
      refine memNo_of q3 (fun q => ?_)
      rcases q with q | q
      · have := (h2.ge _ q).2; omega
      · exact q4 q
/-- the second append: the new facts as a list in memory -/
theorem G4.es28 (h : G4 w1 fs x 3 q r v23 v25 v27 v28 v29 v30 v7 w) : ∃ gs, ∃ ao cap, v28 = .slice ao gs.length cap ∧ gs.map FctE.f = shortL7 [x.f] ∧ EsM (fun a => w.cell? a) (.slice ao gs.length cap) gs ∧ ∀ w' v, FRow w' w1.heap.size v (fs ++ gs) → w.grownBy w' v25.ownBlock → (∀ y ∈ fs, y.ok (fun a => w1.cell? a)) → G4 w1 fs x 4 q r v23 v25 v27 v28 v v30 v7 w' := by
  obtain ⟨gs, g1, g2, g3, g4⟩ := h.e5 rfl
  obtain ⟨ao, cap, e⟩ := g1.shape
  refine ⟨gs, ao, cap, e, g2, ?_, fun w' v hr hg hfs => ?_⟩
  · rw [← e]
    exact g1.es (fun y hy => (g4 y hy).mono (memNo_sees w _))
  · have h2 := h.e2 (.inr rfl)
    have hb := h.grown h2 hg
    refine ⟨hb, fun e => (by omega), fun e => (by omega), fun _ e => (by omega), fun e => (by omega), fun _ => ⟨gs, hr, g2, fun y hy => ?_⟩, fun e => (by omega), h.var h2 hg, h.u7⟩
    rcases List.mem_append.1 hy with hy | hy
    · exact (hfs y hy).mono (sees_bel hb)
    · refine (g4 y hy).mono (fun a u ha => ?_)
      obtain ⟨q1, q2⟩ := memNo_get ha
      exact (World.cell?_of_block (hg.block a.block (World.block_lt_of_cell? w a q1) (fun q => q2 (.inl q.symm)))).trans q1
/-- the fold -/
theorem G4.es29 (h : G4 w1 fs x 4 q r v23 v25 v27 v28 v29 v30 v7 w) : ∃ gs, ∃ ao cap, v29 = .slice ao (fs ++ gs).length cap ∧ gs.map FctE.f = shortL7 [x.f] ∧ EsM (fun a => w.cell? a) (.slice ao (fs ++ gs).length cap) (fs ++ gs) ∧ ∀ w' a c b d s, Folded ((fs ++ gs).map FctE.f) w (.slice a s.stories.length c) (.slice b s.tpls.length d) s w' → G4 w1 fs x 5 q r v23 v25 v27 v28 v29 (.agg #[.slice a s.stories.length c, .slice b s.tpls.length d]) v7 w' := by
  obtain ⟨gs, g1, g2, g3⟩ := h.e6 rfl
  obtain ⟨ao, cap, e⟩ := g1.shape
  refine ⟨gs, ao, cap, e, g2, by rw [← e]; exact g1.es g3, fun w' a c b d s hF => ?_⟩
  have k := h.keep hF.bel
  refine ⟨k.bel, fun e => (by omega), fun e => (by omega), fun _ e => (by omega), fun e => (by omega), fun e => (by omega), fun _ => ⟨a, c, b, d, s, rfl, ?_, hF.st.mono (memFr_mono (Upd.refl (fun _ => False) w') fun kk hk hf => ⟨fun q => hf ?_, fun q => q⟩)⟩, k.e8, k.u7⟩
  · have := hF.is
    rw [List.map_append, g2] at this
    exact ⟨this, hF.good⟩
  · rcases q with q | q
    · have := h.bel.size; omega
    · cases r with
      | false => exact absurd q (h.u7 rfl kk)
      | true =>
        obtain ⟨n, e1, e2, e3⟩ := h.e8 rfl
        have := Go.Proofs.YtdkkhmjlamkgdaaGreatDoor.hlt e3
        rw [e1] at q
        injection q with q
        injection q with q
        injection q with q
        omega
/-- the end: what the second state is -/
theorem G4.fin (h : G4 w1 fs x 5 q true v23 v25 v27 v28 v29 v30 v7 w) : ∃ n a c b d s, v7 = .pointer (some ⟨n, 0, none⟩) ∧ w1.heap.size ≤ n ∧ w.heap[n]? = some (.cells #[.slice none 0 0, .slice none 0 0] 27 (0, 0)) ∧ v30 = .agg #[.slice a s.stories.length c, .slice b s.tpls.length d] ∧ FoldGd (fs.map FctE.f ++ shortL7 [x.f]) s ∧
    StateM (memFr (w.setRow n #[.slice a s.stories.length c, .slice b s.tpls.length d]) (fun k => k < w1.heap.size ∨ k = n)) v30 s ∧ Below w1.heap.size w1 (w.setRow n #[.slice a s.stories.length c, .slice b s.tpls.length d]) := by
  obtain ⟨n, g1, g2, g3⟩ := h.e8 rfl
  obtain ⟨a, c, b, d, s, f1, f2, f3⟩ := h.e7 (by omega)
  refine ⟨n, a, c, b, d, s, g1, g2, g3, f1, f2, f3.mono (memFr_mono (upd_row w n _) fun k _ hf => ⟨fun q => hf ?_, fun q => hf (.inr ?_)⟩), below_setRow h.bel g2 _⟩
  · rcases q with q | q
    · exact .inl q
    · exact .inr (by rw [g1, q])
  · rw [g1, q]
end
end Go.Proofs.YtdkkhmjlamkgdaaGreatDoor
/-
  WHAT IS PROVED HERE: plain: a further fact: what the lookups find. No program, no condition.
-/
namespace Go.Proofs.YtdkkhmjlamkgdaaGreatDoor.Mg

theorem findE_of {l : List EdnF} (hp : (l.map EdnF.lang).Pairwise ltB) {e : EdnF} (he : e ∈ l) : findE l e.lang = some e := by
  unfold findE
  obtain ⟨j, hj, rfl⟩ := List.getElem_of_mem he
  rw [List.find?_eq_some_iff_getElem]
  refine ⟨by simp, j, hj, rfl, fun i hi => ?_⟩
  have := List.pairwise_iff_getElem.1 hp i j (by simp; omega) (by simpa using hj) hi
  simp only [List.getElem_map] at this
  simp only [Bool.not_eq_true', decide_eq_false_iff_not]
  intro e
  rw [e] at this
  exact ltB_irr _ this
theorem grows_find {l : List Fct} {f : Fct} {s t : StF} (h : FoldIs l s) (h' : FoldIs (l ++ [f]) t) {x : StyF} (hx : x ∈ s.stories) :
    ∃ y, findS t x.id = some y ∧ y.pub = x.pub ∧ (x.taken = true → y.taken = true) ∧ (¬ (f.kind = 6 ∧ f.story = x.id) → ∀ e ∈ x.eds, ∃ e', ednOf t x.id e.lang = some e' ∧ e.rev ≤ e'.rev) := by
  obtain ⟨y, hy, e1, e2, e3, e4⟩ := grows_story h h' hx
  have hf : findS t x.id = some y := by rw [← e1]; exact find_of h' hy
  refine ⟨y, hf, e2, e3, fun hn e he => ?_⟩
  obtain ⟨e', he', hl, hr⟩ := e4 hn e he
  refine ⟨e', ?_, hr⟩
  unfold ednOf styOf
  rw [hf, ← hl]
  exact findE_of (h'.val y hy).eds he'
theorem grows_at {l : List Fct} {f : Fct} {s t : StF} (h : FoldIs l s) (h' : FoldIs (l ++ [f]) t) {x : TplF} (hx : x ∈ s.tpls) : ∃ k, ∃ hk : k < t.tpls.length, t.tpls[k].name = x.name := by
  obtain ⟨y, hy, e⟩ := grows_tpl h h' hx
  obtain ⟨k, hk, rfl⟩ := List.getElem_of_mem hy
  exact ⟨k, hk, e⟩
/-- is one of the first k of that name? -/
def tplHas (l : List TplF) (n : ByteArray) (k : Nat) : Bool := (l.take k).any fun t => decide (t.name = n)
theorem tplHas_zero (l : List TplF) (n : ByteArray) : tplHas l n 0 = false := by simp [tplHas]
theorem tplHas_succ (l : List TplF) (n : ByteArray) (k : Nat) (hk : k < l.length) : tplHas l n (k + 1) = (tplHas l n k || decide (l[k].name = n)) := by
  unfold tplHas
  rw [List.take_succ_eq_append_getElem hk, List.any_append]; simp
theorem tplHas_all {l : List TplF} {n : ByteArray} (h : ∃ k, ∃ hk : k < l.length, l[k].name = n) : tplHas l n l.length = true := by
  obtain ⟨k, hk, e⟩ := h
  unfold tplHas
  rw [List.take_length, List.any_eq_true]
  exact ⟨_, List.getElem_mem hk, by simp [e]⟩
end Go.Proofs.YtdkkhmjlamkgdaaGreatDoor.Mg
/-
  WHAT IS PROVED HERE: the loop of StateGrows over a story's editions (printed by tools/sxg1.py). No condition but that what it reads lies in memory.
-/
namespace Go.Proofs.YtdkkhmjlamkgdaaGreatDoor
open Go.RowKit Mg Go.Shelf Go.Maps

def loopsOf : Code → List Code
  | .loop c => c :: loopsOf c
  | .seq a b => loopsOf a ++ loopsOf b
  | .block _ c => loopsOf c
  | .scope c => loopsOf c
  | .cond _ a b => loopsOf a ++ loopsOf b
  | _ => []

/-- what stands still while the editions are compared -/
structure GrE (mem9 mem1 : Addr → Option Value) (W7 : World) (a9 : Option Addr) (c9 : Nat) (b9 : Option Addr) (d9 n9 : Nat) (s9 : StF) (y : StyF) (Y : Nat) (t1 : Option Addr) (t2 : Nat) (ea : Option Addr) (ec : Nat) (k1 : Option Addr) (k2 eb eo : Nat) : Prop where
  st : StateM mem9 (.agg #[.slice a9 s9.stories.length c9, .slice b9 s9.tpls.length d9]) s9
  sees9 : Sees mem9 W7
  good : GSt s9
  box9 : W7.heap[n9]? = some (.cells #[.slice a9 s9.stories.length c9, .slice b9 s9.tpls.length d9] 27 (0, 0))
  boxY : W7.heap[Y]? = some (.cells (styCells y (.slice t1 y.topics.length t2) (.slice ea y.eds.length ec) (.slice k1 y.corr.length k2)) 34 (0, 0))
  ea : 0 < y.eds.length → ea = some ⟨eb, eo, none⟩
  eds : ∀ j (h : j < y.eds.length), EdnAt mem1 y.eds[j] eb (eo + j * 5)
  sees1 : Sees mem1 W7
  len : y.eds.length ≤ 9223372036854775807
  grows : ∀ e ∈ y.eds, ∃ e', ednOf s9 y.id e.lang = some e' ∧ e.rev ≤ e'.rev
noncomputable def grEds : Code := ((Tryz.f4.body.map loopsOf).getD []).getD 1 .skip
set_option maxRecDepth 100000 in
set_option maxHeartbeats 4000000 in
theorem grEds_round {mem9 mem1 : Addr → Option Value} {W7 : World} {a9 b9 : Option Addr} {c9 d9 n9 Y : Nat} {s9 : StF} {y : StyF} {t1 k1 : Option Addr} {t2 k2 ec eb eo : Nat} {ea : Option Addr} (C : GrE mem9 mem1 W7 a9 c9 b9 d9 n9 s9 y Y t1 t2 ea ec k1 k2 eb eo) (c0 c1 c2 c3 c5 c6 c8 c10 c11 c15 c16 c17 c18 c19 c20 c21 c22 c23 c24 c25 c26 c27 c28 c29 c30 c31 c32 c33 c34 c35 c36 c37 c38 c39 c40 c41 c42 c43 c44 c45 c46 c47 c48 c49 c50 c51 c52 c53 c54 c55 c56 c57 c58 c59 c60 c61 c62 c63 c64 c65 c66 c67 c68 c69 c70 c71 c72 c73 c74 c75 c76 c77 c111 c112 c113 c114 c115 c116 c117 c118 c119 c120 c121 c122 c123 c124 c125 c126 c127 c128 c129 c130 c131 c132 c133 c134 c135 c136 c137 c138 c139 c140 c141 c142 c143 : Value) (u4 u13 u14 u78 u79 u80 u81 u82 u83 u84 u85 u86 u87 u88 u89 u90 u91 u92 u93 u94 u95 u96 u97 u98 u99 u100 u101 u102 u103 u104 u105 u106 u107 u108 u109 u110 : Value) (j : Nat) (hjl : j < y.eds.length) (wr : World) (hB : Below W7.heap.size W7 wr) (Q : Exit → Act → World → Prop)
    (hQ : ∀ (u4 u12 u13 u14 u78 u79 u80 u81 u82 u83 u84 u85 u86 u87 u88 u89 u90 u91 u92 u93 u94 u95 u96 u97 u98 u99 u100 u101 u102 u103 u104 u105 u106 u107 u108 u109 u110 : Value) (w2 : World), u12 = .int .i64 ((j + 1 : Nat) : Int) → Below W7.heap.size W7 w2 → Q .normal ⟨#[c0, c1, c2, c3, u4, c5, c6, .pointer (some ⟨n9, 0, none⟩), c8, .pointer (some ⟨Y, 0, none⟩), c10, c11, u12, u13, u14, c15, c16, c17, c18, c19, c20, c21, c22, c23, c24, c25, c26, c27, c28, c29, c30, c31, c32, c33, c34, c35, c36, c37, c38, c39, c40, c41, c42, c43, c44, c45, c46, c47, c48, c49, c50, c51, c52, c53, c54, c55, c56, c57, c58, c59, c60, c61, c62, c63, c64, c65, c66, c67, c68, c69, c70, c71, c72, c73, c74, c75, c76, c77, u78, u79, u80, u81, u82, u83, u84, u85, u86, u87, u88, u89, u90, u91, u92, u93, u94, u95, u96, u97, u98, u99, u100, u101, u102, u103, u104, u105, u106, u107, u108, u109, u110, c111, c112, c113, c114, c115, c116, c117, c118, c119, c120, c121, c122, c123, c124, c125, c126, c127, c128, c129, c130, c131, c132, c133, c134, c135, c136, c137, c138, c139, c140, c141, c142, c143], []⟩ w2) (hP : ∀ c a a2 w2, a2.defers = a.defers → Q (.panic c) a w2 → Q (.panic c) a2 w2) :
    grEds.wp Tryz.prog Q ⟨#[c0, c1, c2, c3, u4, c5, c6, .pointer (some ⟨n9, 0, none⟩), c8, .pointer (some ⟨Y, 0, none⟩), c10, c11, .int .i64 (j : Nat), u13, u14, c15, c16, c17, c18, c19, c20, c21, c22, c23, c24, c25, c26, c27, c28, c29, c30, c31, c32, c33, c34, c35, c36, c37, c38, c39, c40, c41, c42, c43, c44, c45, c46, c47, c48, c49, c50, c51, c52, c53, c54, c55, c56, c57, c58, c59, c60, c61, c62, c63, c64, c65, c66, c67, c68, c69, c70, c71, c72, c73, c74, c75, c76, c77, u78, u79, u80, u81, u82, u83, u84, u85, u86, u87, u88, u89, u90, u91, u92, u93, u94, u95, u96, u97, u98, u99, u100, u101, u102, u103, u104, u105, u106, u107, u108, u109, u110, c111, c112, c113, c114, c115, c116, c117, c118, c119, c120, c121, c122, c123, c124, c125, c126, c127, c128, c129, c130, c131, c132, c133, c134, c135, c136, c137, c138, c139, c140, c141, c142, c143], []⟩ wr := by
  have HQ := Lib.hid hQ
  have HP := Lib.hid hP
  have HBZ := Lib.hid hB
  have HST9 := Lib.hid C.st
  have HS9 := Lib.hid C.sees9
  have HGE := Lib.hid C.good
  have HN9 := Lib.hid C.box9
  have HY7 := Lib.hid C.boxY
  have HEAT := Lib.hid C.eds
  have HSM := Lib.hid C.sees1
  have HED := Lib.hid C.grows
  have hnl := C.len
  obtain rfl := C.ea (by omega)
  have k3 : wr.cell? ⟨Y, 3, none⟩ = some (.slice (some ⟨eb, eo, none⟩) y.eds.length ec) := rowcell ((hB.block _ (Go.Proofs.YtdkkhmjlamkgdaaGreatDoor.hlt HY7.out)).trans HY7.out)
  clear hQ hP hB C
  conv => arg 2; whnf
  have HC := Lib.hid (HEAT.out j hjl)
  have hed := HED.out _ (List.getElem_mem hjl)
  obtain ⟨e2, he2, hrev⟩ := hed
  obtain ⟨_, bv, hcells, _⟩ := HC.out
  have hcw := cells_see (sz := 5) (HSM.out.bel HBZ.out) hcells rfl
  have HC0 : Hid (wr.drew.cell? ⟨eb, eo + j * 5, none⟩ = some (.string (y.eds[j]'hjl).lang)) := Lib.hid (hcw 0 (by omega))
  have HC1 : Hid (wr.drew.cell? ⟨eb, eo + j * 5 + 1, none⟩ = some (.int .i64 (y.eds[j]'hjl).rev)) := Lib.hid (hcw 1 (by omega))
  clear HC hcells hcw
  generalize (y.eds[j]'hjl).lang = lg at *
  generalize (y.eds[j]'hjl).rev = rv at *
  have HRV : Hid (¬ (e2.rev < rv)) := Lib.hid (by omega)
  have HEO : Hid ((ednOf s9 y.id lg).getD edn0 = e2 ∧ (ednOf s9 y.id lg).isSome = true) := Lib.hid (by rw [he2]; exact ⟨rfl, rfl⟩)
  clear he2 hrev
  go_upto_region 16 with fail
  obtain ⟨Wd, hWd⟩ : ∃ Wd, Wd = wr.drew := ⟨_, rfl⟩
  have HBD : Hid (Below W7.heap.size W7 Wd) := Lib.hid (by rw [hWd]; exact HBZ.out.drew)
  rw [← hWd] at HC0 HC1
  have HYD := Lib.hid ((HBD.out.block _ (Go.Proofs.YtdkkhmjlamkgdaaGreatDoor.hlt HY7.out)).trans HY7.out)
  have HND := Lib.hid ((HBD.out.block _ (Go.Proofs.YtdkkhmjlamkgdaaGreatDoor.hlt HN9.out)).trans HN9.out)
  refine wp_sch (.take 0 (.take 1 (.take 2 (.take 3 (.take 4 (.take 5 (.take 6 (.take 7 (.take 8 (.either 9 13 (.take 10 (.take 11 (.take 12 (.only 13 (.only 14 (.only 15 .done)))))) (.only 9 (.take 10 (.take 11 (.take 12 (.only 14 (.only 15 .done)))))))))))))))) 1000 (fun W2 => Below Wd.heap.size Wd W2) (by kernel_rfl) (by kernel_rfl) (by rw [← hWd]; exact Below.refl _ _) ?_
  rw [← hWd]
  clear hWd k3
  refine wpSch_take rfl (.agg #[.slice a9 s9.stories.length c9, .slice b9 s9.tpls.length d9]) (fun _ _ _ _ h => HP.out _ _ _ _ (by rfl) h) (Below.refl _ _) (by rfl) (fun W2 hW => by exact exec_smid S_state _ rfl (by simp [Act.eval]) _ rfl (whole_cells ((hW.block _ (Go.Proofs.YtdkkhmjlamkgdaaGreatDoor.hlt HND.out)).trans HND.out))) ?_
  simp only [Act.put, List.setIfInBounds_toArray, List.set_cons_zero, List.set_cons_succ]
  refine wpSch_take rfl (.pointer (some ⟨Y, 0, none⟩)) (fun _ _ _ _ h => HP.out _ _ _ _ (by rfl) h) (Below.refl _ _) (by rfl) (fun W2 hW => by go_simp) ?_
  simp only [Act.put, List.setIfInBounds_toArray, List.set_cons_zero, List.set_cons_succ]
  refine wpSch_take rfl (.int .i64 y.id) (fun _ _ _ _ h => HP.out _ _ _ _ (by rfl) h) (Below.refl _ _) (by rfl) (fun W2 hW => by have q0 : W2.cell? ⟨Y, 0, none⟩ = some (.int .i64 y.id) := rowcell ((hW.block _ (Go.Proofs.YtdkkhmjlamkgdaaGreatDoor.hlt HYD.out)).trans HYD.out); go_simp) ?_
  simp only [Act.put, List.setIfInBounds_toArray, List.set_cons_zero, List.set_cons_succ]
  refine wpSch_take rfl (.pointer (some ⟨Y, 3, none⟩)) (fun _ _ _ _ h => HP.out _ _ _ _ (by rfl) h) (Below.refl _ _) (by rfl) (fun W2 hW => by go_simp) ?_
  simp only [Act.put, List.setIfInBounds_toArray, List.set_cons_zero, List.set_cons_succ]
  refine wpSch_take rfl (.slice (some ⟨eb, eo, none⟩) y.eds.length ec) (fun _ _ _ _ h => HP.out _ _ _ _ (by rfl) h) (Below.refl _ _) (by rfl) (fun W2 hW => by have q0 : W2.cell? ⟨Y, 3, none⟩ = some (.slice (some ⟨eb, eo, none⟩) y.eds.length ec) := rowcell ((hW.block _ (Go.Proofs.YtdkkhmjlamkgdaaGreatDoor.hlt HYD.out)).trans HYD.out); go_simp) ?_
  simp only [Act.put, List.setIfInBounds_toArray, List.set_cons_zero, List.set_cons_succ]
  refine wpSch_take rfl (.int .i64 j) (fun _ _ _ _ h => HP.out _ _ _ _ (by rfl) h) (Below.refl _ _) (by rfl) (fun W2 hW => by go_simp) ?_
  simp only [Act.put, List.setIfInBounds_toArray, List.set_cons_zero, List.set_cons_succ]
  refine wpSch_take rfl (.pointer (some ⟨eb, eo + j * 5, none⟩)) (fun _ _ _ _ h => HP.out _ _ _ _ (by rfl) h) (Below.refl _ _) (by rfl) (fun W2 hW => by go_simp) ?_
  simp only [Act.put, List.setIfInBounds_toArray, List.set_cons_zero, List.set_cons_succ]
  refine wpSch_take rfl (.pointer (some ⟨eb, eo + j * 5, none⟩)) (fun _ _ _ _ h => HP.out _ _ _ _ (by rfl) h) (Below.refl _ _) (by rfl) (fun W2 hW => by go_simp) ?_
  simp only [Act.put, List.setIfInBounds_toArray, List.set_cons_zero, List.set_cons_succ]
  refine wpSch_take rfl (.string lg) (fun _ _ _ _ h => HP.out _ _ _ _ (by rfl) h) (Below.refl _ _) (by rfl) (fun W2 hW => by have q0 : W2.cell? ⟨eb, eo + j * 5, none⟩ = some (.string lg) := sees_bel hW _ _ HC0.out; go_simp) ?_
  simp only [Act.put, List.setIfInBounds_toArray, List.set_cons_zero, List.set_cons_succ]
  refine wpSch_either rfl rfl (fun K hK => ?_) (fun K hK => ?_)
  · skip
    have cE := Lib.hid (Edition_any HST9.out HGE.out y.id lg Wd (HS9.out.bel HBD.out))
    go_simp
    refine cE.out.mono ?_
    rintro e wE ⟨bv2, rfl, _, hbr, hbE⟩
    rw [HEO.out.1, HEO.out.2]
    obtain ⟨ba, bn, bc, rfl⟩ := hbr.sl
    dsimp only
    clear hbr cE
    have HSE : Hid (Below Wd.heap.size Wd wE) := Lib.hid (((Below.refl Wd.heap.size Wd)).trans (hbE.mono ((Below.refl Wd.heap.size Wd)).size))
    refine hK _ _ HSE.out ?_
    clear hK K
    refine wpSch_take rfl (.tuple #[.agg (ednCells e2 (.slice ba bn bc)), .bool true]) (fun _ _ _ _ h => HP.out _ _ _ _ (by rfl) h) HSE.out (by rfl) (fun W2 hW => by go_simp) ?_
    simp only [Act.put, List.setIfInBounds_toArray, List.set_cons_zero, List.set_cons_succ]
    refine wpSch_take rfl (.agg (ednCells e2 (.slice ba bn bc))) (fun _ _ _ _ h => HP.out _ _ _ _ (by rfl) h) HSE.out (by rfl) (fun W2 hW => by go_simp) ?_
    simp only [Act.put, List.setIfInBounds_toArray, List.set_cons_zero, List.set_cons_succ]
    refine wpSch_take rfl (.bool true) (fun _ _ _ _ h => HP.out _ _ _ _ (by rfl) h) HSE.out (by rfl) (fun W2 hW => by go_simp) ?_
    simp only [Act.put, List.setIfInBounds_toArray, List.set_cons_zero, List.set_cons_succ]
    refine wpSch_only rfl (fun K hK => ?_)
    rw [if_pos (by rfl)]
    go_simp
    obtain ⟨wG, hwG⟩ : ∃ wG, wG = wE.alloc (.cells #[.string ⟨#[]⟩, .int .i64 0, .string ⟨#[]⟩, .slice none 0 0, .int .i64 0] 39) := ⟨_, rfl⟩
    have HTG : Hid (wG.heap[wE.heap.size]? = some (.cells #[.string ⟨#[]⟩, .int .i64 0, .string ⟨#[]⟩, .slice none 0 0, .int .i64 0] 39 (0, 0))) := Lib.hid (by rw [hwG]; exact World.alloc_heap_new _ _)
    have HSG : Hid (Below Wd.heap.size Wd wG) := Lib.hid (by rw [hwG]; exact HSE.out.alloc HSE.out.size _)
    have hTs := HSE.out.size
    generalize wE.heap.size = T at *
    rw [← hwG]
    refine hK _ _ HSG.out ?_
    clear hK K hwG
    refine wpSch_only rfl (fun K hK => ?_)
    rw [if_pos (by rfl)]
    refine wp_sstore S_edn _ _ rfl rfl rfl HTG.out rfl rfl (by simp [Value.oneCell']) ?_
    obtain ⟨WF, hWF⟩ : ∃ WF, WF = wG.setRow T (ednCells e2 (.slice ba bn bc)) := ⟨_, rfl⟩
    have HSF : Hid (Below Wd.heap.size Wd WF) := Lib.hid (by rw [hWF]; exact below_setRow HSG.out (by omega) _)
    have HTF : Hid (WF.heap[T]? = some (.cells (ednCells e2 (.slice ba bn bc)) 39 (0, 0))) := Lib.hid (by rw [hWF]; exact setRow_heap _ _ _ _ _ _ HTG.out)
    rw [← hWF]
    clear hWF
    simp only [Act.put]
    refine hK _ _ HSF.out ?_
    clear hK K
    refine wpSch_only rfl (fun K hK => ?_)
    rw [if_pos (by rfl)]
    go_simp
    refine hK _ _ HSF.out ?_
    clear hK K
    refine wpSch_done ?_
    have HYF := Lib.hid ((HSF.out.block _ (Go.Proofs.YtdkkhmjlamkgdaaGreatDoor.hlt HYD.out)).trans HYD.out)
    have HBF : Hid (Below W7.heap.size W7 WF) := Lib.hid (HBD.out.trans (HSF.out.mono HBD.out.size))
    have f1 : WF.cell? ⟨T, 1, none⟩ = some (.int .i64 e2.rev) := rowcell HTF.out
    have f3 : WF.cell? ⟨Y, 3, none⟩ = some (.slice (some ⟨eb, eo, none⟩) y.eds.length ec) := rowcell HYF.out
    have f5 : WF.cell? ⟨eb, eo + j * 5 + 1, none⟩ = some (.int .i64 rv) := sees_bel HSF.out _ _ HC1.out
    have hrv := HRV.out
    go_upto_region 17 with fail
    go_quiet (fail)
    go_wp2_with fail
    exact HQ.out _ _ _ _ _ _ _ _ _ _ _ _ _ _ _ _ _ _ _ _ _ _ _ _ _ _ _ _ _ _ _ _ _ _ _ _ _ _ (by go_num) (below_drewN HBF.out _)
  · skip
    rw [if_pos (by rfl)]
    go_simp
    obtain ⟨wG, hwG⟩ : ∃ wG, wG = Wd.alloc (.cells #[.string ⟨#[]⟩, .int .i64 0, .string ⟨#[]⟩, .slice none 0 0, .int .i64 0] 39) := ⟨_, rfl⟩
    have HTG : Hid (wG.heap[Wd.heap.size]? = some (.cells #[.string ⟨#[]⟩, .int .i64 0, .string ⟨#[]⟩, .slice none 0 0, .int .i64 0] 39 (0, 0))) := Lib.hid (by rw [hwG]; exact World.alloc_heap_new _ _)
    have HSG : Hid (Below Wd.heap.size Wd wG) := Lib.hid (by rw [hwG]; exact bel1 Wd _)
    have HBG : Hid (Below W7.heap.size W7 wG) := Lib.hid (HBD.out.trans (HSG.out.mono HBD.out.size))
    rw [← hwG]
    refine hK _ _ HSG.out ?_
    clear hK K hwG
    refine wpSch_only rfl (fun K hK => ?_)
    have cE := Lib.hid (Edition_any HST9.out HGE.out y.id lg wG (HS9.out.bel HBG.out))
    go_simp
    refine cE.out.mono ?_
    rintro e wE ⟨bv2, rfl, _, hbr, hbE⟩
    rw [HEO.out.1, HEO.out.2]
    obtain ⟨ba, bn, bc, rfl⟩ := hbr.sl
    dsimp only
    clear hbr cE
    have HSE : Hid (Below Wd.heap.size Wd wE) := Lib.hid ((HSG.out).trans (hbE.mono (HSG.out).size))
    have HTE := Lib.hid ((hbE.block _ (Go.Proofs.YtdkkhmjlamkgdaaGreatDoor.hlt HTG.out)).trans HTG.out)
    refine hK _ _ HSE.out ?_
    clear hK K
    refine wpSch_take rfl (.tuple #[.agg (ednCells e2 (.slice ba bn bc)), .bool true]) (fun _ _ _ _ h => HP.out _ _ _ _ (by rfl) h) HSE.out (by rfl) (fun W2 hW => by go_simp) ?_
    simp only [Act.put, List.setIfInBounds_toArray, List.set_cons_zero, List.set_cons_succ]
    refine wpSch_take rfl (.agg (ednCells e2 (.slice ba bn bc))) (fun _ _ _ _ h => HP.out _ _ _ _ (by rfl) h) HSE.out (by rfl) (fun W2 hW => by go_simp) ?_
    simp only [Act.put, List.setIfInBounds_toArray, List.set_cons_zero, List.set_cons_succ]
    refine wpSch_take rfl (.bool true) (fun _ _ _ _ h => HP.out _ _ _ _ (by rfl) h) HSE.out (by rfl) (fun W2 hW => by go_simp) ?_
    simp only [Act.put, List.setIfInBounds_toArray, List.set_cons_zero, List.set_cons_succ]
    refine wpSch_only rfl (fun K hK => ?_)
    rw [if_pos (by rfl)]
    refine wp_sstore S_edn _ _ rfl rfl rfl HTE.out rfl rfl (by simp [Value.oneCell']) ?_
    obtain ⟨WF, hWF⟩ : ∃ WF, WF = wE.setRow Wd.heap.size (ednCells e2 (.slice ba bn bc)) := ⟨_, rfl⟩
    have HSF : Hid (Below Wd.heap.size Wd WF) := Lib.hid (by rw [hWF]; exact below_setRow HSE.out (by omega) _)
    have HTF : Hid (WF.heap[Wd.heap.size]? = some (.cells (ednCells e2 (.slice ba bn bc)) 39 (0, 0))) := Lib.hid (by rw [hWF]; exact setRow_heap _ _ _ _ _ _ HTE.out)
    rw [← hWF]
    clear hWF
    simp only [Act.put]
    refine hK _ _ HSF.out ?_
    clear hK K
    refine wpSch_only rfl (fun K hK => ?_)
    rw [if_pos (by rfl)]
    go_simp
    refine hK _ _ HSF.out ?_
    clear hK K
    refine wpSch_done ?_
    have HYF := Lib.hid ((HSF.out.block _ (Go.Proofs.YtdkkhmjlamkgdaaGreatDoor.hlt HYD.out)).trans HYD.out)
    have HBF : Hid (Below W7.heap.size W7 WF) := Lib.hid (HBD.out.trans (HSF.out.mono HBD.out.size))
    have f1 : WF.cell? ⟨Wd.heap.size, 1, none⟩ = some (.int .i64 e2.rev) := rowcell HTF.out
    have f3 : WF.cell? ⟨Y, 3, none⟩ = some (.slice (some ⟨eb, eo, none⟩) y.eds.length ec) := rowcell HYF.out
    have f5 : WF.cell? ⟨eb, eo + j * 5 + 1, none⟩ = some (.int .i64 rv) := sees_bel HSF.out _ _ HC1.out
    have hrv := HRV.out
    go_upto_region 17 with fail
    go_quiet (fail)
    go_wp2_with fail
    exact HQ.out _ _ _ _ _ _ _ _ _ _ _ _ _ _ _ _ _ _ _ _ _ _ _ _ _ _ _ _ _ _ _ _ _ _ _ _ _ _ (by go_num) (below_drewN HBF.out _)
set_option maxRecDepth 100000 in
set_option maxHeartbeats 4000000 in
theorem grEds_loop {mem9 mem1 : Addr → Option Value} {W7 : World} {a9 b9 : Option Addr} {c9 d9 n9 Y : Nat} {s9 : StF} {y : StyF} {t1 k1 : Option Addr} {t2 k2 ec eb eo : Nat} {ea : Option Addr} (C : GrE mem9 mem1 W7 a9 c9 b9 d9 n9 s9 y Y t1 t2 ea ec k1 k2 eb eo) (c0 c1 c2 c3 c5 c6 c8 c10 c11 c15 c16 c17 c18 c19 c20 c21 c22 c23 c24 c25 c26 c27 c28 c29 c30 c31 c32 c33 c34 c35 c36 c37 c38 c39 c40 c41 c42 c43 c44 c45 c46 c47 c48 c49 c50 c51 c52 c53 c54 c55 c56 c57 c58 c59 c60 c61 c62 c63 c64 c65 c66 c67 c68 c69 c70 c71 c72 c73 c74 c75 c76 c77 c111 c112 c113 c114 c115 c116 c117 c118 c119 c120 c121 c122 c123 c124 c125 c126 c127 c128 c129 c130 c131 c132 c133 c134 c135 c136 c137 c138 c139 c140 c141 c142 c143 : Value) (u4 u12 u13 u14 u78 u79 u80 u81 u82 u83 u84 u85 u86 u87 u88 u89 u90 u91 u92 u93 u94 u95 u96 u97 u98 u99 u100 u101 u102 u103 u104 u105 u106 u107 u108 u109 u110 : Value) (h0 : u12 = .int .i64 0) (wr : World) (hB : Below W7.heap.size W7 wr) (Q : Exit → Act → World → Prop)
    (hQ : ∀ (u4 u12 u13 u14 u78 u79 u80 u81 u82 u83 u84 u85 u86 u87 u88 u89 u90 u91 u92 u93 u94 u95 u96 u97 u98 u99 u100 u101 u102 u103 u104 u105 u106 u107 u108 u109 u110 : Value) (w2 : World), Below W7.heap.size W7 w2 → Q (.exit 2) ⟨#[c0, c1, c2, c3, u4, c5, c6, .pointer (some ⟨n9, 0, none⟩), c8, .pointer (some ⟨Y, 0, none⟩), c10, c11, u12, u13, u14, c15, c16, c17, c18, c19, c20, c21, c22, c23, c24, c25, c26, c27, c28, c29, c30, c31, c32, c33, c34, c35, c36, c37, c38, c39, c40, c41, c42, c43, c44, c45, c46, c47, c48, c49, c50, c51, c52, c53, c54, c55, c56, c57, c58, c59, c60, c61, c62, c63, c64, c65, c66, c67, c68, c69, c70, c71, c72, c73, c74, c75, c76, c77, u78, u79, u80, u81, u82, u83, u84, u85, u86, u87, u88, u89, u90, u91, u92, u93, u94, u95, u96, u97, u98, u99, u100, u101, u102, u103, u104, u105, u106, u107, u108, u109, u110, c111, c112, c113, c114, c115, c116, c117, c118, c119, c120, c121, c122, c123, c124, c125, c126, c127, c128, c129, c130, c131, c132, c133, c134, c135, c136, c137, c138, c139, c140, c141, c142, c143], []⟩ w2) (hP : ∀ c a a2 w2, a2.defers = a.defers → Q (.panic c) a w2 → Q (.panic c) a2 w2) :
    (Code.loop grEds).wp Tryz.prog Q ⟨#[c0, c1, c2, c3, u4, c5, c6, .pointer (some ⟨n9, 0, none⟩), c8, .pointer (some ⟨Y, 0, none⟩), c10, c11, u12, u13, u14, c15, c16, c17, c18, c19, c20, c21, c22, c23, c24, c25, c26, c27, c28, c29, c30, c31, c32, c33, c34, c35, c36, c37, c38, c39, c40, c41, c42, c43, c44, c45, c46, c47, c48, c49, c50, c51, c52, c53, c54, c55, c56, c57, c58, c59, c60, c61, c62, c63, c64, c65, c66, c67, c68, c69, c70, c71, c72, c73, c74, c75, c76, c77, u78, u79, u80, u81, u82, u83, u84, u85, u86, u87, u88, u89, u90, u91, u92, u93, u94, u95, u96, u97, u98, u99, u100, u101, u102, u103, u104, u105, u106, u107, u108, u109, u110, c111, c112, c113, c114, c115, c116, c117, c118, c119, c120, c121, c122, c123, c124, c125, c126, c127, c128, c129, c130, c131, c132, c133, c134, c135, c136, c137, c138, c139, c140, c141, c142, c143], []⟩ wr := by
  refine wp_loop (fun a w => ∃ U : Nat → Value, (∃ j : Nat, j ≤ y.eds.length ∧ U 12 = .int .i64 (j : Int) ∧ Below W7.heap.size W7 w) ∧ a = ⟨#[c0, c1, c2, c3, U 4, c5, c6, .pointer (some ⟨n9, 0, none⟩), c8, .pointer (some ⟨Y, 0, none⟩), c10, c11, U 12, U 13, U 14, c15, c16, c17, c18, c19, c20, c21, c22, c23, c24, c25, c26, c27, c28, c29, c30, c31, c32, c33, c34, c35, c36, c37, c38, c39, c40, c41, c42, c43, c44, c45, c46, c47, c48, c49, c50, c51, c52, c53, c54, c55, c56, c57, c58, c59, c60, c61, c62, c63, c64, c65, c66, c67, c68, c69, c70, c71, c72, c73, c74, c75, c76, c77, U 78, U 79, U 80, U 81, U 82, U 83, U 84, U 85, U 86, U 87, U 88, U 89, U 90, U 91, U 92, U 93, U 94, U 95, U 96, U 97, U 98, U 99, U 100, U 101, U 102, U 103, U 104, U 105, U 106, U 107, U 108, U 109, U 110, c111, c112, c113, c114, c115, c116, c117, c118, c119, c120, c121, c122, c123, c124, c125, c126, c127, c128, c129, c130, c131, c132, c133, c134, c135, c136, c137, c138, c139, c140, c141, c142, c143], []⟩) (fun a _ => y.eds.length - (intOf (a.tmps.getD 12 undef)).toNat) ⟨fun i => ([undef, undef, undef, undef, u4, undef, undef, undef, undef, undef, undef, undef, u12, u13, u14, undef, undef, undef, undef, undef, undef, undef, undef, undef, undef, undef, undef, undef, undef, undef, undef, undef, undef, undef, undef, undef, undef, undef, undef, undef, undef, undef, undef, undef, undef, undef, undef, undef, undef, undef, undef, undef, undef, undef, undef, undef, undef, undef, undef, undef, undef, undef, undef, undef, undef, undef, undef, undef, undef, undef, undef, undef, undef, undef, undef, undef, undef, undef, u78, u79, u80, u81, u82, u83, u84, u85, u86, u87, u88, u89, u90, u91, u92, u93, u94, u95, u96, u97, u98, u99, u100, u101, u102, u103, u104, u105, u106, u107, u108, u109, u110, undef, undef, undef, undef, undef, undef, undef, undef, undef, undef, undef, undef, undef, undef, undef, undef, undef, undef, undef, undef, undef, undef, undef, undef, undef, undef, undef, undef, undef, undef, undef, undef, undef] : List Value).getD i undef, ⟨0, Nat.zero_le _, h0, hB⟩, rfl⟩ ?_
  rintro a w2 ⟨U, ⟨j, hj, e, hB2⟩, rfl⟩
  by_cases hlt : j < y.eds.length
  · rw [e]
    refine grEds_round C _ _ _ _ _ _ _ _ _ _ _ _ _ _ _ _ _ _ _ _ _ _ _ _ _ _ _ _ _ _ _ _ _ _ _ _ _ _ _ _ _ _ _ _ _ _ _ _ _ _ _ _ _ _ _ _ _ _ _ _ _ _ _ _ _ _ _ _ _ _ _ _ _ _ _ _ _ _ _ _ _ _ _ _ _ _ _ _ _ _ _ _ _ _ _ _ _ _ _ _ _ _ _ _ _ _ _ _ _ _ _ _ _ _ _ _ _ _ _ _ _ _ _ _ _ _ _ _ _ _ _ _ _ _ _ _ _ _ _ _ _ j hlt w2 hB2 _ ?_ (fun c a a2 w2 e h => hP c a a2 w2 e h)
    intro u4 u12 u13 u14 u78 u79 u80 u81 u82 u83 u84 u85 u86 u87 u88 u89 u90 u91 u92 u93 u94 u95 u96 u97 u98 u99 u100 u101 u102 u103 u104 u105 u106 u107 u108 u109 u110 w3 e3 hB3
    refine ⟨⟨fun i => ([undef, undef, undef, undef, u4, undef, undef, undef, undef, undef, undef, undef, u12, u13, u14, undef, undef, undef, undef, undef, undef, undef, undef, undef, undef, undef, undef, undef, undef, undef, undef, undef, undef, undef, undef, undef, undef, undef, undef, undef, undef, undef, undef, undef, undef, undef, undef, undef, undef, undef, undef, undef, undef, undef, undef, undef, undef, undef, undef, undef, undef, undef, undef, undef, undef, undef, undef, undef, undef, undef, undef, undef, undef, undef, undef, undef, undef, undef, u78, u79, u80, u81, u82, u83, u84, u85, u86, u87, u88, u89, u90, u91, u92, u93, u94, u95, u96, u97, u98, u99, u100, u101, u102, u103, u104, u105, u106, u107, u108, u109, u110, undef, undef, undef, undef, undef, undef, undef, undef, undef, undef, undef, undef, undef, undef, undef, undef, undef, undef, undef, undef, undef, undef, undef, undef, undef, undef, undef, undef, undef, undef, undef, undef, undef] : List Value).getD i undef, ⟨j + 1, hlt, e3, hB3⟩, rfl⟩, ?_⟩
    show y.eds.length - (intOf u12).toNat < y.eds.length - (intOf (.int .i64 (j : Nat))).toNat
    rw [e3]
    simp [intOf]; omega
  · obtain rfl : j = y.eds.length := by omega
    rw [e]
    have HQ := Lib.hid hQ
    have HB2 := Lib.hid hB2
    have c3 : w2.cell? ⟨Y, 3, none⟩ = some (.slice ea y.eds.length ec) := rowcell ((hB2.block _ (Go.Proofs.YtdkkhmjlamkgdaaGreatDoor.hlt C.boxY)).trans C.boxY)
    clear hQ hB2 e hlt hj C hB h0
    conv => arg 2; whnf
    go_wp2_with fail
    exact HQ.out _ _ _ _ _ _ _ _ _ _ _ _ _ _ _ _ _ _ _ _ _ _ _ _ _ _ _ _ _ _ _ _ _ _ _ _ _ _ HB2.out
end Go.Proofs.YtdkkhmjlamkgdaaGreatDoor
/-
  WHAT IS PROVED HERE: the walk of StateGrows. Condition: the facts lie in memory that is only read.
-/
namespace Go.Proofs.YtdkkhmjlamkgdaaGreatDoor
open Go.RowKit Mg Go.Shelf Go.Maps

/-- the frame at the region, but for what the region writes -/
def gFrame (va : Option Addr) (n vc : Nat) (ra : Option Addr) (m rc : Nat) (xc : Array Value) (sv : Value) (b3 b6 : Nat) (v7 v23 v24 v25 v26 v27 v28 v29 v30 : Value) : Act := { tmps := #[.slice ra m rc, .agg xc, undef, .pointer (some ⟨b3, 0, none⟩), .bool false, .bool true, .pointer (some ⟨b6, 0, none⟩), v7, undef, undef, undef, undef, undef, undef, undef, undef, undef, undef, .bool true, .slice va n vc, .slice ra m rc, .slice ra m rc, sv, v23, v24, v25, v26, v27, v28, v29, v30, undef, undef, undef, undef, undef, undef, undef, undef, undef, undef, undef, undef, undef, undef, undef, undef, undef, undef, undef, undef, undef, undef, undef, undef, undef, undef, undef, undef, undef, undef, undef, undef, undef, undef, undef, undef, undef, undef, undef, undef, undef, undef, undef, undef, undef, undef, undef, undef, undef, undef, undef, undef, undef, undef, undef, undef, undef, undef, undef, undef, undef, undef, undef, undef, undef, undef, undef, undef, undef, undef, undef, undef, undef, undef, undef, undef, undef, undef, undef, undef, undef, undef, undef, undef, undef, undef, undef, undef, undef, undef, undef, undef, undef, undef, undef, undef, undef, undef, undef, undef, undef, undef, undef, undef, undef, undef, undef, undef, undef, undef, undef, undef, undef], defers := [] }
theorem gF0 (va : Option Addr) (n vc : Nat) (ra : Option Addr) (m rc : Nat) (xc : Array Value) (sv : Value) (b3 b6 : Nat) (v7 v23 v24 v25 v26 v27 v28 v29 v30 : Value) : (gFrame va n vc ra m rc xc sv b3 b6 v7 v23 v24 v25 v26 v27 v28 v29 v30).tmps[0]?.getD undef = .slice ra m rc := rfl
theorem gF27 (va : Option Addr) (n vc : Nat) (ra : Option Addr) (m rc : Nat) (xc : Array Value) (sv : Value) (b3 b6 : Nat) (v7 v23 v24 v25 v26 v27 v28 v29 v30 : Value) : (gFrame va n vc ra m rc xc sv b3 b6 v7 v23 v24 v25 v26 v27 v28 v29 v30).tmps[27]?.getD undef = v27 := rfl
theorem gF29 (va : Option Addr) (n vc : Nat) (ra : Option Addr) (m rc : Nat) (xc : Array Value) (sv : Value) (b3 b6 : Nat) (v7 v23 v24 v25 v26 v27 v28 v29 v30 : Value) : (gFrame va n vc ra m rc xc sv b3 b6 v7 v23 v24 v25 v26 v27 v28 v29 v30).tmps[29]?.getD undef = v29 := rfl
/-- which operations are done -/
structure GrS where
  p : Nat
  q : Nat
  s : Bool
  r : Bool
def GrS.ok (t : GrS) : Prop := t.p ≤ 6 ∧ t.q ≤ 2 ∧ (2 ≤ t.p → t.s = true) ∧ (3 ≤ t.p → t.q = 2) ∧ (t.p = 6 → t.r = true)
def GrS.L (t : GrS) : Array Bool := #[decide (1 ≤ t.p), t.s, decide (2 ≤ t.p), decide (1 ≤ t.q), decide (2 ≤ t.q), decide (3 ≤ t.p), decide (4 ≤ t.p), decide (5 ≤ t.p), t.r, decide (6 ≤ t.p)]
def GrS.rank (t : GrS) : Nat := (6 - t.p) + (2 - t.q) + (if t.s then 0 else 1) + (if t.r then 0 else 1)
theorem GrS.rank0 {t : GrS} (h : t.rank = 0) : t.L = #[true, true, true, true, true, true, true, true, true, true] := by
  unfold GrS.rank at h
  obtain ⟨p, q, s, r⟩ := t
  cases s <;> cases r <;> simp only at h
  all_goals first
    | (exfalso; simp at h; done)
    | skip
  have h1 : 6 ≤ p := by simp at h; omega
  have h2 : 2 ≤ q := by simp at h; omega
  simp only [GrS.L, Array.mk.injEq, List.cons.injEq, decide_eq_true_eq, and_true, true_and]
  omega
theorem grs_mk {p q : Nat} {s r : Bool} (h1 : p ≤ 6) (h2 : q ≤ 2) (h3 : 2 ≤ p → s = true) (h4 : 3 ≤ p → q = 2) (h5 : p = 6 → r = true) : GrS.ok ⟨p, q, s, r⟩ := ⟨h1, h2, h3, h4, h5⟩
theorem wp_val2 {P : Program} {o : Oper} {a : Act} {w : World} {K : Act → World → Prop} {Q : Exit → Act → World → Prop} {v : Value} (hr : (execOp a.eval o).run P w = .ok (.value v) w) (h : K (a.put o.dst v) w) : o.wp P a w K Q := by
  unfold Oper.wp
  rw [hr]
  exact h
/-- what stands behind the region -/
def GFin (W3 : World) (fs : List FctE) (x : FctE) (v7 : Value) (w : World) : Prop := ∃ n a c b d s, v7 = .pointer (some ⟨n, 0, none⟩) ∧ W3.heap.size ≤ n ∧ w.heap[n]? = some (.cells #[.slice a s.stories.length c, .slice b s.tpls.length d] 27 (0, 0)) ∧ FoldGd (fs.map FctE.f ++ shortL7 [x.f]) s ∧ StateM (memFr w (fun k => k < W3.heap.size ∨ k = n)) (.agg #[.slice a s.stories.length c, .slice b s.tpls.length d]) s ∧ Below W3.heap.size W3 w
/-- what is ready, by the state -/
def grsC (i p q : Nat) (s r : Bool) : Bool := (i == 0 && p == 0) || (i == 1 && !s) || (i == 2 && p == 1 && s) || (i == 3 && q == 0) || (i == 4 && q == 1) || (i == 5 && p == 2 && q == 2) || (i == 6 && p == 3) || (i == 7 && p == 4) || (i == 8 && !r) || (i == 9 && p == 5 && r)
def grsOk (p q : Nat) (s r : Bool) : Bool := (decide (p < 2) || s) && (decide (p < 3) || q == 2) && (decide (p ≠ 6) || r)
def grsB (ops : Array Oper) : Bool := (List.range 7).all fun p => (List.range 3).all fun q => [true, false].all fun s => [true, false].all fun r => !grsOk p q s r || (((Region.ready .any ops (GrS.L ⟨p, q, s, r⟩)).all fun i => grsC i p q s r) && (!(Region.ready .any ops (GrS.L ⟨p, q, s, r⟩)).isEmpty || p == 6))
theorem grs_all {ops : Array Oper} (h : grsB ops = true) {t : GrS} (ht : t.ok) : (∀ i ∈ Region.ready .any ops t.L, grsC i t.p t.q t.s t.r = true) ∧ (Region.ready .any ops t.L = [] → t.p = 6) := by
  obtain ⟨p, q, s, r⟩ := t
  obtain ⟨h1, h2, h3, h4, h5⟩ := ht
  simp only at h1 h2 h3 h4 h5
  unfold grsB at h
  have a1 := List.all_eq_true.1 h p (List.mem_range.2 (by omega))
  have a2 := List.all_eq_true.1 a1 q (List.mem_range.2 (by omega))
  have a3 := List.all_eq_true.1 a2 s (by cases s <;> simp)
  have a4 := List.all_eq_true.1 a3 r (by cases r <;> simp)
  have hk : grsOk p q s r = true := by
    unfold grsOk
    simp only [Bool.and_eq_true, Bool.or_eq_true, decide_eq_true_eq, beq_iff_eq]
    refine ⟨⟨?_, ?_⟩, ?_⟩
    · by_cases e : p < 2
      · exact .inl e
      · exact .inr (h3 (by omega))
    · by_cases e : p < 3
      · exact .inl e
      · exact .inr (h4 (by omega))
    · by_cases e : p = 6
      · exact .inr (h5 e)
      · exact .inl e
  rw [hk] at a4
  simp only [Bool.not_true, Bool.false_or, Bool.and_eq_true, List.all_eq_true, Bool.or_eq_true, beq_iff_eq] at a4
  refine ⟨a4.1, fun e => ?_⟩
  rcases a4.2 with q1 | q1
  · rw [e] at q1; simp at q1
  · exact q1
theorem str_dec2 (a b : ByteArray) : (a.toList == b.toList) = decide (a = b) := by
  by_cases h : a = b
  · subst h; simp
  · rw [decide_eq_false h, beq_eq_false_iff_ne]
    intro e
    exact h (str_ext (by rw [ByteArray.toList_eq, ByteArray.toList_eq] at e; exact e))
theorem state_parts {mem : Addr → Option Value} {sv tv : Value} {s : StF} (h : StateM mem (.agg #[sv, tv]) s) : StysM mem sv s.stories ∧ TplsM mem tv s.tpls := by
  obtain ⟨sv', tv', e, h1, h2⟩ := h
  injection e with e
  have e1 : sv = sv' := by have := congrArg (fun x => x[0]?) e; simpa using this
  have e2 : tv = tv' := by have := congrArg (fun x => x[1]?) e; simpa using this
  rw [e1, e2]
  exact ⟨h1, h2⟩
set_option maxRecDepth 100000 in
set_option maxHeartbeats 4000000 in
theorem stateGrows_any {mem : Addr → Option Value} {v : Value} {es : List FctE} (h : EsM mem v es) {x : FctE} (hx : x.ok mem) (w : World) (hs : Sees mem w) :
    Calls Tryz.prog 4 #[v, .agg x.cells] w fun e w' => e = .returned (.bool true) ∧ Below w.heap.size w w' := by
  obtain ⟨W0, hW0⟩ : ∃ W0, W0 = w.alloc (.cells x.cells 50) := ⟨_, rfl⟩
  have hb00 : Below w.heap.size w W0 := by rw [hW0]; exact bel1 w _
  have HX0 : Hid (W0.heap[w.heap.size]? = some (.cells x.cells 50 (0, 0))) := Lib.hid (by rw [hW0]; exact World.alloc_heap_new w _)
  have c0 := Lib.hid (sane_any W0)
  have HS := Lib.hid (hs.bel hb00)
  have HB00 := Lib.hid hb00
  have HE := Lib.hid h
  have HXO := Lib.hid hx
  have HW0 := Lib.hid hW0
  obtain ⟨va, vc, vb, vo, rfl, _⟩ := h.open_
  clear h hs hx hb00 hW0
  go_enter Tryz.func4, Tryz.ntmps4
  go_upto_region 1 with (first
    | ((with_reducible refine at_fslice _ rfl ?_); go_must (refine wpList_fct_slice rfl _ rfl x (by simp [Act.eval, Act.put]) ?_)))
  rw [← HW0.out]
  clear HW0
  go_wp2_with fail
  refine c0.out.mono ?_
  rintro e w0 ⟨rfl, hb0⟩
  have HB0 := Lib.hid (HB00.out.trans (hb0.mono HB00.out.size))
  have HX1 := Lib.hid ((hb0.block _ (Go.Proofs.YtdkkhmjlamkgdaaGreatDoor.hlt HX0.out)).trans HX0.out)
  have HS0 := Lib.hid (HS.out.bel hb0)
  have cS := Lib.hid (short_law HE.out w0 HS0.out)
  clear hb0 c0 HX0 HS HB00
  go_wp2_with fail
  refine cS.out.mono ?_
  rintro e w1 ⟨ra, rc, fs, rfl, hsh⟩
  have HSH := Lib.hid hsh
  have hlen := hsh.len
  have HB1 : Hid (Below w.heap.size w w1) := Lib.hid (HB0.out.trans (hsh.bel.mono HB0.out.size))
  have HX2 := Lib.hid ((hsh.bel.block _ (Go.Proofs.YtdkkhmjlamkgdaaGreatDoor.hlt HX1.out)).trans HX1.out)
  have HXO1 : Hid (x.ok (fun a => w1.cell? a)) := Lib.hid (HXO.out.mono (HS0.out.bel hsh.bel))
  have cF := Lib.hid hsh.fold
  clear hsh cS HX1 HB0
  go_wp2_with fail
  refine cF.out.mono ?_
  rintro e w2 ⟨a, c, b, d, s, rfl, hF⟩
  have HF := Lib.hid hF
  have HX3 := Lib.hid ((hF.bel.block _ (Go.Proofs.YtdkkhmjlamkgdaaGreatDoor.hlt HX2.out)).trans HX2.out)
  have HB2 : Hid (Below w.heap.size w w2) := Lib.hid (HB1.out.trans (hF.bel.mono HB1.out.size))
  have HXO2 : Hid (x.ok (fun a => w2.cell? a)) := Lib.hid (HXO1.out.mono (sees_bel hF.bel))
  clear hF cF HX2
  have hlf : s.stories.length ≤ 40 := HF.out.len40
  go_upto_region 4 with (first
    | ((with_reducible refine at_sstore 27 _ _ rfl ?_); go_must (refine wpList_snew rfl S_state _ _ rfl rfl _ _ #[.slice a s.stories.length c, .slice b s.tpls.length d] (by simp [Act.eval, Act.put]) (by simp [Act.eval, Act.put]) rfl rfl (by simp [Value.oneCell']) ?_)))
  have q6 : w2.heap.size < 0 → False := fun h => by omega
  obtain ⟨W3, hW3⟩ : ∃ W3, W3 = (w2.alloc (.cells #[.slice a s.stories.length c, .slice b s.tpls.length d] 27)).drew := ⟨_, rfl⟩
  have hb3 : Below w2.heap.size w2 W3 := by rw [hW3]; exact (bel1 w2 _).drew
  have HX4 : Hid (W3.heap[w.heap.size]? = some (.cells x.cells 50 (0, 0))) := Lib.hid ((hb3.block _ (Go.Proofs.YtdkkhmjlamkgdaaGreatDoor.hlt HX3.out)).trans HX3.out)
  have HXO3 : Hid (x.ok (fun a => W3.cell? a)) := Lib.hid (HXO2.out.mono (sees_bel hb3))
  have HB3 := Lib.hid hb3
  have HES : Hid (EsM (fun p => W3.cell? p) (.slice ra fs.length rc) fs) := Lib.hid ((HSH.out.es.keep HF.out.bel).keep hb3)
  have HFO : Hid (∀ y ∈ fs, y.ok (fun a => W3.cell? a)) := Lib.hid (fun y hy => (mem_keep HF.out.bel HSH.out.ok y hy).mono (sees_bel hb3))
  clear hb3 q6
  refine wp_inv (σ := GrS) GrS.L GrS.rank (fun t a' w' => t.ok ∧ ∃ v7 v23 v24 v25 v26 v27 v28 v29 v30, a' = gFrame va es.length vc ra fs.length rc x.cells (.agg #[.slice a s.stories.length c, .slice b s.tpls.length d]) w.heap.size w2.heap.size v7 v23 v24 v25 v26 v27 v28 v29 v30 ∧ (t.s = true → v24 = .slice ra fs.length rc) ∧ (1 ≤ t.q → v26 = .agg x.cells) ∧ (t.p ≤ 5 → Hid (G4 W3 fs x t.p t.q t.r v23 v25 v27 v28 v29 v30 v7 w')) ∧ (t.p = 6 → Hid (GFin W3 fs x v7 w'))) (by kernel_rfl) ⟨0, 0, false, false⟩ rfl (by decide) (fun t ht => by rw [GrS.rank0 ht]; kernel_rfl) ?_ ?_
  · rw [← hW3]
    refine ⟨by unfold GrS.ok; decide, undef, undef, undef, undef, undef, undef, undef, undef, undef, rfl, (fun h => (by cases h)), (fun h => (by simp at h)), fun _ => Lib.hid (G4.start (fun k h => (by unfold undef at h; cases h))), (fun h => (by simp at h))⟩
  · rintro t a' w' ⟨hok, v7, v23, v24, v25, v26, v27, v28, v29, v30, rfl, h24, h26, HG, HFI⟩
    obtain ⟨hr1, hr2⟩ := grs_all (t := t) (by kernel_rfl) hok
    refine ⟨fun he => ?_, fun i hi => ?_⟩
    · have hp6 := hr2 he
      obtain ⟨n9, a9, c9, b9, d9, s9, rfl, g2, g3, hfi, hst, hbl⟩ := (HFI hp6).out
      have HFI9 := Lib.hid hfi
      have HST9 := Lib.hid hst
      have HBL9 := Lib.hid hbl
      have HN9 := Lib.hid g3
      have HN6 : Hid (w'.heap[w2.heap.size]? = some (.cells #[.slice a s.stories.length c, .slice b s.tpls.length d] 27 (0, 0))) := Lib.hid (by
        refine (hbl.block _ (by rw [hW3]; simp [World.drew])).trans ?_
        rw [hW3]
        exact World.alloc_heap_new w2 _)
      have HX9 := Lib.hid ((hbl.block _ (Go.Proofs.YtdkkhmjlamkgdaaGreatDoor.hlt HX4.out)).trans HX4.out)
      have HSM := Lib.hid ((((memFr_sees w2 (fun k => k < w1.heap.size + 1)).bel HB3.out).bel hbl))
      have HS9 := Lib.hid (memFr_sees w' (fun k => k < W3.heap.size ∨ k = n9))
      have HGR := Lib.hid (fun (y : StyF) (hy : y ∈ s.stories) => grows_find (f := shortF x.f) HF.out.is (by rw [← HSH.out.map]; exact hfi.1) hy)
      have HGT := Lib.hid (fun (y : TplF) (hy : y ∈ s.tpls) => tplHas_all (grows_at (f := shortF x.f) HF.out.is (by rw [← HSH.out.map]; exact hfi.1) hy))
      have HGS := Lib.hid (gsty_all hfi.2)
      have HGE := Lib.hid (gst_all hfi.2)
      have HBW : Hid (Below w.heap.size w w') := Lib.hid (HB2.out.trans ((HB3.out.trans (hbl.mono HB3.out.size)).mono HB2.out.size))
      obtain ⟨hst1, htp1⟩ := HF.out.stys
      obtain ⟨sa, sc, sb, so, hsv, hcap, hm, hsa, hat⟩ := SlM.open_ hst1
      injection hsv with e1 e2 e3
      subst e1 e3
      clear e2
      obtain ⟨ta, tc, tb, to_, htv, hcap2, hm2, hta, hat2⟩ := SlM.open_ htp1
      injection htv with e1 e2 e3
      subst e1 e3
      clear e2
      obtain ⟨_, htp9⟩ := state_parts hst
      obtain ⟨ua, uc, ub, uo, huv, hcap9, hm9, hua, huat⟩ := SlM.open_ htp9
      injection huv with e1 e2 e3
      subst e1 e3
      clear e2
      have HSA := Lib.hid hsa
      have HAT := Lib.hid hat
      have HTA := Lib.hid hta
      have HAT2 := Lib.hid hat2
      have HUA := Lib.hid hua
      have HUAT := Lib.hid huat
      have hll : s.stories.length ≤ 9223372036854775807 := by unfold maxLen at hm; omega
      have hlt2 : s.tpls.length ≤ 9223372036854775807 := by unfold maxLen at hm2; omega
      have hlt9 : s9.tpls.length ≤ 9223372036854775807 := by unfold maxLen at hm9; omega
      try clear hr1
      try clear hr2
      try clear he
      try clear h24
      try clear h26
      try clear HG
      try clear HFI
      try clear hok
      try clear hp6
      try clear hfi
      try clear hst
      try clear hbl
      try clear hst1
      try clear htp1
      try clear hsa
      try clear hat
      try clear hta
      try clear hat2
      try clear htp9
      try clear hua
      try clear huat
      try clear g3
      try clear hcap
      try clear hcap2
      try clear hcap9
      try clear hm
      try clear hm2
      try clear hm9
      try clear HES
      try clear HFO
      try clear HXO3
      try clear HXO2
      try clear HXO1
      try clear HX4
      try clear HX3
      try clear HX2
      try clear HX1
      try clear HSH
      try clear HF
      try clear HB1
      try clear HB2
      try clear HB3
      try clear HBL9
      try clear HFI9
      try clear HXO
      try clear HE
      try clear HB00
      try clear cS
      simp only [gFrame]
      go_wp2_with fail
      go_loopw [8] (fun i wr => ∃ m : Nat, m ≤ s.stories.length ∧ i = .int .i64 m ∧ Hid (Below w'.heap.size w' wr)) (fun i _ => s.stories.length - (intOf i).toNat)
      case atStart => exact ⟨0, Nat.zero_le _, rfl, Lib.hid (Below.refl _ _)⟩
      case round =>
        obtain ⟨m, hm, rfl, HB⟩ := hrel
        have k0 : wr.cell? ⟨w2.heap.size, 0, none⟩ = some (.slice a s.stories.length c) := rowcell ((HB.out.block _ (hlt HN6.out)).trans HN6.out)
        by_cases hlm : m < s.stories.length
        · obtain rfl := HSA.out (by omega)
          have hxat := HAT.out m hlm
          have hgr := HGR.out _ (List.getElem_mem hlm)
          generalize s.stories[m] = y at *
          obtain ⟨_, tv, ev, cv, hcells, hP⟩ := hxat
          have HCL := Lib.hid (cells_see (sz := 8) (HSM.out.bel HB.out) hcells rfl)
          obtain ⟨z, hfz, hzp, hzt, hze⟩ := hgr
          obtain ⟨hPt, hPe, hPc⟩ := hP
          obtain ⟨t1, t2, rfl⟩ := hPt.slice
          obtain ⟨c1, c2, rfl⟩ := SlM.slice hPc
          obtain ⟨ea, ec, eb, eo, rfl, hcap3, hm3, hea, heat⟩ := SlM.open_ hPe
          have HEA := Lib.hid hea
          have HEAT := Lib.hid heat
          have HZE := Lib.hid hze
          have HZT := Lib.hid hzt
          clear hcells hPt hPe hPc hea heat hze hzt
          have c4 : wr.cell? ⟨sb, so + m * 8 + 4, none⟩ = some (.int .i64 y.pub) := HCL.out 4 (by omega)
          clear c4
          go_upto_region 9 with (first
            | ((with_reducible refine at_sload 34 _ rfl ?_); go_must (refine wpList_smid rfl S_sty _ rfl (by simp [Act.eval]) (styCells y (.slice t1 y.topics.length t2) (.slice ea y.eds.length ec) (.slice c1 y.corr.length c2)) rfl HCL.out ?_))
            | ((with_reducible refine at_sstore 34 _ _ rfl ?_); go_must (refine wpList_snew rfl S_sty _ _ rfl rfl _ _ (styCells y (.slice t1 y.topics.length t2) (.slice ea y.eds.length ec) (.slice c1 y.corr.length c2)) (by simp [Act.eval]) (by simp [Act.eval]) rfl rfl (by simp [Value.oneCell']) ?_)))
          obtain ⟨W5, hW5⟩ : ∃ W5, W5 = wr.alloc (.cells (styCells y (.slice t1 y.topics.length t2) (.slice ea y.eds.length ec) (.slice c1 y.corr.length c2)) 34) := ⟨_, rfl⟩
          rw [← hW5]
          have hb5 : Below wr.heap.size wr W5 := by rw [hW5]; exact bel1 _ _
          have HY5 : Hid (W5.heap[wr.heap.size]? = some (.cells (styCells y (.slice t1 y.topics.length t2) (.slice ea y.eds.length ec) (.slice c1 y.corr.length c2)) 34 (0, 0))) := Lib.hid (by rw [hW5]; exact World.alloc_heap_new _ _)
          have HB5 : Hid (Below w'.heap.size w' W5) := Lib.hid (HB.out.trans (hb5.mono HB.out.size))
          have HN5 := Lib.hid ((HB5.out.block _ (Go.Proofs.YtdkkhmjlamkgdaaGreatDoor.hlt HN9.out)).trans HN9.out)
          have y0 : W5.cell? ⟨wr.heap.size, 0, none⟩ = some (.int .i64 y.id) := rowcell HY5.out
          clear hW5 hb5 HCL
          have cN := Lib.hid (Find_any HST9.out HGS.out y.id W5 (HS9.out.bel HB5.out))
          go_wp2_with ((with_reducible refine at_sload 27 _ rfl ?_); go_must (refine wpList_sload rfl S_state _ rfl (by simp [Act.eval]) #[.slice a9 s9.stories.length c9, .slice b9 s9.tpls.length d9] rfl HN5.out ?_))
          refine cN.out.mono ?_
          rintro e w6 ⟨xt, xe, xc, rfl, _, _, _, hxt, hxe, hxc, hb6⟩
          obtain ⟨xta, xtc, rfl⟩ := lrow_shape hxt
          obtain ⟨xea, xec, rfl⟩ := hxe.shape
          obtain ⟨xca, xcc, hxcv⟩ := hxc.shape
          subst hxcv
          rw [List.length_map] at *
          have hsz : styOf s9 y.id = z := by unfold styOf; rw [hfz]; rfl
          have hsf : (findS s9 y.id).isSome = true := by rw [hfz]; rfl
          rw [hsz, hsf]
          have HB6 : Hid (Below w'.heap.size w' w6) := Lib.hid (HB5.out.trans (hb6.mono HB5.out.size))
          have HY6 := Lib.hid ((hb6.block _ (Go.Proofs.YtdkkhmjlamkgdaaGreatDoor.hlt HY5.out)).trans HY5.out)
          clear hb6 cN hxt hxe hxc hsz hsf hfz y0
          go_upto_region 10 with ((with_reducible refine at_sstore 34 _ _ rfl ?_); go_must (refine wpList_snew rfl S_sty _ _ rfl rfl _ _ (styCells z (.slice xta z.topics.length xtc) (.slice xea z.eds.length xec) (.slice xca z.corr.length xcc)) (by simp [Act.eval]) (by simp [Act.eval]) rfl rfl (by simp [Value.oneCell']) ?_))
          obtain ⟨W7, hW7⟩ : ∃ W7, W7 = w6.alloc (.cells (styCells z (.slice xta z.topics.length xtc) (.slice xea z.eds.length xec) (.slice xca z.corr.length xcc)) 34) := ⟨_, rfl⟩
          rw [← hW7]
          have hb7 : Below w6.heap.size w6 W7 := by rw [hW7]; exact bel1 _ _
          have hz7 : W7.heap[w6.heap.size]? = some (.cells (styCells z (.slice xta z.topics.length xtc) (.slice xea z.eds.length xec) (.slice xca z.corr.length xcc)) 34 (0, 0)) := by rw [hW7]; exact World.alloc_heap_new _ _
          have HB7 : Hid (Below w'.heap.size w' W7) := Lib.hid (HB6.out.trans (hb7.mono HB6.out.size))
          have HY7 := Lib.hid ((hb7.block _ (Go.Proofs.YtdkkhmjlamkgdaaGreatDoor.hlt HY6.out)).trans HY6.out)
          have HX7 : Hid (W7.heap[w.heap.size]? = some (.cells x.cells 50 (0, 0))) := Lib.hid ((HB7.out.block _ (Go.Proofs.YtdkkhmjlamkgdaaGreatDoor.hlt HX9.out)).trans HX9.out)
          have p4 : W7.cell? ⟨w6.heap.size, 4, none⟩ = some (.int .i64 y.pub) := (rowcell hz7).trans (by rw [← hzp]; rfl)
          have o4 : W7.cell? ⟨wr.heap.size, 4, none⟩ = some (.int .i64 y.pub) := rowcell HY7.out
          have o7 : W7.cell? ⟨wr.heap.size, 7, none⟩ = some (.bool y.taken) := rowcell HY7.out
          have o0 : W7.cell? ⟨wr.heap.size, 0, none⟩ = some (.int .i64 y.id) := rowcell HY7.out
          have x2 : W7.cell? ⟨w.heap.size, 2, none⟩ = some (.int .i64 x.f.kind) := rowcell HX7.out
          have x3 : W7.cell? ⟨w.heap.size, 3, none⟩ = some (.int .i64 x.f.story) := rowcell HX7.out
          have hcase : (y.taken = true ∧ W7.cell? ⟨w6.heap.size, 7, none⟩ = some (.bool true)) ∨ y.taken = false := by
            cases hyt : y.taken with
            | true => exact .inl ⟨rfl, (rowcell hz7).trans (by rw [← HZT.out hyt]; rfl)⟩
            | false => exact .inr rfl
          clear hW7 hb7 hz7 HZT hzp
          rcases hcase with ⟨hyt, p7⟩ | hyt
          all_goals
            rw [hyt] at o7
            go_upto_region 12 with fail
            generalize hYY : wr.heap.size = Y at *
            generalize hZZ : w6.heap.size = Z at *
            clear hYY hZZ HB HB5 HB6 HY5 HY6 HN5 k0
            by_cases hc : x.f.kind = 6 ∧ x.f.story = y.id
            case' pos =>
              rw [hc.1] at x2
              rw [hc.2] at x3
              clear hc HZE
              go_wp2_with fail
              go_roundw
              case rel => exact ⟨m + 1, by omega, by go_num, HB7⟩
              case measure => (try simp only [intOf]); omega
            case' neg =>
              have hnl : y.eds.length ≤ 9223372036854775807 := by unfold maxLen at hm3; omega
              have HGC : Hid (GrE (memFr w' (fun k => k < W3.heap.size ∨ k = n9)) (memFr w2 (fun k => k < w1.heap.size + 1)) W7 a9 c9 b9 d9 n9 s9 y Y t1 t2 ea ec c1 c2 eb eo) := Lib.hid ⟨HST9.out, HS9.out.bel HB7.out, HGE.out, (HB7.out.block _ (Go.Proofs.YtdkkhmjlamkgdaaGreatDoor.hlt HN9.out)).trans HN9.out, HY7.out, HEA.out, HEAT.out, HSM.out.bel HB7.out, hnl, HZE.out hc⟩
              have hkk : (x.f.kind == 6) = false ∨ ((x.f.kind == 6) = true ∧ (x.f.story == y.id) = false) := by
                by_cases e : x.f.kind = 6
                · exact .inr ⟨by simpa using e, by simpa using fun q => hc ⟨e, q⟩⟩
                · exact .inl (by simpa using e)
              clear hc HZE p4 o4 o7
              try clear p7
              rcases hkk with hk1 | ⟨hk1, hk2⟩
            all_goals
              go_wp2_with fail
              clear x2 x3 o0
              refine grEds_loop HGC.out _ _ _ _ _ _ _ _ _ _ _ _ _ _ _ _ _ _ _ _ _ _ _ _ _ _ _ _ _ _ _ _ _ _ _ _ _ _ _ _ _ _ _ _ _ _ _ _ _ _ _ _ _ _ _ _ _ _ _ _ _ _ _ _ _ _ _ _ _ _ _ _ _ _ _ _ _ _ _ _ _ _ _ _ _ _ _ _ _ _ _ _ _ _ _ _ _ _ _ _ _ _ _ _ _ _ _ _ _ _ _ _ _ _ _ _ _ _ _ _ _ _ _ _ _ _ _ _ _ _ _ _ _ _ _ _ _ _ _ _ _ _ rfl W7 (Below.refl _ _) _ ?_ (fun c a a2 w2 e h => ⟨e.trans h.1, h.2⟩)
              intro u4 u12 u13 u14 u78 u79 u80 u81 u82 u83 u84 u85 u86 u87 u88 u89 u90 u91 u92 u93 u94 u95 u96 u97 u98 u99 u100 u101 u102 u103 u104 u105 u106 u107 u108 u109 u110 wl hBl
              have HBE : Hid (Below w'.heap.size w' wl) := Lib.hid (HB7.out.trans (hBl.mono HB7.out.size))
              clear hBl
              go_wp2_with fail
              go_roundw
              case rel => exact ⟨m + 1, by omega, by go_num, HBE⟩
              case measure => (try simp only [intOf]); omega
        · obtain rfl : m = s.stories.length := by omega
          have HBS := HB
          go_wp2_with fail
          clear HGR HGS HGE HSA HAT
          go_loopw [15] (fun i wr => ∃ n : Nat, n ≤ s.tpls.length ∧ i = .int .i64 n ∧ Hid (Below w'.heap.size w' wr)) (fun i _ => s.tpls.length - (intOf i).toNat)
          case atStart => exact ⟨0, Nat.zero_le _, rfl, HBS⟩
          case round =>
            obtain ⟨n, hn, rfl, HB⟩ := hrel
            have k0 : wr.cell? ⟨w2.heap.size, 1, none⟩ = some (.slice b s.tpls.length d) := rowcell ((HB.out.block _ (hlt HN6.out)).trans HN6.out)
            by_cases hln : n < s.tpls.length
            · obtain rfl := HTA.out (by omega)
              obtain ⟨_, hc⟩ := HAT2.out n hln
              have hgt := HGT.out _ (List.getElem_mem hln)
              have HCN : Hid (CellsAt (memFr w2 (fun k => k < w1.heap.size + 1)) tb (to_ + n * 2) (tplCells s.tpls[n])) := Lib.hid hc
              clear hc
              generalize s.tpls[n] = tp at *
              obtain ⟨nm, tx⟩ := tp
              dsimp only at hgt
              have HGN := Lib.hid hgt
              clear hgt
              go_wp2_with fail
              clear k0
              go_loopw [17, 16] (fun i t wz => ∃ q : Nat, q ≤ s9.tpls.length ∧ i = .int .i64 q ∧ t = .bool (tplHas s9.tpls nm q) ∧ Hid (Below w'.heap.size w' wz)) (fun i _ _ => s9.tpls.length - (intOf i).toNat)
              case atStart => exact ⟨0, Nat.zero_le _, rfl, by rw [tplHas_zero], HB⟩
              case round =>
                obtain ⟨q, hq, rfl, rfl, HBZ⟩ := hrel
                have k9 : wr.cell? ⟨n9, 1, none⟩ = some (.slice b9 s9.tpls.length d9) := rowcell ((HBZ.out.block _ (hlt HN9.out)).trans HN9.out)
                by_cases hlq : q < s9.tpls.length
                · obtain rfl := HUA.out (by omega)
                  obtain ⟨_, hc9⟩ := HUAT.out q hlq
                  have k1 : wr.cell? ⟨w2.heap.size, 1, none⟩ = some (.slice (some ⟨tb, to_, none⟩) s.tpls.length d) := rowcell ((HBZ.out.block _ (hlt HN6.out)).trans HN6.out)
                  have q9 : wr.cell? ⟨ub, uo + q * 2, none⟩ = some (.string s9.tpls[q].name) := cells_see (sz := 2) (HS9.out.bel HBZ.out) hc9 rfl 0 (by omega)
                  have q1 : wr.cell? ⟨tb, to_ + n * 2, none⟩ = some (.string nm) := cells_see (sz := 2) (HSM.out.bel HBZ.out) HCN.out rfl 0 (by omega)
                  have HSC := Lib.hid (tplHas_succ s9.tpls nm q hlq)
                  clear hc9
                  generalize s9.tpls[q].name = nm9 at *
                  cases hb : tplHas s9.tpls nm q with
                  | true =>
                    have HSC2 : Hid (tplHas s9.tpls nm (q + 1) = true) := Lib.hid (by rw [HSC.out, hb]; rfl)
                    clear HSC hb q9 q1 k1
                    go_upto_region 26 with fail
                    go_quiet (fail)
                    go_wp2_with fail
                    go_roundw
                    case rel => exact ⟨q + 1, by omega, by go_num, by rw [HSC2.out], Lib.hid (below_drewN HBZ.out _)⟩
                    case measure => (try simp only [intOf]); omega
                  | false =>
                    have hsd := str_dec2 nm9 nm
                    by_cases hnn : nm9 = nm
                    · have HSC2 : Hid (tplHas s9.tpls nm (q + 1) = true) := Lib.hid (by rw [HSC.out, hb]; simp [hnn])
                      rw [decide_eq_true hnn] at hsd
                      clear HSC hb hnn
                      go_upto_region 26 with fail
                      go_quiet (fail)
                      go_wp2_with fail
                      go_roundw
                      case rel => exact ⟨q + 1, by omega, by go_num, by rw [HSC2.out], Lib.hid (below_drewN HBZ.out _)⟩
                      case measure => (try simp only [intOf]); omega
                    · have HSC2 : Hid (tplHas s9.tpls nm (q + 1) = false) := Lib.hid (by rw [HSC.out, hb]; simp [hnn])
                      rw [decide_eq_false hnn] at hsd
                      clear HSC hb hnn
                      go_upto_region 26 with fail
                      go_quiet (fail)
                      go_wp2_with fail
                      go_roundw
                      case rel => exact ⟨q + 1, by omega, by go_num, by rw [HSC2.out], Lib.hid (below_drewN HBZ.out _)⟩
                      case measure => (try simp only [intOf]); omega
                · obtain rfl : q = s9.tpls.length := by omega
                  rw [HGN.out]
                  go_wp2_with fail
                  go_roundw
                  case rel => exact ⟨n + 1, by omega, by go_num, HBZ⟩
                  case measure => (try simp only [intOf]); omega
            · obtain rfl : n = s.tpls.length := by omega
              have HFN : Hid (Below w.heap.size w wr) := Lib.hid (HBW.out.trans (HB.out.mono HBW.out.size))
              go_wp2_with fail
              go_ret
              exact ⟨rfl, HFN.out⟩
    · have hc := hr1 i hi
      clear hr1 hr2 hi
      obtain ⟨p, q, s', r⟩ := t
      obtain ⟨o1, o2, o3, o4, o5⟩ := hok
      simp only at o1 o2 o3 o4 o5 h24 h26 HG HFI
      unfold grsC at hc
      simp only [Bool.or_eq_true, Bool.and_eq_true, beq_iff_eq, Bool.not_eq_true'] at hc
      rcases hc with ((((((((⟨rfl, rfl⟩ | ⟨rfl, rfl⟩) | ⟨⟨rfl, rfl⟩, rfl⟩) | ⟨rfl, rfl⟩) | ⟨rfl, rfl⟩) | ⟨⟨rfl, rfl⟩, rfl⟩) | ⟨rfl, rfl⟩) | ⟨rfl, rfl⟩) | ⟨rfl, rfl⟩) | ⟨⟨rfl, rfl⟩, rfl⟩
      · refine op_inv rfl (fun K hK => ?_)
        rw [if_pos (by rfl)]
        go_simp
        refine hK _ _ ⟨⟨1, q, s', r⟩, rfl, by simp [GrS.rank], grs_mk (by omega) (by omega) (fun e => (by omega)) (fun e => (by omega)) (fun e => (by omega)), v7, .slice (some ⟨w'.heap.size, 0, none⟩) 0 0, v24, v25, v26, v27, v28, v29, v30, rfl, h24, h26, fun _ => Lib.hid (HG (by omega)).out.s0, fun e => (by simp at e)⟩
      · refine op_inv rfl (fun K hK => ?_)
        rw [if_pos (by rfl)]
        refine wp_val2 (v := .slice ra fs.length rc) (by go_simp; exact gF0 ..) ?_
        refine hK _ _ ⟨⟨p, q, true, r⟩, rfl, by simp [GrS.rank], grs_mk o1 o2 (fun _ => rfl) o4 o5, v7, v23, .slice ra fs.length rc, v25, v26, v27, v28, v29, v30, rfl, fun _ => rfl, h26, HG, HFI⟩
      · refine op_inv rfl (fun K hK => ?_)
        rw [if_pos (by rfl)]
        have h1 := (HG (by omega)).out
        obtain rfl := h24 rfl
        refine wp_app_facts _ _ rfl W3.heap.size v23 [] rfl (h1.e0 rfl) ra rc fs rfl (HES.out.keep h1.bel) (by simp; omega) h1.bel.size (fun v' w9 hr hg ho => ?_)
        refine hK _ _ ⟨⟨2, q, true, r⟩, rfl, by simp [GrS.rank], grs_mk (by omega) (by omega) (fun _ => rfl) (fun e => (by omega)) (fun e => (by omega)), v7, v23, .slice ra fs.length rc, v', v26, v27, v28, v29, v30, rfl, fun _ => rfl, h26, fun _ => Lib.hid (h1.s2 (by simpa using hr) hg ho), fun e => (by simp at e)⟩
      · refine op_inv rfl (fun K hK => ?_)
        rw [if_pos (by rfl)]
        have hp : p ≤ 2 := by
          by_cases e : 3 ≤ p
          · exact absurd (o4 e) (by decide)
          · omega
        have h1 := (HG (by omega)).out
        refine wp_fct_load _ rfl rfl ((h1.bel.block _ (Go.Proofs.YtdkkhmjlamkgdaaGreatDoor.hlt HX4.out)).trans HX4.out) rfl ?_
        refine hK _ _ ⟨⟨p, 1, s', r⟩, rfl, by simp [GrS.rank], grs_mk o1 (by omega) o3 (fun e => (by omega)) o5, v7, v23, v24, v25, .agg x.cells, v27, v28, v29, v30, rfl, h24, fun _ => rfl, fun _ => Lib.hid h1.s3, fun e => (by simp only at e; omega)⟩
      · refine op_inv rfl (fun K hK => ?_)
        rw [if_pos (by rfl)]
        have hp : p ≤ 2 := by
          by_cases e : 3 ≤ p
          · exact absurd (o4 e) (by decide)
          · omega
        have h1 := (HG (by omega)).out
        obtain rfl := h26 (by omega)
        refine wp_fct_slice _ rfl x (by simp [Act.eval, gFrame]) ?_
        refine hK _ _ ⟨⟨p, 2, s', r⟩, rfl, by simp [GrS.rank], grs_mk o1 (by omega) o3 (fun _ => rfl) o5, v7, v23, v24, v25, .agg x.cells, .slice (some ⟨w'.heap.size, 0, none⟩) 1 1, v28, v29, v30, rfl, h24, fun _ => rfl, fun _ => Lib.hid (h1.s4 hp), fun e => (by simp only at e; omega)⟩
      · refine op_inv rfl (fun K hK => ?_)
        rw [if_pos (by rfl)]
        have h1 := (HG (by omega)).out
        obtain ⟨g, rfl, g2, g3, _⟩ := h1.e4 rfl (by omega)
        obtain rfl := h24 (o3 (by omega))
        obtain rfl := h26 (by omega)
        have cS := short_law2 (memOne_es g2 g3 HXO3.out) w' (memOne_sees h1.bel)
        go_simp
        rw [gF27]
        refine cS.mono ?_
        rintro e w9 ⟨a9, c9, gs, rfl, hr, hm, hok9, hb9⟩
        dsimp only
        refine hK _ _ ⟨⟨3, 2, s', r⟩, rfl, by simp [GrS.rank], grs_mk (by omega) (by omega) (fun _ => o3 (by omega)) (fun _ => rfl) (fun e => (by omega)), v7, v23, .slice ra fs.length rc, v25, .agg x.cells, .slice (some ⟨g, 0, none⟩) 1 1, .slice a9 gs.length c9, v29, v30, rfl, fun _ => rfl, fun _ => rfl, fun _ => Lib.hid (h1.s5 rfl hr hm hok9 hb9), fun e => (by simp at e)⟩
      · refine op_inv rfl (fun K hK => ?_)
        rw [if_pos (by rfl)]
        have h1 := (HG (by omega)).out
        obtain rfl : q = 2 := o4 (by omega)
        obtain ⟨gs, ao, cap, rfl, hm, hes, hst⟩ := h1.es28
        have hgl : gs.length ≤ 40 := by
          have := congrArg List.length hm
          rw [List.length_map] at this
          rw [this]; exact shortL7_len _
        refine wp_app_facts _ _ rfl W3.heap.size v25 fs rfl (h1.e2 (.inr rfl)) ao cap gs rfl hes (by omega) h1.bel.size (fun v' w9 hr hg ho => ?_)
        refine hK _ _ ⟨⟨4, 2, s', r⟩, rfl, by simp [GrS.rank], grs_mk (by omega) (by omega) (fun _ => o3 (by omega)) (fun _ => rfl) (fun e => (by omega)), v7, v23, v24, v25, v26, v27, .slice ao gs.length cap, v', v30, rfl, h24, h26, fun _ => Lib.hid (hst w9 v' hr hg HFO.out), fun e => (by simp at e)⟩
      · refine op_inv rfl (fun K hK => ?_)
        rw [if_pos (by rfl)]
        have h1 := (HG (by omega)).out
        obtain rfl : q = 2 := o4 (by omega)
        obtain ⟨gs, ao, cap, rfl, hm, hes, hst⟩ := h1.es29
        have hgl : gs.length ≤ 40 := by
          have := congrArg List.length hm
          rw [List.length_map] at this
          rw [this]; exact shortL7_len _
        have hgd : ∀ y ∈ fs ++ gs, FGood y.f := fun y hy => by
          rcases List.mem_append.1 hy with hy | hy
          · exact HSH.out.good y hy
          · refine shortL7_good [x.f] _ ?_
            rw [← hm]
            exact List.mem_map_of_mem hy
        obtain rfl := h24 (o3 (by omega))
        obtain rfl := h26 (by omega)
        have hl2 : (fs ++ gs).length ≤ 20000 := by
          rw [List.length_append]; omega
        have cF := Fold_law hes hl2 (fun y hy _ => hgd y hy) w' (Sees.self w') (cells_lt w')
        generalize (fs ++ gs).length = n9 at *
        go_simp
        rw [gF29]
        refine cF.mono ?_
        rintro e w9 ⟨a9, c9, b9, d9, s9, rfl, hF9⟩
        dsimp only
        refine hK _ _ ⟨⟨5, 2, s', r⟩, rfl, by simp [GrS.rank], grs_mk (by omega) (by omega) (fun _ => o3 (by omega)) (fun _ => rfl) (fun e => (by omega)), v7, v23, .slice ra fs.length rc, v25, .agg x.cells, v27, v28, .slice ao n9 cap, .agg #[.slice a9 s9.stories.length c9, .slice b9 s9.tpls.length d9], rfl, fun _ => rfl, fun _ => rfl, fun _ => Lib.hid (hst w9 a9 c9 b9 d9 s9 hF9), fun e => (by simp at e)⟩
      · refine op_inv rfl (fun K hK => ?_)
        rw [if_pos (by rfl)]
        have hp : p ≤ 5 := by
          by_cases e : p = 6
          · exact absurd (o5 e) (by decide)
          · omega
        go_simp
        refine hK _ _ ⟨⟨p, q, s', true⟩, rfl, by simp [GrS.rank], grs_mk o1 o2 o3 o4 (fun _ => rfl), .pointer (some ⟨w'.heap.size, 0, none⟩), v23, v24, v25, v26, v27, v28, v29, v30, rfl, h24, h26, fun _ => Lib.hid (HG hp).out.s8, fun e => (by simp only at e; omega)⟩
      · refine op_inv rfl (fun K hK => ?_)
        rw [if_pos (by rfl)]
        have h1 := (HG (by omega)).out
        obtain rfl : q = 2 := o4 (by omega)
        obtain ⟨n9, a9, c9, b9, d9, s9, rfl, g2, g3, rfl, hfi, hst, hbl⟩ := h1.fin
        refine wp_sstore S_state _ _ rfl rfl rfl g3 rfl rfl (by simp [Value.oneCell']) ?_
        refine hK _ _ ⟨⟨6, 2, s', true⟩, rfl, by simp [GrS.rank], grs_mk (by omega) (by omega) (fun _ => o3 (by omega)) (fun _ => rfl) (fun _ => rfl), .pointer (some ⟨n9, 0, none⟩), v23, v24, v25, v26, v27, v28, v29, .agg #[.slice a9 s9.stories.length c9, .slice b9 s9.tpls.length d9], rfl, h24, h26, fun e => (by simp at e), fun _ => Lib.hid ⟨n9, a9, c9, b9, d9, s9, rfl, g2, setRow_heap _ _ _ _ _ _ g3, hfi, hst, hbl⟩⟩
end Go.Proofs.YtdkkhmjlamkgdaaGreatDoor
/-
  WHAT IS PROVED HERE: StateGrows returns true and leaves its arguments as they were, for all arguments. Conditions: those of the card (the listed tables of Go's library lie as their text lays them).
-/
namespace Go.Proofs.YtdkkhmjlamkgdaaGreatDoor.fnSGro
open Go.ChangeShapes Go.WideShapes Go.ChangeAt Go.RowKit Go.ChangeMaps Mg

set_option maxRecDepth 100000 in
theorem contract (H : Type) (enc : TypeId × Value → H) (W : World) (base : Nat) (args : Array Value) (ds gs : List (DataW H)) (before : List MemPlace)
    (hval : ∀ (j : Nat) t v, Tryz.f4.params[j]? = some t → args[j]? = some v → Value.okWide Tryz.prog W .any base t v)
    (hW : DataW.Whole enc Tryz.prog Tryz.f4.params.toList Rows.stateGrowsSpec.vars false W args.toList ds gs before) :
    Calls Tryz.prog 4 args W fun e W' => ∃ v, e = .returned v ∧ Rows.stateGrowsSpec.post enc Tryz.prog Tryz.f4 false true false false W args v W' := by
  have hread : ∀ t ∈ Tryz.f4.params.toList, Tryz.prog.readableRec t = true ∧ t < Tryz.prog.types.size := by
    have hall : (Tryz.f4.params.toList.all fun t => Tryz.prog.readableRec t && decide (t < Tryz.prog.types.size)) = true := by kernel_rfl
    intro t ht
    have := List.all_eq_true.1 hall t ht
    simpa using this
  have hclose : ∀ W', Below W.heap.size W W' → (Rows.stateGrowsSpec.fn H ds).results = [.lit (.bool true)] ∧ (Rows.stateGrowsSpec.fn H ds).args = ds ∧ (Rows.stateGrowsSpec.fn H ds).vars = [] → Rows.stateGrowsSpec.post enc Tryz.prog Tryz.f4 false true false false W args (.bool true) W' :=
    fun W' hg hs => close_law hW rfl (by kernel_rfl) hs hread hg
  obtain ⟨p, q, hA0, hV, rfl, hfz, hnd⟩ := hW
  have hA : DataW.TrodAll enc Tryz.prog W 0 (fun _ => true) true Tryz.f4.params.toList args.toList ds p := hA0
  obtain ⟨rfl, rfl⟩ := trodVars_none hV
  rw [Tryz.params4] at hA hval
  clear hA0 hread hfz hnd hV
  obtain ⟨v0, vs0, d0, ds0, p0, q0, hargs, rfl, rfl, h0, r0⟩ := trodAll_cons hA
  obtain ⟨v1, vs1, d1, ds1, p1, q1, rfl, rfl, rfl, h1, r1⟩ := trodAll_cons r0
  obtain ⟨rfl, rfl, rfl⟩ := trodAll_nil r1
  obtain rfl : args = #[v0, v1] := by cases args; simp_all
  obtain ⟨l0, b0⟩ := facts_in (hval 0 22 v0 rfl rfl) h0
  obtain ⟨x1, rfl, b1⟩ := fact_in (hval 1 50 v1 rfl rfl) h1
  refine (stateGrows_any b0 b1 W (Sees.self W)).mono fun e W' ⟨he, hg⟩ => ?_
  exact ⟨_, he, hclose W' hg ⟨rfl, rfl, rfl⟩⟩

theorem laid_met (os : Os) : laidMet Tryz.prog Rows.stateGrowsRow.laid ((laidWorld os).forCall (fun _ _ => 0) ⟨#[], #[.slice none 0 0, .agg #[.int .i64 0, .int .i64 0, .int .i64 0, .int .i64 0, .string ⟨#[]⟩, .int .i64 0, .int .i64 0, .string ⟨#[]⟩, .string ⟨#[]⟩, .slice none 0 0, .slice none 0 0, .int .i64 0, .slice none 0 0, .int .i64 0, .int .i64 0, .int .i64 0, .int .i64 0, .int .i64 0, .string ⟨#[]⟩, .string ⟨#[]⟩, .int .i64 0, .int .i64 0, .int .i64 0]], []⟩).memory :=
  laidMet_of_run' 8 (by kernel_rfl) (by kernel_rfl)
theorem reads (os : Os) {H : Type} (enc : TypeId × Value → H) : ∃ places, DataW.whole enc Tryz.prog ((laidWorld os).forCall (fun _ _ => 0) ⟨#[], #[.slice none 0 0, .agg #[.int .i64 0, .int .i64 0, .int .i64 0, .int .i64 0, .string ⟨#[]⟩, .int .i64 0, .int .i64 0, .string ⟨#[]⟩, .string ⟨#[]⟩, .slice none 0 0, .slice none 0 0, .int .i64 0, .slice none 0 0, .int .i64 0, .int .i64 0, .int .i64 0, .int .i64 0, .int .i64 0, .string ⟨#[]⟩, .string ⟨#[]⟩, .int .i64 0, .int .i64 0, .int .i64 0]], []⟩).memory Tryz.f4.params.toList Rows.stateGrowsSpec.vars false (#[Value.slice none 0 0, .agg #[.int .i64 0, .int .i64 0, .int .i64 0, .int .i64 0, .string ⟨#[]⟩, .int .i64 0, .int .i64 0, .string ⟨#[]⟩, .string ⟨#[]⟩, .slice none 0 0, .slice none 0 0, .int .i64 0, .slice none 0 0, .int .i64 0, .int .i64 0, .int .i64 0, .int .i64 0, .int .i64 0, .string ⟨#[]⟩, .string ⟨#[]⟩, .int .i64 0, .int .i64 0, .int .i64 0]] : Array Value).toList 8 = some ([.nil, .agg [.lit (.int .i64 0), .lit (.int .i64 0), .lit (.int .i64 0), .lit (.int .i64 0), .lit (.string []), .lit (.int .i64 0), .lit (.int .i64 0), .lit (.string []), .lit (.string []), .nil, .nil, .agg [.lit (.int .i64 0), .nil, .lit (.int .i64 0), .lit (.int .i64 0)], .lit (.int .i64 0), .lit (.int .i64 0), .lit (.int .i64 0), .lit (.string []), .lit (.string []), .lit (.int .i64 0), .lit (.int .i64 0), .lit (.int .i64 0)]], [], places) :=
  ⟨[], by kernel_rfl⟩

set_option maxRecDepth 100000 in
theorem lifted (os : Os) (started : os.Started) (H : Type) (enc : TypeId × Value → H) (F : Stop.Interp) :
    ReturnsInHanded {} Tryz.checked os 4 .any ((OpenSpec.ofChange Rows.stateGrowsSpec).preRow enc Tryz.prog Tryz.f4 Rows.stateGrowsRow.domain false Rows.stateGrowsRow.laid) (((OpenSpec.ofChange Rows.stateGrowsSpec).at F).post enc Tryz.prog Tryz.f4 false true false false) := by
  obtain ⟨places, hx⟩ := reads os enc
  refine returnsInHanded_of_row (C := Tryz.checked) (s := OpenSpec.ofChange Rows.stateGrowsSpec) own started (by kernel_rfl) Tryz.func4
    (witness_row_at (enc := enc) (C := Tryz.checked) false (laidWorld os) #[.slice none 0 0, .agg #[.int .i64 0, .int .i64 0, .int .i64 0, .int .i64 0, .string ⟨#[]⟩, .int .i64 0, .int .i64 0, .string ⟨#[]⟩, .string ⟨#[]⟩, .slice none 0 0, .slice none 0 0, .int .i64 0, .slice none 0 0, .int .i64 0, .int .i64 0, .int .i64 0, .int .i64 0, .int .i64 0, .string ⟨#[]⟩, .string ⟨#[]⟩, .int .i64 0, .int .i64 0, .int .i64 0]] rfl (by kernel_rfl) (by kernel_rfl) (by kernel_rfl)
      (OpenSpec.preRow_of_cond 8 hx (by kernel_rfl) (fun k hk => by cases hk) (by kernel_rfl) (laid_met os))) ?_
  intro W base args ds gs before hval hW _ _ _ _ _ _
  exact contract H enc W base args ds gs before hval hW

theorem j1 : (Rows.stateGrowsRow.inPlace == Tryz.prog.inPlace 4) = true := by kernel_rfl
theorem j2 : (Rows.stateGrowsRow.unfollowed == Tryz.prog.unfollowed 4) = true := by kernel_rfl
theorem j3 : (Rows.stateGrowsRow.recurses == Tryz.prog.recurses 4) = true := by kernel_rfl
theorem j4 : (Rows.stateGrowsRow.named == Tryz.prog.varsNamed 4) = true := by kernel_rfl
theorem j5 : joinedRest Tryz.prog Tryz.f4 (OpenSpec.ofChange Rows.stateGrowsSpec).bare Rows.stateGrowsRow = true := by kernel_rfl
theorem j6 : false = Rows.stateGrowsRow.goesBy Tryz.prog := by kernel_rfl
theorem j7 : Rows.stateGrowsRow.wfByText (OpenSpec.ofChange Rows.stateGrowsSpec) = true := by kernel_rfl
theorem closed : joinedFacts Tryz.prog 4 Tryz.f4 (OpenSpec.ofChange Rows.stateGrowsSpec).bare Rows.stateGrowsRow = true := joined_of j1 j2 j3 j4 pr_heard pr_enter pr_lifts pr_make j5
theorem named : Tryz.prog.funcNamed Rows.stateGrowsRow.func = some 4 := by kernel_rfl

theorem said : Rows.StateGrowsSaid :=
  OpenClaim.holds_of_cond 4 Tryz.f4 rfl rfl rfl rfl rfl rfl rfl ⟨rfl, rfl, rfl, rfl, rfl⟩ rfl rfl rfl rfl rfl named Tryz.func4 closed
    (of_decide_eq_true (by kernel_rfl)) (by unfold Func.isWrapper; first | (rw [if_pos (by decide +kernel)]; kernel_rfl) | (rw [if_neg (by decide +kernel)]; exact ⟨rfl, rfl⟩))
    (fun os started H enc _ F => by rw [OpenClaim.pre_eq_preRow]; exact lifted os started H enc F)

/-- No parameter wants a stand-in; the program's own looks are off: what both cards ask. -/
theorem plain (f : FuncId) (fn : Func) (hf : Tryz.pinned.checked.prog.funcNamed "copydesk/copydesklaw07.StateGrows" = some f) (hfn : Tryz.pinned.checked.prog.funcs[f]? = some fn) :
    false = Tryz.pinned.checked.prog.looks [] ∧ ∀ (j : Nat) t, fn.params[j]? = some t → Tryz.pinned.checked.prog.wantsStandIn t = false := by
  obtain rfl : f = 4 := Option.some.inj ((show Tryz.prog.funcNamed "copydesk/copydesklaw07.StateGrows" = some 4 by kernel_rfl).symm.trans hf) |>.symm
  obtain rfl : fn = Tryz.f4 := (Option.some.inj (Tryz.func4.symm.trans hfn)).symm
  refine ⟨by kernel_rfl, fun j t ht => ?_⟩
  have hall : Tryz.f4.params.all (fun t => !Tryz.prog.wantsStandIn t) = true := by kernel_rfl
  have := Array.all_eq_true'.1 hall t (Array.mem_of_getElem? ht)
  exact (by simpa using this : Tryz.prog.wantsStandIn t = false)

/-- ████ THE CARD ████ -/
theorem card : Rows.StateGrowsCardSaid :=
  Claim7.holds_tied_plain_at .later [] _ _ _ _ said (fun _ h => by cases h) j7 (fun _ h => by cases h) stateGrows_row_tie rfl ⟨rfl, rfl⟩ (by kernel_rfl) rfl plain j6
end Go.Proofs.YtdkkhmjlamkgdaaGreatDoor.fnSGro

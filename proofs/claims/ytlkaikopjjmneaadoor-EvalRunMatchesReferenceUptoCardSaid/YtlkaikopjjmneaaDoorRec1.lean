/-
  WHAT IS PROVED HERE: the recording source in memory: that it is kept, and what a further recorded call leaves. Conditions: the sizes that it keeps.
-/
import Derived.Test.YtlkaikopjjmneaaDoorRec
namespace Go.Proofs.YtlkaikopjjmneaaDoor
open Go.RowKit

theorem ownsRow_upd {w w' : World} {B : Nat} {e : TypeId} {size n : Nat} {v : Value} {xs : List Value} {F : Nat → Prop} (h : w.ownsRow B e size v n xs) (hu : Upd F w w') (hn : ∀ k, v.ownBlock = some k → ¬ F k) : w'.ownsRow B e size v n xs := by
  refine ⟨h.1, ?_⟩
  rcases h.2 with hn | ⟨g, cap, cur, rfl, hb, hgg, rest⟩
  · exact .inl hn
  · exact .inr ⟨g, cap, cur, rfl, hb, (hu.block g (Array.getElem?_eq_some_iff.1 hgg).1 (hn g rfl)).trans hgg, rest⟩
theorem IntsAt.upd {w w' : World} {F : Nat → Prop} {v : Value} {l : List Int} (h : IntsAt w v l) (hu : Upd F w w') (hn : ∀ k, v.ownBlock = some k → ¬ F k) : IntsAt w' v l := by
  obtain ⟨b, o, h1, h2⟩ := h
  refine ⟨b, o, h1, fun j hj => hu.cell_some (h2 j hj) ?_⟩
  obtain ⟨_, ao, cap, rfl, _, h3⟩ := h1
  have := h3 (by omega)
  subst this
  exact hn b rfl

section
variable {base : Nat} {mem : Addr → Option Value} {R : Nat} {dF dL dS : Value} {F : Nat → Prop} {w w1 : World} {s : List ACall}
theorem RecI.ltF (h : RecI base mem R dF dL dS F w s) : ∀ k, F k → k < w.heap.size := by
  intro k hk
  obtain ⟨cv, rc, h1, h2, h3, h4, h5⟩ := h.ex
  rcases (h5 k).1 hk with e | e | ⟨c, hc, e⟩
  · have := h.lt; omega
  · exact (World.ownsRow.lt h2 k e).2
  · exact ((h4 c hc).2.1 k e).2.1
theorem RecI.keep {G : Nat → Prop} (h : RecI base mem R dF dL dS F w s) (hu : Upd G w w1) (hG : ∀ k, G k → base ≤ k ∧ ¬ F k) : RecI base mem R dF dL dS F w1 s := by
  obtain ⟨cv, rc, h1, h2, h3, h4, h5⟩ := h.ex
  have hl := h.lt
  refine ⟨⟨cv, rc, ?_, ?_, h3, ?_, h5⟩, ⟨hl.1, by have := hu.size; omega⟩, h.sees.upd hu (fun a v hv g => by have := (hG _ g).1; have := (h.memR a v hv).1; omega), h.memR⟩
  · exact (hu.block R (by omega) (fun g => by have := (hG _ g).1; omega)).trans h1
  · exact ownsRow_upd h2 hu (fun k hk g => (hG k g).2 ((h5 k).2 (.inr (.inl hk))))
  · intro c hc
    obtain ⟨a1, a2, a3⟩ := h4 c hc
    refine ⟨a1.upd hu (fun k hk g => (hG k g).2 ((h5 k).2 (.inr (.inr ⟨c, hc, hk⟩)))), fun k hk => ?_, a3⟩
    have := a2 k hk
    exact ⟨this.1, by have := hu.size; omega, this.2.2⟩
theorem RecI.cells (h : RecI base mem R dF dL dS F w s) : w.cell? ⟨R, 0, none⟩ = some dF ∧ w.cell? ⟨R, 1, none⟩ = some dL ∧ w.cell? ⟨R, 2, none⟩ = some dS ∧ w.frozen? ⟨R, 3, none⟩ = false := by
  obtain ⟨cv, rc, h1, _⟩ := h.ex
  unfold World.cell? World.frozen?
  simp only [h1]; simp

/-- a further call -/
theorem RecI.push (h : RecI base mem R dF dL dS F w s) : ∃ (cv : Value) (xs : List Value), w.cell? ⟨R, 3, none⟩ = some cv ∧ w.ownsRow base 41 9 cv s.length xs ∧ (∀ k, cv.ownBlock = some k → F k ∧ k ≠ R) ∧
    ∀ (G : Nat → Prop) (w2 : World) (c : RCall) (v' : Value) (w3 : World), Upd G w w2 → (∀ k, G k → base ≤ k ∧ ¬ F k) → w3.ownsRow base 41 9 v' (s.length + 1) (xs ++ c.cells) → w2.grownBy w3 cv.ownBlock → (∀ k, v'.ownBlock = some k → cv.ownBlock = some k ∨ w2.heap.size ≤ k) →
      IntsAt w2 c.idsV c.a.ids → (∀ k, c.idsV.ownBlock = some k → w.heap.size ≤ k ∧ k < w2.heap.size) → (∃ b o, SliceOf c.nodesV c.a.nodes.length b o ∧ NodesAt mem c.a.nodes b o) →
      ∃ F', RecI base mem R dF dL dS F' (w3.setCell ⟨R, 3, none⟩ v') (s ++ [c.a]) ∧ Upd (fun k => F k ∨ G k) w (w3.setCell ⟨R, 3, none⟩ v') ∧ ∀ k, F' k → F k ∨ w.heap.size ≤ k := by
  have hlt := h.ltF
  obtain ⟨cv, rc, h1, h2, h3, h4, h5⟩ := h.ex
  have hl := h.lt
  have hlen : rc.length = s.length := by rw [← h3]; simp
  have hcvb : ∀ k, cv.ownBlock = some k → base ≤ k ∧ k < w.heap.size := fun k hk => World.ownsRow.lt h2 k hk
  refine ⟨cv, rc.flatMap RCall.cells, ?_, by rw [← hlen]; exact h2, fun k hk => ⟨(h5 k).2 (.inr (.inl hk)), by have := hcvb k hk; omega⟩, ?_⟩
  · unfold World.cell?; simp only [h1]; simp
  intro G w2 c v' w3 hu2 hG hr hg ho hi hib hn
  have hu3 : Upd (fun k => cv.ownBlock = some k) w2 w3 := ⟨hg.os, hg.tape, hg.output, hg.size, fun k hk hn => hg.block k hk (fun e => hn e.symm)⟩
  have hu4 : Upd (fun k => k = R ∨ cv.ownBlock = some k) w2 (w3.setCell ⟨R, 3, none⟩ v') := (hu3.mono (fun i e => .inl (.inr e))).setCell (.inl (.inl rfl)) v'
  have hR3 : w3.heap[R]? = some (.cells #[dF, dL, dS, cv] 37 (0, 0)) := by
    rw [hu3.block R (by have := hu2.size; omega) (fun e => by have := hcvb R e; omega), hu2.block R (by omega) (fun e => by have := hG R e; omega)]
    exact h1
  have hvb : ∀ k, v'.ownBlock = some k → base ≤ k ∧ k < w3.heap.size := fun k hk => World.ownsRow.lt hr k hk
  have hs2 := hu2.size
  have hs3 := hu3.size
  have hs4 : (w3.setCell ⟨R, 3, none⟩ v').heap.size = w3.heap.size := by simp [World.setCell]
  refine ⟨fun k => k = R ∨ v'.ownBlock = some k ∨ ∃ c' ∈ rc ++ [c], c'.idsV.ownBlock = some k, ⟨⟨v', rc ++ [c], ?_, ?_, by simp [h3], ?_, fun _ => Iff.rfl⟩, ⟨hl.1, by omega⟩, ?_, h.memR⟩, ?_, ?_⟩
  · rw [heap_setCell_same _ _ _ _ _ _ hR3]; rfl
  · have : (w3.setCell ⟨R, 3, none⟩ v').ownsRow base 41 9 v' (s.length + 1) (rc.flatMap RCall.cells ++ c.cells) :=
      ownsRow_upd (F := fun k => k = R) hr ((Upd.refl (fun k => k = R) w3).setCell (p := ⟨R, 3, none⟩) (.inl rfl) v') (fun k hk e => by have := hvb k hk; omega)
    simpa [hlen] using this
  · intro c' hc'
    rcases List.mem_append.1 hc' with hc' | hc'
    · obtain ⟨a1, a2, a3⟩ := h4 c' hc'
      have hF : ∀ k, c'.idsV.ownBlock = some k → F k := fun k hk => (h5 k).2 (.inr (.inr ⟨c', hc', hk⟩))
      refine ⟨(a1.upd hu2 (fun k hk g => (hG k g).2 (hF k hk))).upd hu4 (fun k hk e => ?_), fun k hk => ?_, a3⟩
      · have := a2 k hk
        rcases e with e | e
        · omega
        · exact this.2.2 e
      · have := a2 k hk
        refine ⟨this.1, by omega, fun e => ?_⟩
        rcases ho k e with e | e
        · exact this.2.2 e
        · omega
    · simp at hc'; subst hc'
      refine ⟨hi.upd hu4 (fun k hk e => ?_), fun k hk => ?_, hn⟩
      · have := hib k hk
        rcases e with e | e
        · omega
        · have := hcvb k e; omega
      · have := hib k hk
        refine ⟨by omega, by omega, fun e => ?_⟩
        rcases ho k e with e | e
        · have := hcvb k e; omega
        · omega
  · exact (h.sees.upd hu2 (fun a v hv g => by have := (hG _ g).1; have := (h.memR a v hv).1; omega)).upd hu4 (fun a v hv e => by
      have := h.memR a v hv
      rcases e with e | e
      · exact this.2 e
      · have := hcvb _ e; omega)
  · refine (hu2.mono (fun k g => .inl (.inr g))).trans hu4 (fun k e => .inl (.inl ((h5 k).2 ?_)))
    rcases e with e | e
    · exact .inl e
    · exact .inr (.inl e)
  · intro k hk
    rcases hk with e | e | ⟨c', hc', e⟩
    · exact .inl ((h5 k).2 (.inl e))
    · rcases ho k e with e | e
      · exact .inl ((h5 k).2 (.inr (.inl e)))
      · exact .inr (by omega)
    · rcases List.mem_append.1 hc' with hc' | hc'
      · exact .inl ((h5 k).2 (.inr (.inr ⟨c', hc', e⟩)))
      · simp at hc'; subst hc'
        exact .inr (hib k e).1
end
end Go.Proofs.YtlkaikopjjmneaaDoor

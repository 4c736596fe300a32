/-
  WHAT IS PROVED HERE: eval.Run over a new recording source, in a world later than the one in which the arguments lie; nodes that are copied. Condition: strconv's table.
-/
import Derived.Test.YtlkaikopjjmneaaDoorAgn
import Derived.Test.YtlkaikopjjmneaaDoorArg
import Derived.Test.YtlkaikopjjmneaaDoorPln2
namespace Go.Proofs.YtlkaikopjjmneaaDoor
open Go.RowKit

theorem mem_later {W w : World} {R : Nat} {a : Addr} {v : Value} (hu : Upd (fun _ => False) W w) (hR : W.heap.size ≤ R) (h : W.cell? a = some v) : memOf w R a = some v := by
  have hlt := World.block_lt_of_cell? W a h
  exact memOf_of (hu.cell_some h (fun f => f)) (by omega)
/-- what a call of Run leaves -/
def RunRes (d : Dat) (l : List Node) (id : Int) (W : World) (e : Ending) (w' : World) : Prop :=
  e = .returned (.tuple #[.string (bs (runF (recOps d) l [] id).1.1), .int .i64 (runF (recOps d) l [] id).1.2]) ∧ Upd (fun _ => False) W w'
theorem run_at {W w : World} {R : Nat} {dF dL dS : Value} {d : Dat} (hu : Upd (fun _ => False) W w) (hd : DatAt (fun a => W.cell? a) d dF dL dS) (ht : Tab W) (h2 : 2 < W.heap.size)
    (hR : w.heap[R]? = some (.cells #[dF, dL, dS, .slice none 0 0] 37 (0, 0))) (hRW : W.heap.size ≤ R) (l : List Node) (v : Value) (b o : Nat) (hl : SliceOf v l.length b o) (hn : NodesAt (memOf w R) l b o) (id : Int) :
    Calls Tryd.prog 16 #[v, .iface 29 (.pointer (some ⟨R, 0, none⟩)), .int .i64 id] w (RunRes d l id W) := by
  refine (run_rec hR (hd.mono (fun _ _ h => mem_later hu hRW h)) (tab_upd ht hu h2 (fun f => f)) (by omega) l v b o hl hn id).mono ?_
  rintro e w' ⟨rfl, F', _, hu2, _⟩
  exact ⟨rfl, hu.trans hu2 (fun k e => .inr (by omega))⟩
/-- Run over nodes that are an argument -/
theorem run_arg {W w : World} {R : Nat} {dF dL dS : Value} {d : Dat} (hu : Upd (fun _ => False) W w) (hd : DatAt (fun a => W.cell? a) d dF dL dS) (ht : Tab W) (h2 : 2 < W.heap.size)
    (hR : w.heap[R]? = some (.cells #[dF, dL, dS, .slice none 0 0] 37 (0, 0))) (hRW : W.heap.size ≤ R) (l : List Node) (v : Value) (b o : Nat) (hl : SliceOf v l.length b o) (hn : NodesAt (fun a => W.cell? a) l b o) (id : Int) :
    Calls Tryd.prog 16 #[v, .iface 29 (.pointer (some ⟨R, 0, none⟩)), .int .i64 id] w (RunRes d l id W) :=
  run_at hu hd ht h2 hR hRW l v b o hl (hn.mono (fun _ _ h => mem_later hu hRW h)) id

/-! nodes that are copied -/
theorem NodeAt.move {mem : Addr → Option Value} : ∀ {n : Node} {b o b' o' : Nat}, NodeAt mem n b o → (∀ j, j < 8 → mem ⟨b', o' + j, none⟩ = mem ⟨b, o + j, none⟩) → NodeAt mem n b' o'
  | .mk kind text name arg count filters kids els, b, o, b', o', h, hc => by
    unfold NodeAt at h ⊢
    obtain ⟨⟨a0, a1, a2, a3, a4⟩, hs, ⟨v1, b1, o1, x1, y1⟩, ⟨v2, b2, o2, x2, y2⟩, ⟨v3, b3, o3, x3, y3⟩⟩ := h
    exact ⟨⟨(hc 0 (by omega)).trans a0, (hc 1 (by omega)).trans a1, (hc 2 (by omega)).trans a2, (hc 3 (by omega)).trans a3, (hc 4 (by omega)).trans a4⟩, hs,
      ⟨v1, b1, o1, (hc 5 (by omega)).trans x1, y1⟩, ⟨v2, b2, o2, (hc 6 (by omega)).trans x2, y2⟩, ⟨v3, b3, o3, (hc 7 (by omega)).trans x3, y3⟩⟩
theorem NodesAt.move {mem : Addr → Option Value} : ∀ {l : List Node} {b o b' o' : Nat}, NodesAt mem l b o → (∀ j, j < l.length * 8 → mem ⟨b', o' + j, none⟩ = mem ⟨b, o + j, none⟩) → NodesAt mem l b' o'
  | [], _, _, _, _, _, _ => nodesAt_nil
  | n :: r, b, o, b', o', h, hc => by
    unfold NodesAt at h
    refine nodesAt_cons (h.1.move (fun j hj => hc j (by simp only [List.length_cons]; omega))) (NodesAt.move h.2 (fun j hj => ?_))
    have := hc (8 + j) (by simp only [List.length_cons]; omega)
    rwa [← Nat.add_assoc, ← Nat.add_assoc] at this
theorem NodesAt.append {mem : Addr → Option Value} : ∀ {l m : List Node} {b o : Nat}, NodesAt mem l b o → NodesAt mem m b (o + l.length * 8) → NodesAt mem (l ++ m) b o
  | [], m, b, o, _, h => by simpa using h
  | n :: r, m, b, o, hl, hm => by
    unfold NodesAt at hl
    refine nodesAt_cons hl.1 (NodesAt.append hl.2 ?_)
    rwa [List.length_cons, show o + (r.length + 1) * 8 = o + 8 + r.length * 8 by omega] at hm
/-- the cells of nodes -/
theorem NodeAt.cells {mem : Addr → Option Value} : ∀ {n : Node} {b o : Nat}, NodeAt mem n b o → ∀ j, j < 8 → ∃ u, mem ⟨b, o + j, none⟩ = some u ∧ u.oneCell' = true
  | .mk kind text name arg count filters kids els, b, o, h, j, hj => by
    unfold NodeAt at h
    obtain ⟨⟨a0, a1, a2, a3, a4⟩, hs, ⟨v1, b1, o1, x1, y1, _⟩, ⟨v2, b2, o2, x2, y2, _⟩, ⟨v3, b3, o3, x3, y3, _⟩⟩ := h
    match j, hj with
    | 0, _ => exact ⟨_, a0, rfl⟩
    | 1, _ => exact ⟨_, a1, rfl⟩
    | 2, _ => exact ⟨_, a2, rfl⟩
    | 3, _ => exact ⟨_, a3, rfl⟩
    | 4, _ => exact ⟨_, a4, rfl⟩
    | 5, _ => obtain ⟨_, ao, c, rfl, _⟩ := y1; exact ⟨_, x1, rfl⟩
    | 6, _ => obtain ⟨_, ao, c, rfl, _⟩ := y2; exact ⟨_, x2, rfl⟩
    | 7, _ => obtain ⟨_, ao, c, rfl, _⟩ := y3; exact ⟨_, x3, rfl⟩
theorem NodesAt.cells {mem : Addr → Option Value} {l : List Node} {b o : Nat} (h : NodesAt mem l b o) (j : Nat) (hj : j < l.length * 8) : ∃ u, mem ⟨b, o + j, none⟩ = some u ∧ u.oneCell' = true := by
  have h1 := h.get (j / 8) (by omega)
  obtain ⟨u, h2, h3⟩ := h1.cells (j % 8) (by omega)
  refine ⟨u, ?_, h3⟩
  rwa [show o + j / 8 * 8 + j % 8 = o + j by omega] at h2
theorem reads_nodes {w : World} {A : Option Addr} {n c b o : Nat} {l : List Node} (hs : SliceOf (.slice A n c) l.length b o) (hn : NodesAt (fun a => w.cell? a) l b o) :
    n = l.length ∧ ∃ xs : List Value, Reads w w.heap.size 8 A n xs ∧ (∀ j, j < l.length * 8 → xs[j]? = w.cell? ⟨b, o + j, none⟩) ∧ ∀ u ∈ xs, u.oneCell' = true := by
  obtain ⟨hb, ao, cap, e, hc, h0⟩ := hs
  injection e with e1 e2 e3
  subst e1 e2
  refine ⟨rfl, (List.range (l.length * 8)).map fun j => (w.cell? ⟨b, o + j, none⟩).getD undef, ⟨by simp, fun hn0 => ?_⟩, fun j hj => ?_, fun u hu => ?_⟩
  · have := h0 hn0
    subst this
    obtain ⟨u, h1, _⟩ := hn.cells 0 (by omega)
    refine ⟨_, rfl, World.block_lt_of_cell? w _ h1, fun j u hj => ?_⟩
    obtain ⟨hj1, e⟩ := List.getElem?_eq_some_iff.1 hj
    rw [List.length_map, List.length_range] at hj1
    obtain ⟨u', h1, _⟩ := hn.cells j hj1
    rw [List.getElem_map, List.getElem_range] at e
    rw [Addr.add_lit]
    have h1' : w.cell? ⟨b, o + j, none⟩ = some u' := h1
    rw [h1'] at e ⊢
    rw [← e]; rfl
  · obtain ⟨u, h1, _⟩ := hn.cells j hj
    have h1' : w.cell? ⟨b, o + j, none⟩ = some u := h1
    rw [List.getElem?_map, List.getElem?_range hj, Option.map_some, h1']; rfl
  · obtain ⟨j, hj, rfl⟩ := List.mem_map.1 hu
    rw [List.mem_range] at hj
    obtain ⟨u, h1, h2⟩ := hn.cells j hj
    have h1' : w.cell? ⟨b, o + j, none⟩ = some u := h1
    rw [h1']; exact h2
end Go.Proofs.YtlkaikopjjmneaaDoor

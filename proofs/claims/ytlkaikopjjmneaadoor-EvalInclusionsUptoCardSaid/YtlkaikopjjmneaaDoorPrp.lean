/-
  WHAT IS PROVED HERE: a list of answers with one more put in front, as it lies in memory (d.Lists = append([]Answer{..}, d.Lists...)). Conditions: the sizes that it keeps.
-/
import Derived.Test.YtlkaikopjjmneaaDoorCho
import Derived.Test.YtlkaikopjjmneaaDoorLpp
namespace Go.Proofs.YtlkaikopjjmneaaDoor
open Go.RowKit

theorem info50 : (Tryd.prog.info? 50).map (fun i => (i.zero, i.size, i.bytes)) = some (some (.agg #[.int .i64 0, .string ⟨#[]⟩, .string ⟨#[]⟩, .slice none 0 0]), 4, 64) := by kernel_rfl
theorem ListsAt.move {mem : Addr → Option Value} : ∀ {l : List (Int × ByteArray × ByteArray × List Int)} {b o b' o' : Nat}, ListsAt mem l b o → (∀ j, j < l.length * 4 → mem ⟨b', o' + j, none⟩ = mem ⟨b, o + j, none⟩) → ListsAt mem l b' o'
  | [], _, _, _, _, _, _ => by unfold ListsAt; trivial
  | f :: r, b, o, b', o', h, hc => by
    unfold ListsAt at h ⊢
    obtain ⟨⟨a0, a1, a2, v, a3, a4⟩, hr⟩ := h
    have hl : (f :: r).length * 4 = r.length * 4 + 4 := by simp only [List.length_cons]; omega
    refine ⟨⟨(hc 0 (by omega)).trans a0, (hc 1 (by omega)).trans a1, (hc 2 (by omega)).trans a2, v, (hc 3 (by omega)).trans a3, a4⟩, ListsAt.move hr (fun j hj => ?_)⟩
    have := hc (4 + j) (by omega)
    rwa [← Nat.add_assoc, ← Nat.add_assoc] at this
theorem ListsAt.cells {mem : Addr → Option Value} {l : List (Int × ByteArray × ByteArray × List Int)} {b o : Nat} (h : ListsAt mem l b o) (j : Nat) (hj : j < l.length * 4) : ∃ u, mem ⟨b, o + j, none⟩ = some u ∧ u.oneCell' = true := by
  obtain ⟨a0, a1, a2, v, a3, a4⟩ := h.get (j / 4) (by omega)
  have hr : j % 4 = 0 ∨ j % 4 = 1 ∨ j % 4 = 2 ∨ j % 4 = 3 := by omega
  rcases hr with hr | hr | hr | hr
  · exact ⟨_, by rw [show o + j = o + j / 4 * 4 by omega]; exact a0, rfl⟩
  · exact ⟨_, by rw [show o + j = o + j / 4 * 4 + 1 by omega]; exact a1, rfl⟩
  · exact ⟨_, by rw [show o + j = o + j / 4 * 4 + 2 by omega]; exact a2, rfl⟩
  · obtain ⟨_, _, ⟨_, ao, c, rfl, _⟩, _⟩ := a4
    exact ⟨_, by rw [show o + j = o + j / 4 * 4 + 3 by omega]; exact a3, rfl⟩
theorem reads_gen {w : World} {A : Option Addr} {n c b o len size : Nat} (hsz : 0 < size) (hs : SliceOf (.slice A n c) len b o) (hn : ∀ j, j < len * size → ∃ u, w.cell? ⟨b, o + j, none⟩ = some u ∧ u.oneCell' = true) :
    n = len ∧ ∃ xs : List Value, Reads w w.heap.size size A n xs ∧ (∀ j, j < len * size → xs[j]? = w.cell? ⟨b, o + j, none⟩) ∧ ∀ u ∈ xs, u.oneCell' = true := by
  obtain ⟨hb, ao, cap, e, hc, h0⟩ := hs
  injection e with e1 e2 e3
  subst e1 e2
  refine ⟨rfl, (List.range (n * size)).map fun j => (w.cell? ⟨b, o + j, none⟩).getD undef, ⟨by simp, fun hn0 => ?_⟩, fun j hj => ?_, fun u hu => ?_⟩
  · have := h0 hn0
    subst this
    obtain ⟨u, h1, _⟩ := hn 0 (Nat.mul_pos hn0 hsz)
    refine ⟨_, rfl, World.block_lt_of_cell? w _ h1, fun j u hj => ?_⟩
    obtain ⟨hj1, e⟩ := List.getElem?_eq_some_iff.1 hj
    rw [List.length_map, List.length_range] at hj1
    obtain ⟨u', h1, _⟩ := hn j hj1
    rw [List.getElem_map, List.getElem_range] at e
    rw [Addr.add_lit]
    rw [h1] at e ⊢
    rw [← e]; rfl
  · obtain ⟨u, h1, _⟩ := hn j hj
    rw [List.getElem?_map, List.getElem?_range hj, Option.map_some, h1]; rfl
  · obtain ⟨j, hj, rfl⟩ := List.mem_map.1 hu
    rw [List.mem_range] at hj
    obtain ⟨u, h1, h2⟩ := hn j hj
    rw [h1]; exact h2

/-- block B holds the three slices of d, the middle one reading as L in all memory but B -/
structure LHold (W : World) (B : Nat) (dF dS : Value) (L : List (Int × ByteArray × ByteArray × List Int)) (qa : Option Addr) (n qc : Nat) (wr : World) : Prop where
  upd : Upd (fun _ => False) W wr
  blk : wr.heap[B]? = some (.cells #[dF, .slice qa n qc, dS] 27 (0, 0))
  at_ : ∃ qb qo, SliceOf (.slice qa n qc) L.length qb qo ∧ ListsAt (memOf wr B) L qb qo
theorem LHold.len {W : World} {B : Nat} {dF dS : Value} {L : List (Int × ByteArray × ByteArray × List Int)} {qa : Option Addr} {n qc : Nat} {wr : World} (h : LHold W B dF dS L qa n qc wr) : n = L.length := by
  obtain ⟨qb, qo, ⟨_, ao, cap, e, _⟩, _⟩ := h.at_
  injection e
theorem memOf_upd {F : Nat → Prop} {w w' : World} {B : Nat} (hu : Upd F w w') (hF : ∀ k, F k → k = B) {a : Addr} {v : Value} (h : memOf w B a = some v) : memOf w' B a = some v := by
  obtain ⟨h1, h2⟩ := memOf_some h
  exact memOf_of (hu.cell_some h1 (fun f => h2 (hF _ f))) h2
/-- what the append reads -/
theorem LHold.reads {W : World} {B : Nat} {dF dS : Value} {L : List (Int × ByteArray × ByteArray × List Int)} {qa : Option Addr} {n qc : Nat} {wr : World} (h : LHold W B dF dS L qa n qc wr) (o : Obj) :
    ∃ xs : List Value, Reads (wr.alloc o) (wr.alloc o).heap.size 4 qa n xs ∧ (∀ u ∈ xs, u.oneCell' = true) ∧ ∃ qb qo, SliceOf (.slice qa n qc) L.length qb qo ∧ ListsAt (memOf wr B) L qb qo ∧ ∀ j, j < L.length * 4 → xs[j]? = wr.cell? ⟨qb, qo + j, none⟩ := by
  obtain ⟨qb, qo, h1, h2⟩ := h.at_
  have hc : ∀ j, j < L.length * 4 → ∃ u, wr.cell? ⟨qb, qo + j, none⟩ = some u ∧ u.oneCell' = true := fun j hj => by
    obtain ⟨u, a, b⟩ := h2.cells j hj
    exact ⟨u, (memOf_some a).1, b⟩
  obtain ⟨_, xs, x1, x2, x3⟩ := reads_gen (w := wr.alloc o) (size := 4) (by decide) h1 (fun j hj => by
    obtain ⟨u, a, b⟩ := hc j hj
    exact ⟨u, (upd_box1 wr o).cell_some a (fun f => f), b⟩)
  refine ⟨xs, x1, x3, qb, qo, h1, h2, fun j hj => ?_⟩
  obtain ⟨u, a, b⟩ := hc j hj
  rw [x2 j hj, a]
  exact (upd_box1 wr o).cell_some a (fun f => f)
theorem LHold.push {W : World} {B : Nat} {dF dS : Value} {L : List (Int × ByteArray × ByteArray × List Int)} {qa : Option Addr} {n qc : Nat} {wr : World} (h : LHold W B dF dS L qa n qc wr) (hBW : W.heap.size ≤ B) (hL : L.length + 1 ≤ big)
    (id : Int) (name arg : ByteArray) (idsV : Value) (ids : List Int) (hi : IntsM (memOf wr B) idsV ids) {xs : List Value} {qb qo : Nat} (hx : SliceOf (.slice qa n qc) L.length qb qo ∧ ListsAt (memOf wr B) L qb qo ∧ ∀ j, j < L.length * 4 → xs[j]? = wr.cell? ⟨qb, qo + j, none⟩)
    {v2 : Value} {w2 : World} (g1 : w2.ownsRow (B + 1) 50 4 v2 (1 + n) ([.int .i64 id, .string name, .string arg, idsV] ++ xs)) {lit : Obj} (g2 : (wr.alloc lit).grownBy w2 (some wr.heap.size)) :
    ∃ va vc, v2 = .slice va (1 + n) vc ∧ w2.heap[B]? = some (.cells #[dF, .slice qa n qc, dS] 27 (0, 0)) ∧ Upd (fun k => k = B) wr (w2.setCell ⟨B, 1, none⟩ v2) ∧ LHold W B dF dS ((id, name, arg, ids) :: L) va (1 + n) vc (w2.setCell ⟨B, 1, none⟩ v2) := by
  have hn := h.len
  have hu2 : Upd (fun _ => False) wr w2 := (upd_box1 wr lit).grown g2 (fun k e => .inr (by injection e with e; omega))
  have hb2 := (hu2.block _ (blk_lt h.blk) (fun f => f)).trans h.blk
  have hu3 : Upd (fun k => k = B) wr (w2.setCell ⟨B, 1, none⟩ v2) := Upd.setCell (F := fun k => k = B) (hu2.mono (fun _ f => f.elim)) (p := ⟨B, 1, none⟩) (.inl rfl) v2
  have hrow := ownsRow_upd g1 ((Upd.refl (fun j => j = B) w2).setCell (p := ⟨B, 1, none⟩) (.inl rfl) v2) (fun j hj e => by have := (World.ownsRow.lt g1 j hj).1; omega)
  rcases g1.2 with ⟨_, h0⟩ | ⟨g, cap, cur, hv, hgB, _, hcap, _, _, _⟩
  · omega
  refine ⟨_, cap, hv, hb2, hu3, ?_, ?_, ?_⟩
  · exact (h.upd.trans hu2 (fun _ f => f.elim)).setCell (.inr hBW) _
  · rw [heap_setCell_same w2 B 1 _ _ v2 hb2, hv]; rfl
  · have hcell : ∀ j u, ([.int .i64 id, .string name, .string arg, idsV] ++ xs)[j]? = some u → memOf (w2.setCell ⟨B, 1, none⟩ v2) B ⟨g, 0 + j, none⟩ = some u := fun j u hj => by
      have := World.ownsRow.cells hrow (g := g) (by rw [hv]; rfl) j u hj
      rw [Addr.add_lit] at this
      exact memOf_of this (by show g ≠ B; omega)
    obtain ⟨x1, x2, x3⟩ := hx
    refine ⟨g, 0, ⟨by simp only [List.length_cons]; omega, _, cap, by simp only [List.length_cons]; rw [hn, Nat.add_comm], by simp only [List.length_cons]; omega, fun _ => rfl⟩, ?_⟩
    have hm : ∀ a v, memOf wr B a = some v → memOf (w2.setCell ⟨B, 1, none⟩ v2) B a = some v := fun a v hv => memOf_upd hu3 (fun _ e => e) hv
    unfold ListsAt
    refine ⟨⟨hcell 0 _ rfl, hcell 1 _ rfl, hcell 2 _ rfl, _, hcell 3 _ rfl, hi.mono hm⟩, ?_⟩
    refine (x2.mono hm).move (fun j hj => ?_)
    obtain ⟨u, h1, _⟩ := x2.cells j hj
    rw [hm _ _ h1]
    have := hcell (4 + j) u (by rw [List.getElem?_append_right (by simp)]; simp only [List.length_cons, List.length_nil]; rw [show 4 + j - (0 + 1 + 1 + 1 + 1) = j by omega, x3 j hj, (memOf_some h1).1])
    rwa [← Nat.add_assoc] at this
theorem LHold.dat {W : World} {B : Nat} {dF dS dL : Value} {d : Dat} {L : List (Int × ByteArray × ByteArray × List Int)} {qa : Option Addr} {n qc : Nat} {wr : World} (h : LHold W B dF dS L qa n qc wr) (hd : DatAt (fun a => W.cell? a) d dF dL dS) :
    DatAt (fun a => wr.cell? a) { d with lists := L } dF (.slice qa n qc) dS := by
  obtain ⟨hf0, _, hs0⟩ := hd.mono (fun _ _ h' => h.upd.cell_some h' (fun f => f))
  obtain ⟨qb, qo, h1, h2⟩ := h.at_
  exact ⟨hf0, ⟨qb, qo, h1, h2.mono (fun _ _ h' => (memOf_some h').1)⟩, hs0⟩
theorem LHold.start {W : World} {dF dS : Value} {L : List (Int × ByteArray × ByteArray × List Int)} {qa : Option Addr} {n qc : Nat} {wr : World} (hu : Upd (fun _ => False) W wr) (hb : wr.heap[W.heap.size]? = some (.cells #[dF, .slice qa n qc, dS] 27 (0, 0)))
    {qb qo : Nat} (h1 : SliceOf (.slice qa n qc) L.length qb qo) (h2 : ListsAt (fun a => W.cell? a) L qb qo) : LHold W W.heap.size dF dS L qa n qc wr :=
  ⟨hu, hb, qb, qo, h1, h2.mono (fun _ _ h => mem_later hu (Nat.le_refl _) h)⟩
theorem LHold.keep {W : World} {B : Nat} {dF dS : Value} {L : List (Int × ByteArray × ByteArray × List Int)} {qa : Option Addr} {n qc : Nat} {wr w : World} (h : LHold W B dF dS L qa n qc wr) (hu : Upd (fun _ => False) wr w) : LHold W B dF dS L qa n qc w := by
  obtain ⟨qb, qo, h1, h2⟩ := h.at_
  exact ⟨h.upd.trans hu (fun _ f => f.elim), (hu.block _ (blk_lt h.blk) (fun f => f)).trans h.blk, qb, qo, h1, h2.mono (fun _ _ h => memOf_upd hu (fun _ f => f.elim) h)⟩
theorem LHold.cells {W : World} {B : Nat} {dF dS : Value} {L : List (Int × ByteArray × ByteArray × List Int)} {qa : Option Addr} {n qc : Nat} {wr : World} (h : LHold W B dF dS L qa n qc wr) :
    wr.cell? ⟨B, 0, none⟩ = some dF ∧ wr.cell? ⟨B, 1, none⟩ = some (.slice qa n qc) ∧ wr.cell? ⟨B, 2, none⟩ = some dS ∧ wr.frozen? ⟨B, 1, none⟩ = false ∧ B < wr.heap.size :=
  ⟨blk_cell h.blk 0, blk_cell h.blk 1, blk_cell h.blk 2, blk_free h.blk 1, blk_lt h.blk⟩
theorem run_hid {W w : World} {R : Nat} {dF dL dS : Value} {d : Dat} (hu : Upd (fun _ => False) W w) (hd : DatAt (fun a => W.cell? a) d dF dL dS) (ht : Tab W) (h2 : 2 < W.heap.size)
    (hR : w.heap[R]? = some (.cells #[dF, dL, dS, .slice none 0 0] 37 (0, 0))) (hRW : W.heap.size ≤ R) (l : List Node) (v : Value) (b o : Nat) (hl : SliceOf v l.length b o) (hn : NodesAt (fun a => W.cell? a) l b o) (id : Int) :
    Calls Tryd.prog 16 #[v, .iface 29 (.pointer (some ⟨R, 0, none⟩)), .int .i64 id] w fun e w' => ∃ t f, e = .returned (.tuple #[.string t, .int .i64 f]) ∧ t.size ≤ 8192 ∧ Hid (t = bs (runF (recOps d) l [] id).1.1 ∧ f = (runF (recOps d) l [] id).1.2 ∧ Upd (fun _ => False) W w') := by
  refine (run_arg hu hd ht h2 hR hRW l v b o hl hn id).mono ?_
  rintro e w' ⟨rfl, hu2⟩
  exact ⟨_, _, rfl, by rw [bs_size]; exact (okay_run _ _ _ _).1, Lib.hid ⟨rfl, rfl, hu2⟩⟩
end Go.Proofs.YtlkaikopjjmneaaDoor

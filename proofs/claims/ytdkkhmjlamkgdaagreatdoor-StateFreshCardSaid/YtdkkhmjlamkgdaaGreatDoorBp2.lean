/-
  WHAT IS PROVED HERE: 20 texts joined, each with its own head: what the walks of the program give. Conditions: each at its place.
-/
import Derived.Test.YtdkkhmjlamkgdaaGreatDoorBp1
import Derived.Laws.Rows
import Derived.Laws.MakeOwn
import Derived.Laws.CopyOwn
import Derived.Great.BuildSlice
import Derived.Deep.WholeRow
import Derived.Deep.MidRow
import Derived.Deep.QuietTactic
import Derived.BigQuiet
import Derived.Deep.Cut
import Derived.StillTailTactics
import Derived.Ground.Names2Prog
import Derived.Ground.SlgmProg
import Derived.Test.YtdkkhmjlamkgdaaGreatDoorProg
import Derived.Shelf.Strings.Builder1
import Derived.Shelf.Strings.Builder2
import Derived.Shelf.Strings.OnBuilder
import Derived.Shelf.Strings.Trim
import Derived.Shelf.Strings.BuilderK
import Derived.Shelf.Strconv.Itoa3
import Derived.Shelf.Slices.Turned
import Derived.Shelf.Slices.Equal
import Derived.Shelf.Slices.Empties2
import Derived.Shelf.SlGeneric
import Derived.Shelf.SlIterI.Nil
import Derived.Shelf.SlIter.Nil
import Derived.Shelf.SortM.Plain
import Derived.Shelf.SortM.SortNone
import Derived.Shelf.Spec.SlicesInsert
import Derived.Shelf.Spec.SlicesInsertGrow
import Derived.Ground.GgzProg
import Derived.Lib.SlKeysI
import Derived.ControlIn
import Derived.Scope
import Derived.RangeFuncNested
import Derived.RangeFuncBound
import Derived.RangeFuncCalls
import Derived.RangeFuncLeaves
import Derived.Shelf.Abstract
import Derived.Shelf.RegionOpen
import Derived.OwnWalkIn
import Derived.TacticsInMore
import Derived.LoopNIn
import Derived.LoopIn
import Derived.RangeFuncBox
import Derived.Maps.AppendAt
import Derived.Lib.Join
namespace Go.Proofs.YtdkkhmjlamkgdaaGreatDoor
open Go.RowKit Mg Go.Shelf

theorem fct_size : (Tryz.prog.info? 50).map (·.size) = some 23 := by kernel_rfl
theorem fct_under : ∃ fs, Tryz.prog.underlying 50 = some (.struct fs) := ⟨_, Tryz.underlying50⟩
section
variable {ops : Array Oper} {rest : List Oper} {o : Oper} {a : Act} {w : World} {Q : Exit → Act → World → Prop}
theorem at_fstore (x y : Operand) (_ : o.op = .store 50 x y) (h : wpList Tryz.prog ops Q (o :: rest) a w) : wpList Tryz.prog ops Q (o :: rest) a w := h
theorem at_fload (x : Operand) (_ : o.op = .load 50 x) (h : wpList Tryz.prog ops Q (o :: rest) a w) : wpList Tryz.prog ops Q (o :: rest) a w := h
theorem wpList_fct_new (hgd : o.guard = none) (x y : Operand) (ho : o.op = .store 50 x y) (hd : o.dst = none) (w0 : World) (old cells : Array Value) (hx : a.eval x = .pointer (some ⟨w0.heap.size, 0, none⟩)) (hy : a.eval y = .agg cells)
    (hold : old.size = 23) (hc : cells.size = 23) (h1 : cells.all (·.oneCell') = true)
    (h : wpList Tryz.prog ops Q rest a (w0.alloc (.cells cells 50))) : wpList Tryz.prog ops Q (o :: rest) a (w0.alloc (.cells old 50)) :=
  wpList_store_rowTo hgd 50 x y ho hd w0.heap.size cells hx hy 50 old (heap_alloc_last w0 _) (by rw [fct_size, hc]) (by omega) h1 (by rw [World.setRow_alloc_new]; exact h)
theorem wpList_fct_load (hgd : o.guard = none) (x : Operand) (ho : o.op = .load 50 x) (g : Nat) (hx : a.eval x = .pointer (some ⟨g, 0, none⟩)) (cs : Array Value) (hg : w.heap[g]? = some (.cells cs 50 (0, 0))) (hs : cs.size = 23)
    (h : wpList Tryz.prog ops Q rest (a.put o.dst (.agg cs)) w) : wpList Tryz.prog ops Q (o :: rest) a w := by
  obtain ⟨fs, hu⟩ := fct_under
  exact wpList_load_row hgd 50 x ho g hx 50 cs (0, 0) _ hg hu rfl (by rw [fct_size, hs]) h
end
theorem hlt {W : World} {g : Nat} {o : Obj} (h : W.heap[g]? = some o) : g < W.heap.size := (Array.getElem?_eq_some_iff.1 h).1
theorem sees_bel {W W' : World} (hb : Below W.heap.size W W') : ∀ a u, W.cell? a = some u → W'.cell? a = some u := fun a _ h => (hb.cell (World.block_lt_of_cell? W a h)).trans h
theorem heap_new1 (w : World) (A B : Obj) : ((w.alloc A).alloc B).heap[w.heap.size]? = some A := (Below.heap_alloc _ _ _ (by simp)).trans (World.alloc_heap_new w _)
theorem exec_fct_load {o : Oper} {a : Act} {W : World} {g : Nat} (x : Operand) (ho : o.op = .load 50 x) (hx : a.eval x = .pointer (some ⟨g, 0, none⟩)) {cs : Array Value} (hg : W.heap[g]? = some (.cells cs 50 (0, 0))) (hs : cs.size = 23) :
    (execOp a.eval o).run Tryz.prog W = .ok (.value (.agg cs)) W := by
  obtain ⟨fs, hu⟩ := fct_under
  unfold execOp
  simp only [ho, hx, Instr.loadAt, Instr.sureAddr, Sem.run_bind, Sem.run_pure, Result.andThen_ok, run_loadVar_row (P := Tryz.prog) W g 50 50 cs (0, 0) _ hg hu rfl (by rw [fct_size, hs])]
abbrev zeroFct : Array Value := #[.int .i64 0, .int .i64 0, .int .i64 0, .int .i64 0, .string .empty, .int .i64 0, .int .i64 0, .string .empty, .string .empty, .slice none 0 0, .slice none 0 0, .int .i64 0, .slice none 0 0, .int .i64 0, .int .i64 0, .int .i64 0, .int .i64 0, .int .i64 0, .string .empty, .string .empty, .int .i64 0, .int .i64 0, .int .i64 0]
theorem fct_one (f : Fct) {ta tl tc ba bl bc aa al ac} : (fctCells f (.slice ta tl tc) (.slice ba bl bc) (.slice aa al ac)).all (·.oneCell') = true := by simp [Value.oneCell']

structure FctE where
  f : Fct
  ta : Option Addr
  tc : Nat
  ba : Option Addr
  bc : Nat
  aa : Option Addr
  ac : Nat
abbrev FctE.tv (e : FctE) : Value := .slice e.ta e.f.topics.length e.tc
abbrev FctE.bv (e : FctE) : Value := .slice e.ba e.f.blocks.length e.bc
abbrev FctE.av (e : FctE) : Value := .slice e.aa e.f.lab.after.length e.ac
def FctE.cells (e : FctE) : Array Value := fctCells e.f e.tv e.bv e.av
theorem FctE.cells_eq (e : FctE) : e.cells = fctCells e.f e.tv e.bv e.av := rfl
theorem FctE.size (e : FctE) : e.cells.size = 23 := rfl
theorem FctE.one (e : FctE) : e.cells.all (·.oneCell') = true := fct_one e.f
structure FctE.ok (mem : Addr → Option Value) (e : FctE) : Prop where
  fok : FOK e.f
  parts : Parts mem e.f e.tv e.bv e.av
theorem FctE.ok.mono {mem mem' : Addr → Option Value} {e : FctE} (h : e.ok mem) (hm : ∀ a u, mem a = some u → mem' a = some u) : e.ok mem' := ⟨h.fok, h.parts.mono hm⟩
def FctE.at (e : FctE) (M : Addr → Option Value) (b o : Nat) : Prop := ∀ j u, e.cells[j]? = some u → M ⟨b, o + j, none⟩ = some u
def EsM (mem : Addr → Option Value) (v : Value) (es : List FctE) : Prop := ∃ b o, SliceOf v es.length b o ∧ ∀ j (h : j < es.length), es[j].ok mem ∧ es[j].at mem b (o + j * 23)
theorem EsM.open_ {mem : Addr → Option Value} {v : Value} {es : List FctE} (h : EsM mem v es) : ∃ ao cap b o, v = .slice ao es.length cap ∧ es.length ≤ maxLen ∧ (0 < es.length → ao = some ⟨b, o, none⟩) ∧ ∀ j (h : j < es.length), es[j].ok mem ∧ es[j].at mem b (o + j * 23) := by
  obtain ⟨b, o, ⟨_, ao, cap, h1, h2, h3, h4⟩, h5⟩ := h
  exact ⟨ao, cap, b, o, h1, by omega, h4, h5⟩
theorem EsM.mono {mem mem' : Addr → Option Value} {v : Value} {es : List FctE} (h : EsM mem v es) (hm : ∀ a u, mem a = some u → mem' a = some u) : EsM mem' v es := by
  obtain ⟨b, o, h1, h2⟩ := h
  exact ⟨b, o, h1, fun j hj => ⟨(h2 j hj).1.mono hm, fun i u hi => hm _ _ ((h2 j hj).2 i u hi)⟩⟩
section
variable {F : Fence} {n : Nat} {ops : Array Oper} {rest : List Oper} {o : Oper} {a : Act} {W : World} {Q : Exit → Act → World → Prop} {K : Act → World → Prop}
theorem exec_fct_mid {b i : Nat} {e : FctE} (x : Operand) (ho : o.op = .load 50 x) (hx : a.eval x = .pointer (some ⟨b, i, none⟩)) (hc : e.at (fun p => W.cell? p) b i) : (execOp a.eval o).run Tryz.prog W = .ok (.value (.agg e.cells)) W := by
  obtain ⟨fs, hu⟩ := fct_under
  have hl := run_loadVar_mid (P := Tryz.prog) W b i 50 e.cells.toList _ (fun j u hj => hc j u (by simpa using hj)) hu rfl (by rw [fct_size]; rfl)
  unfold execOp
  simp only [ho, hx, Instr.loadAt, Instr.sureAddr, Sem.run_bind, Sem.run_pure, Result.andThen_ok, hl, Array.toArray_toList]
end
def rowVals (es : List FctE) : List Value := es.flatMap fun e => e.cells.toList
def FRow (w : World) (B : Nat) (v : Value) (es : List FctE) : Prop := w.ownsRow B 50 23 v es.length (rowVals es)
theorem FRow.nil (w : World) (B : Nat) : FRow w B (.slice none 0 0) [] := World.ownsRow_nil _ _ _ _
theorem FRow.sl {w : World} {B : Nat} {v : Value} {es : List FctE} (h : FRow w B v es) : ∃ ao n cap, v = .slice ao n cap := by
  rcases h.2 with ⟨rfl, _⟩ | ⟨g, cap, cur, rfl, _⟩
  · exact ⟨_, _, _, rfl⟩
  · exact ⟨_, _, _, rfl⟩
theorem FRow.ge {w : World} {B : Nat} {v : Value} {es : List FctE} (h : FRow w B v es) : ∀ k, v.ownBlock = some k → B ≤ k ∧ k < w.heap.size := World.ownsRow.lt h
theorem FRow.kept {w w' : World} {B : Nat} {v : Value} {es : List FctE} {F : Nat → Prop} (h : FRow w B v es) (hu : Upd F w w') (hn : ∀ k, v.ownBlock = some k → ¬ F k) : FRow w' B v es := by
  refine ⟨h.1, ?_⟩
  rcases h.2 with hq | ⟨g, cap, cur, rfl, hb, hgg, rest⟩
  · exact .inl hq
  · exact .inr ⟨g, cap, cur, rfl, hb, (hu.block g (Array.getElem?_eq_some_iff.1 hgg).1 (hn g rfl)).trans hgg, rest⟩
theorem FRow.same {w w' : World} {B : Nat} {v : Value} {es : List FctE} (h : FRow w B v es) (he : ∀ k, v.ownBlock = some k → w'.heap[k]? = w.heap[k]?) : FRow w' B v es := by
  refine ⟨h.1, ?_⟩
  rcases h.2 with hq | ⟨g, cap, cur, rfl, hb, hgg, rest⟩
  · exact .inl hq
  · exact .inr ⟨g, cap, cur, rfl, hb, (he g rfl).trans hgg, rest⟩
theorem FRow.blk {w : World} {B : Nat} {v : Value} {es : List FctE} (h : FRow w B v es) : ∀ k, v.ownBlock = some k → ∃ cs, w.heap[k]? = some (.cells cs 50 (0, 0)) := fun k hk => by
  rcases h.2 with ⟨rfl, _⟩ | ⟨g, cap, cur, rfl, _, hgg, _⟩
  · cases hk
  · injection hk with hk
    subst hk
    exact ⟨_, hgg⟩
theorem rowVals_get : ∀ (es : List FctE) (j t : Nat) (hj : j < es.length), t < 23 → (rowVals es)[j * 23 + t]? = es[j].cells[t]?
  | [], _, _, hj, _ => by simp at hj
  | e :: es, 0, t, _, ht => by
    unfold rowVals
    rw [List.flatMap_cons, List.getElem?_append_left (by have := e.size; rw [Array.length_toList]; omega)]
    simp
  | e :: es, j + 1, t, hj, ht => by
    unfold rowVals
    have hs : e.cells.toList.length = 23 := by rw [Array.length_toList]; exact e.size
    rw [List.flatMap_cons, List.getElem?_append_right (by omega), hs, show (j + 1) * 23 + t - 23 = j * 23 + t by omega]
    exact rowVals_get es j t (by simpa using hj) ht
theorem rowVals_snoc (es : List FctE) (x : FctE) : rowVals (es ++ [x]) = rowVals es ++ x.cells.toList := by unfold rowVals; rw [List.flatMap_append]; simp
theorem FRow.es {w : World} {B : Nat} {v : Value} {es : List FctE} (h : FRow w B v es) (hok : ∀ e ∈ es, e.ok (fun a => w.cell? a)) : EsM (fun a => w.cell? a) v es := by
  rcases h.2 with ⟨rfl, hz⟩ | ⟨g, cap, cur, rfl, hb, hgg, hn, hc, hs, ht⟩
  · have : es = [] := List.eq_nil_of_length_eq_zero hz
    subst this
    exact ⟨0, 0, sliceNil, fun j hj => absurd hj (by simp)⟩
  · refine ⟨g, 0, ⟨Nat.le_trans hn hc, some ⟨g, 0, none⟩, cap, rfl, hn, hc, fun _ => rfl⟩, fun j hj => ⟨hok _ (List.getElem_mem hj), fun i u hi => ?_⟩⟩
    have hi23 : i < 23 := by
      have := (Array.getElem?_eq_some_iff.1 hi).1
      rw [FctE.size] at this
      exact this
    dsimp only
    rw [blk_cell hgg]
    have h5 : (cur.toList.take (es.length * 23))[j * 23 + i]? = (rowVals es)[j * 23 + i]? := by rw [ht]
    rw [List.getElem?_take_of_lt (by omega), rowVals_get es j i hj hi23, hi] at h5
    rw [show 0 + j * 23 + i = j * 23 + i by omega, ← Array.getElem?_toList]
    exact h5
theorem fct_info : (Tryz.prog.info? 50).map (fun i => (i.zero, i.size, i.bytes)) = some (some (.agg #[.int .i64 0, .int .i64 0, .int .i64 0, .int .i64 0, .string .empty, .int .i64 0, .int .i64 0, .string .empty, .string .empty, .slice none 0 0, .slice none 0 0, .int .i64 0, .slice none 0 0, .int .i64 0, .int .i64 0, .int .i64 0, .int .i64 0, .int .i64 0, .string .empty, .string .empty, .int .i64 0, .int .i64 0, .int .i64 0]), 23, 272) := by kernel_rfl
theorem run_app_fct {w : World} {B : Nat} {v : Value} {es : List FctE} (h : FRow w B v es) (x : FctE) (g c : Nat) (hc : w.heap[g]? = some (.cells x.cells 50 (0, 0))) (hlen : es.length ≤ 100000) (hB : B ≤ w.heap.size) (ty : Nat) :
    ∃ v' w', (Builtin.append_ #[22, 22] ty #[v, .slice (some ⟨g, 0, none⟩) 1 c]).run Tryz.prog w = .ok v' w' ∧ FRow w' B v' (es ++ [x]) ∧ w.grownBy w' v.ownBlock ∧ (v'.ownBlock = v.ownBlock ∨ v'.ownBlock = some w.heap.size) := by
  obtain ⟨i0, hi0, hz0, hz1, hz2⟩ := info_parts fct_info
  obtain ⟨v', w', hr, g2, g3, _, g5⟩ := run_append_own_at (P := Tryz.prog) w B 22 ty 50 i0 _ 23 272 Tryz.underlying22 hi0 hz0 hz1 hz2 rfl (by decide) v es.length (rowVals es) h ⟨g, 0, none⟩ 1 c x.cells.toList (by rw [Array.length_toList, FctE.size])
    (fun j u hj => by
      have e : (⟨g, 0, none⟩ : Addr).add j = ⟨g, j, none⟩ := by unfold Addr.add; by_cases h0 : j = 0 <;> simp [h0]
      rw [e, blk_cell hc]
      rw [← hj]; simp)
    (fun u hu => (Array.all_eq_true_iff_forall_mem.1 x.one) u (by simpa using hu)) (by unfold maxLen; omega) (by omega) hB
  exact ⟨v', w', hr, by unfold FRow; rw [List.length_append, rowVals_snoc]; exact g2, g3, g5⟩
theorem fct_fill (e : FctE) (z : Value) (hz : z = .agg #[.int .i64 0, .int .i64 0, .int .i64 0, .int .i64 0, .string .empty, .int .i64 0, .int .i64 0, .string .empty, .string .empty, .slice none 0 0, .slice none 0 0, .int .i64 0, .slice none 0 0, .int .i64 0, .int .i64 0, .int .i64 0, .int .i64 0, .int .i64 0, .string .empty, .string .empty, .int .i64 0, .int .i64 0, .int .i64 0]) :
    Instr.fill (fun i => some (i * 23, 23)) ((Array.range (1 * 23)).map (z.cells[· % z.cells.size]!)) [(0, .agg e.cells)] = some e.cells := by
  subst hz
  obtain ⟨⟨x0, x1, x2, x3, x4, x5, x6, x7, x8, x9, x10, ⟨y1, y2, y3, y4⟩, x12, x13, x14, x15, x16, x17, x18, x19⟩, ta, tc, ba, bc, aa, ac⟩ := e
  kernel_rfl
section
variable {o : Oper} {a : Act} {W : World} {K : Act → World → Prop} {Q : Exit → Act → World → Prop}
theorem wp_fct_slice (parts : Array (Nat × Operand)) (ho : o.op = .buildSlice 22 1 parts) (e : FctE) (hf : (parts.map fun (i, x) => (i, a.eval x)).toList = [(0, .agg e.cells)])
    (h : K (a.put o.dst (.slice (some ⟨W.heap.size, 0, none⟩) 1 1)) (W.alloc (.cells e.cells 50))) : o.wp Tryz.prog a W K Q := by
  obtain ⟨i0, hi0, hz0, hz1, hz2⟩ := info_parts fct_info
  refine wp_buildSlice 22 50 1 parts ho e.cells i0 _ Tryz.underlying22 hi0 hz0 (by rw [hz1]; decide) (by rw [hz1]; decide) ?_ h
  rw [hf, hz1]
  exact fct_fill e _ rfl
theorem wp_app_fct (s x : Operand) (ho : o.op = .call { callee := .builtin .append, args := #[s, x], argTypes := #[22, 22] })
    (B : Nat) (v : Value) (es : List FctE) (hs : a.eval s = v) (hown : FRow W B v es) (e : FctE) (g c : Nat) (hx : a.eval x = .slice (some ⟨g, 0, none⟩) 1 c) (hc : W.heap[g]? = some (.cells e.cells 50 (0, 0))) (hlen : es.length ≤ 100000) (hB : B ≤ W.heap.size)
    (h : ∀ v' w', FRow w' B v' (es ++ [e]) → W.grownBy w' v.ownBlock → (v'.ownBlock = v.ownBlock ∨ v'.ownBlock = some W.heap.size) → K (a.put o.dst v') w') : o.wp Tryz.prog a W K Q := by
  obtain ⟨v', w', hr, h2, h3, h4⟩ := run_app_fct hown e g c hc hlen hB o.type
  unfold Oper.wp execOp
  simp only [ho, resolve, invoke, builtin, Sem.run_bind, Sem.run_pure, Result.andThen_ok, List.map_toArray, List.map_cons, List.map_nil, hs, hx, hr]
  exact h v' w' h2 h3 h4
end
theorem blk_set {W : World} {g j : Nat} {cs : Array Value} {t : TypeId} {u : Value} (h : W.heap[g]? = some (.cells cs t (0, 0))) : (W.setCell ⟨g, j, none⟩ u).heap[g]? = some (.cells (cs.setIfInBounds j u) t (0, 0)) := by
  rw [setCell_eq_setRow W g j cs t (0, 0) u h]
  exact setRow_heap _ _ _ _ _ _ h
theorem upd_cell (W : World) (b j : Nat) (u : Value) : Upd (fun k => k = b) W (W.setCell ⟨b, j, none⟩ u) := Upd.setCell (F := fun k => k = b) (p := ⟨b, j, none⟩) (Upd.refl (fun k => k = b) W) (.inl rfl) u
theorem memFr_below {W W' : World} {F : Nat → Prop} (hb : Below W.heap.size W W') : ∀ a u, memFr W F a = some u → memFr W' F a = some u := fun a u h => by
  obtain ⟨h1, h2, h3⟩ := memFr_lt a u h
  exact memFr_of ((hb.cell h1).trans (memFr_sees W F a u h)) ((hb.frozen h1).trans h3) h2
section
variable {ops : Array Oper} {rest : List Oper} {o : Oper} {a : Act} {w : World} {Q : Exit → Act → World → Prop}
theorem wpList_fct_mid (hgd : o.guard = none) (x : Operand) (ho : o.op = .load 50 x) {b i : Nat} {e : FctE} (hx : a.eval x = .pointer (some ⟨b, i, none⟩)) (hc : e.at (fun p => w.cell? p) b i)
    (h : wpList Tryz.prog ops Q rest (a.put o.dst (.agg e.cells)) w) : wpList Tryz.prog ops Q (o :: rest) a w := by
  refine wpList_plain hgd fun K hK => ?_
  unfold Oper.wp
  rw [exec_fct_mid x ho hx hc]
  exact hK _ _ h
theorem at_fslice (parts : Array (Nat × Operand)) (_ : o.op = .buildSlice 22 1 parts) (h : wpList Tryz.prog ops Q (o :: rest) a w) : wpList Tryz.prog ops Q (o :: rest) a w := h
theorem wpList_fct_slice (hgd : o.guard = none) (parts : Array (Nat × Operand)) (ho : o.op = .buildSlice 22 1 parts) (e : FctE) (hf : (parts.map fun (i, x) => (i, a.eval x)).toList = [(0, .agg e.cells)])
    (h : wpList Tryz.prog ops Q rest (a.put o.dst (.slice (some ⟨w.heap.size, 0, none⟩) 1 1)) (w.alloc (.cells e.cells 50))) : wpList Tryz.prog ops Q (o :: rest) a w :=
  wpList_plain hgd fun _ hK => wp_fct_slice parts ho e hf (hK _ _ h)
theorem wpList_app_fct (hgd : o.guard = none) (s x : Operand) (ho : o.op = .call { callee := .builtin .append, args := #[s, x], argTypes := #[22, 22] })
    (B : Nat) (v : Value) (es : List FctE) (hs : a.eval s = v) (hown : FRow w B v es) (e : FctE) (g c : Nat) (hx : a.eval x = .slice (some ⟨g, 0, none⟩) 1 c) (hc : w.heap[g]? = some (.cells e.cells 50 (0, 0))) (hlen : es.length ≤ 100000) (hB : B ≤ w.heap.size)
    (h : ∀ v' w', FRow w' B v' (es ++ [e]) → w.grownBy w' v.ownBlock → (v'.ownBlock = v.ownBlock ∨ v'.ownBlock = some w.heap.size) → wpList Tryz.prog ops Q rest (a.put o.dst v') w') : wpList Tryz.prog ops Q (o :: rest) a w :=
  wpList_plain hgd fun _ hK => wp_app_fct s x ho B v es hs hown e g c hx hc hlen hB (fun v' w' h1 h2 h3 => hK _ _ (h v' w' h1 h2 h3))
end
theorem FRow.weaken {w : World} {B B' : Nat} {v : Value} {es : List FctE} (h : FRow w B v es) (hB : B' ≤ B) : FRow w B' v es := by
  refine ⟨h.1, ?_⟩
  rcases h.2 with hq | ⟨g, cap, cur, rfl, hb, rest⟩
  · exact .inl hq
  · exact .inr ⟨g, cap, cur, rfl, by omega, rest⟩
theorem FRow.shape {w : World} {B : Nat} {v : Value} {es : List FctE} (h : FRow w B v es) : ∃ ao cap, v = .slice ao es.length cap := by
  rcases h.2 with ⟨rfl, hz⟩ | ⟨g, cap, cur, rfl, _⟩
  · exact ⟨none, 0, by rw [hz]⟩
  · exact ⟨_, _, rfl⟩
theorem cells_lt (W : World) : ∀ a u, (fun a => W.cell? a) a = some u → a.block < W.heap.size := fun _ _ h => World.block_lt_of_cell? W _ h
def plainE (f : Fct) : FctE := ⟨f, none, 0, none, 0, none, 0⟩
section
variable {ops : Array Oper} {rest : List Oper} {o : Oper} {a : Act} {w : World} {Q : Exit → Act → World → Prop} {K : Act → World → Prop}
end
end Go.Proofs.YtdkkhmjlamkgdaaGreatDoor
namespace Go.Proofs.YtdkkhmjlamkgdaaGreatDoor
open Go.RowKit Mg Go.Shelf Go.Maps

abbrev zeroSty : Value := .agg #[.int .i64 0, .string .empty, .slice none 0 0, .slice none 0 0, .int .i64 0, .slice none 0 0, .bool false, .bool false]
abbrev zeroEdn : Value := .agg #[.string .empty, .int .i64 0, .string .empty, .slice none 0 0, .int .i64 0]
abbrev zeroCorr : Value := .agg #[.string .empty, .int .i64 0, .int .i64 0, .string .empty, .int .i64 0]
abbrev zeroTpl : Value := .agg #[.string .empty, .string .empty]
abbrev zeroBlk : Value := .agg #[.int .i64 0, .int .i64 0, .string .empty, .int .i64 0, .int .i64 0, .int .i64 0, .slice none 0 0, .int .i64 0, .int .i64 0]
theorem E_sty : ElemT Tryz.prog 24 34 zeroSty 8 112 := ⟨Tryz.underlying24, by kernel_rfl, rfl, by decide, by decide, by decide⟩
theorem E_edn : ElemT Tryz.prog 31 39 zeroEdn 5 72 := ⟨Tryz.underlying31, by kernel_rfl, rfl, by decide, by decide, by decide⟩
theorem E_corr : ElemT Tryz.prog 32 69 zeroCorr 5 56 := ⟨Tryz.underlying32, by kernel_rfl, rfl, by decide, by decide, by decide⟩
theorem E_tpl : ElemT Tryz.prog 25 52 zeroTpl 2 32 := ⟨Tryz.underlying25, by kernel_rfl, rfl, by decide, by decide, by decide⟩
theorem E_blk : ElemT Tryz.prog 37 58 zeroBlk 9 96 := ⟨Tryz.underlying37, by kernel_rfl, rfl, by decide, by decide, by decide⟩
theorem E_str : ElemT Tryz.prog 30 9 (.string .empty) 1 16 := ⟨Tryz.underlying30, by kernel_rfl, rfl, by decide, by decide, by decide⟩
theorem E_pst : ElemT Tryz.prog 101 103 (.pointer none) 1 8 := ⟨Tryz.underlying101, by kernel_rfl, rfl, by decide, by decide, by decide⟩
theorem E_ped : ElemT Tryz.prog 133 135 (.pointer none) 1 8 := ⟨Tryz.underlying133, by kernel_rfl, rfl, by decide, by decide, by decide⟩
theorem E_fct : ElemT Tryz.prog 22 50 (.agg zeroFct) 23 272 := ⟨Tryz.underlying22, by kernel_rfl, rfl, by decide, by decide, by decide⟩
theorem S_sty : StructT Tryz.prog 34 8 := ⟨⟨_, Tryz.underlying34⟩, by kernel_rfl, by decide⟩
theorem S_edn : StructT Tryz.prog 39 5 := ⟨⟨_, Tryz.underlying39⟩, by kernel_rfl, by decide⟩
theorem S_corr : StructT Tryz.prog 69 5 := ⟨⟨_, Tryz.underlying69⟩, by kernel_rfl, by decide⟩
theorem S_blk : StructT Tryz.prog 58 9 := ⟨⟨_, Tryz.underlying58⟩, by kernel_rfl, by decide⟩
theorem S_state : StructT Tryz.prog 27 2 := ⟨⟨_, Tryz.underlying27⟩, by kernel_rfl, by decide⟩
theorem zero_pst (w : World) : (zeroValue 103).run Tryz.prog w = .ok (.pointer none) w := by kernel_rfl
theorem zero_ped (w : World) : (zeroValue 135).run Tryz.prog w = .ok (.pointer none) w := by kernel_rfl
theorem zero_corrs (w : World) : (zeroValue 32).run Tryz.prog w = .ok (.slice none 0 0) w := by kernel_rfl
theorem zero_blks (w : World) : (zeroValue 37).run Tryz.prog w = .ok (.slice none 0 0) w := by kernel_rfl
theorem zero_tpl (w : World) : (zeroValue 52).run Tryz.prog w = .ok zeroTpl w := by kernel_rfl
theorem zero_eff (w : World) : (zeroValue 100).run Tryz.prog w = .ok .nilFunc w := by kernel_rfl
theorem K_int : Maps.Keyed Tryz.prog 3 := int_keyed Tryz.underlying3
theorem key_int {i : Int} (h : okI i) : keyOf Tryz.prog 3 (.int .i64 i) = some (.int .i64 i) := keyOf_int_mk Tryz.underlying3 (okI_wf h)
theorem K_str : Maps.Keyed Tryz.prog 9 := string_keyed Tryz.underlying9
theorem key_str {s : ByteArray} (h : s.size ≤ maxLen) : keyOf Tryz.prog 9 (.string s) = some (.string s.data.toList) := by simp [keyOf, Tryz.underlying9, mapKey, h]
end Go.Proofs.YtdkkhmjlamkgdaaGreatDoor
namespace Go.Proofs.YtdkkhmjlamkgdaaGreatDoor
open Go.RowKit Mg Go.Shelf Go.Maps

inductive Tag
  | fold | smap | tmap
  | story (id : Int) | emap (id : Int) | cmap (id : Int) | crow (id : Int)
  | lrow (id : Int) (lang : ByteArray) | edn (id : Int) (lang : ByteArray) | rrow (id : Int) (lang : ByteArray)
def Tag.of : Tag → Option Int
  | .fold | .smap | .tmap => none
  | .story id | .emap id | .cmap id | .crow id => some id
  | .lrow id _ | .edn id _ | .rrow id _ => some id
abbrev Own := Nat → Option Tag
def Own.put (own : Own) (k : Nat) (t : Tag) : Own := fun j => if j = k then some t else own j
def Own.Le (own own' : Own) : Prop := ∀ k t, own k = some t → own' k = some t
def Own.Ok (own : Own) (B : Nat) (w : World) : Prop := ∀ k t, own k = some t → B ≤ k ∧ k < w.heap.size
def Own.New (own own' : Own) (w : World) : Prop := ∀ k, k < w.heap.size → own k = none → own' k = none
theorem Own.new_refl (own : Own) (w : World) : own.New own w := fun _ _ h => h
theorem Own.New.trans {a b c : Own} {w w' : World} (h : a.New b w) (k : b.New c w') (hs : w.heap.size ≤ w'.heap.size) : a.New c w := fun i hi e => k i (Nat.lt_of_lt_of_le hi hs) (h i hi e)
theorem Own.put_new {own : Own} {w : World} {k : Nat} (hk : w.heap.size ≤ k) (t : Tag) : own.New (own.put k t) w := fun j hj e => by
  unfold Own.put
  rw [if_neg (by omega)]; exact e
theorem Own.le_refl (own : Own) : own.Le own := fun _ _ h => h
theorem Own.Le.trans {a b c : Own} (h : a.Le b) (k : b.Le c) : a.Le c := fun i t e => k i t (h i t e)
theorem Own.put_same (own : Own) (k : Nat) (t : Tag) : own.put k t k = some t := if_pos rfl
theorem Own.put_le {own : Own} {B : Nat} {w : World} (h : own.Ok B w) {k : Nat} (hk : w.heap.size ≤ k) (t : Tag) : own.Le (own.put k t) := fun j u e => by
  unfold Own.put
  have := (h j u e).2
  rw [if_neg (by omega)]; exact e
theorem Own.put_le_same {own : Own} {k : Nat} {t : Tag} (h : own k = some t) : own.Le (own.put k t) := fun j u e => by
  unfold Own.put
  by_cases hj : j = k
  · subst hj; rw [if_pos rfl, ← h]; exact e
  · rw [if_neg hj]; exact e
theorem Own.Ok.mono {own : Own} {B : Nat} {w w' : World} (h : own.Ok B w) (hs : w.heap.size ≤ w'.heap.size) : own.Ok B w' := fun k t e => ⟨(h k t e).1, Nat.lt_of_lt_of_le (h k t e).2 hs⟩
theorem Own.Ok.put {own : Own} {B : Nat} {w : World} (h : own.Ok B w) {k : Nat} (hB : B ≤ k) (hk : k < w.heap.size) (t : Tag) : (own.put k t).Ok B w := fun j u e => by
  unfold Own.put at e
  by_cases hj : j = k
  · subst hj; exact ⟨hB, hk⟩
  · rw [if_neg hj] at e; exact h j u e
theorem Own.ne {own : Own} {a b : Nat} {t u : Tag} (ha : own a = some t) (hb : own b = some u) (h : t ≠ u) : a ≠ b := fun e => h (by subst e; rw [ha] at hb; exact Option.some.inj hb)

abbrev stoCells (id : Int) (g : StG) (tv cv : Value) (em cm : Nat) : Array Value := #[.int .i64 id, .string g.author, tv, .slice none 0 0, .int .i64 (g.pub.getD 0), cv, .bool g.retr, .bool g.taken, .bool g.pub.isSome, .map (some em), .map (some cm)]
abbrev edgCells (e : EdG) (rv : Value) : Array Value := #[.string e.lang, .int .i64 e.rev, .string e.title, .slice none 0 0, .int .i64 e.changed, rv]
def EdIn (own : Own) (mem : Addr → Option Value) (B : Nat) (w : World) (id : Int) (N : Nat) (e : EdG) (p : Nat) : Prop :=
  own p = some (.edn id e.lang) ∧ EdnOK ⟨e.lang, e.rev, e.title, [], e.changed⟩ ∧ e.revs.length ≤ N ∧ ∃ rv es, w.heap[p]? = some (.cells (edgCells e rv) 138 (0, 0)) ∧ FRow w B rv es ∧ (∀ k, rv.ownBlock = some k → own k = some (.rrow id e.lang)) ∧ es.map FctE.f = e.revs ∧ ∀ x ∈ es, x.ok mem
def EmIn (own : Own) (mem : Addr → Option Value) (B : Nat) (w : World) (id : Int) (N : Nat) (eds : List EdG) (b : Nat) : Prop :=
  own b = some (.emap id) ∧ ∃ n ge, n ≤ N ∧ KMap Tryz.prog 9 w b n ge ∧ (∀ e ∈ eds, ∃ p, ge (.string e.lang) = some (.pointer (some ⟨p, 0, none⟩)) ∧ EdIn own mem B w id N e p) ∧ ∀ lang : ByteArray, lang.size ≤ maxLen → lang ∉ eds.map EdG.lang → ge (.string lang) = none
def CmIn (own : Own) (B : Nat) (w : World) (id : Int) (N : Nat) (corr : List Corr) (b : Nat) : Prop :=
  own b = some (.cmap id) ∧ ∃ n gc, n ≤ N ∧ KMap Tryz.prog 9 w b n gc ∧ ∀ lang : ByteArray, lang.size ≤ maxLen → GRow w B 69 5 ((gc (.string lang)).getD (.slice none 0 0)) ((corrLang lang corr).map corrCells) ∧ ∀ k, ((gc (.string lang)).getD (.slice none 0 0)).ownBlock = some k → own k = some (.lrow id lang)
structure StIn (own : Own) (mem : Addr → Option Value) (B : Nat) (w : World) (id : Int) (N : Nat) (g : StG) (p : Nat) : Prop where
  tag : own p = some (.story id)
  sid : okI id
  aut : g.author.size ≤ maxLen
  pub : okI (g.pub.getD 0)
  cok : ∀ c ∈ g.corr, CorrOK c
  clen : g.corr.length ≤ N
  apart : Apart g
  at_ : ∃ tv cv em cm, w.heap[p]? = some (.cells (stoCells id g tv cv em cm) 107 (0, 0)) ∧ StrsM mem tv g.topics ∧ GRow w B 69 5 cv (g.corr.map corrCells) ∧ (∀ k, cv.ownBlock = some k → own k = some (.crow id)) ∧ EmIn own mem B w id N g.eds em ∧ CmIn own B w id N g.corr cm
def Wr (own : Own) (X : Tag → Prop) (k : Nat) : Prop := ∃ t, own k = some t ∧ X t
section
variable {own own' : Own} {mem : Addr → Option Value} {B N N' : Nat} {w w' : World} {X : Tag → Prop} {id : Int}
theorem Wr.not {k : Nat} {t : Tag} (h : own k = some t) (hX : ¬ X t) : ¬ Wr own X k := fun ⟨u, e, hu⟩ => by rw [h] at e; exact hX (Option.some.inj e ▸ hu)
theorem Wr.mono {Y : Tag → Prop} (h : ∀ t, X t → Y t) {k : Nat} (hk : Wr own X k) : Wr own Y k := ⟨hk.choose, hk.choose_spec.1, h _ hk.choose_spec.2⟩
theorem keep_blk (ho : own.Ok B w) (hu : Upd (Wr own X) w w') {k : Nat} {t : Tag} (h : own k = some t) (hX : ¬ X t) : w'.heap[k]? = w.heap[k]? := hu.block k (ho k t h).2 (Wr.not h hX)
theorem EdIn.keep (ho : own.Ok B w) (hl : own.Le own') (hu : Upd (Wr own X) w w') (hN : N ≤ N') {e : EdG} {p : Nat} (h : EdIn own mem B w id N e p) (h1 : ¬ X (.edn id e.lang)) (h2 : ¬ X (.rrow id e.lang)) : EdIn own' mem B w' id N' e p := by
  obtain ⟨a1, a2, a3, rv, es, a4, a5, a6, a7, a8⟩ := h
  exact ⟨hl _ _ a1, a2, by omega, rv, es, (keep_blk ho hu a1 h1).trans a4, a5.same fun k hk => keep_blk ho hu (a6 k hk) h2, fun k hk => hl _ _ (a6 k hk), a7, a8⟩
theorem EmIn.keep (ho : own.Ok B w) (hl : own.Le own') (hu : Upd (Wr own X) w w') (hN : N ≤ N') {eds : List EdG} {b : Nat} (h : EmIn own mem B w id N eds b) (h0 : ¬ X (.emap id)) (h1 : ∀ lang, ¬ X (.edn id lang)) (h2 : ∀ lang, ¬ X (.rrow id lang)) : EmIn own' mem B w' id N' eds b := by
  obtain ⟨a1, n, ge, a2, a3, a4, a5⟩ := h
  refine ⟨hl _ _ a1, n, ge, by omega, a3.of_block (keep_blk ho hu a1 h0), fun e he => ?_, a5⟩
  obtain ⟨p, b1, b2⟩ := a4 e he
  exact ⟨p, b1, b2.keep ho hl hu hN (h1 _) (h2 _)⟩
theorem CmIn.keep (ho : own.Ok B w) (hl : own.Le own') (hu : Upd (Wr own X) w w') (hN : N ≤ N') {corr : List Corr} {b : Nat} (h : CmIn own B w id N corr b) (h0 : ¬ X (.cmap id)) (h1 : ∀ lang, ¬ X (.lrow id lang)) : CmIn own' B w' id N' corr b := by
  obtain ⟨a1, n, gc, a2, a3, a4⟩ := h
  exact ⟨hl _ _ a1, n, gc, by omega, a3.of_block (keep_blk ho hu a1 h0), fun lang hlang => ⟨(a4 lang hlang).1.same fun k hk => keep_blk ho hu ((a4 lang hlang).2 k hk) (h1 lang), fun k hk => hl _ _ ((a4 lang hlang).2 k hk)⟩⟩
theorem StIn.keep (ho : own.Ok B w) (hl : own.Le own') (hu : Upd (Wr own X) w w') (hN : N ≤ N') {g : StG} {p : Nat} (h : StIn own mem B w id N g p) (hX : ∀ t, t.of = some id → ¬ X t) : StIn own' mem B w' id N' g p := by
  obtain ⟨tv, cv, em, cm, a1, a2, a3, a4, a5, a6⟩ := h.at_
  exact ⟨hl _ _ h.tag, h.sid, h.aut, h.pub, h.cok, Nat.le_trans h.clen hN, h.apart, tv, cv, em, cm, (keep_blk ho hu h.tag (hX _ rfl)).trans a1, a2, a3.same fun k hk => keep_blk ho hu (a4 k hk) (hX _ rfl), fun k hk => hl _ _ (a4 k hk), a5.keep ho hl hu hN (hX _ rfl) (fun _ => hX _ rfl) (fun _ => hX _ rfl), a6.keep ho hl hu hN (hX _ rfl) (fun _ => hX _ rfl)⟩
end
def TmIn (own : Own) (w : World) (N : Nat) (L : ByteArray → Option ByteArray) (b : Nat) : Prop :=
  own b = some .tmap ∧ ∃ n gT, n ≤ N ∧ KMap Tryz.prog 9 w b n gT ∧ ∀ name : ByteArray, name.size ≤ maxLen → gT (.string name) = (L name).map fun t => .agg #[.string name, .string t]
def SmIn (own : Own) (mem : Addr → Option Value) (B : Nat) (w : World) (N : Nat) (ps : Int → Nat) (T : Int → Prop) (G : Int → StG) (b : Nat) : Prop :=
  own b = some .smap ∧ ∃ n gS, n ≤ N ∧ KMap Tryz.prog 3 w b n gS ∧ (∀ id, okI id → T id → gS (.int .i64 id) = some (.pointer (some ⟨ps id, 0, none⟩)) ∧ StIn own mem B w id N (G id) (ps id)) ∧ ∀ id, okI id → ¬ T id → gS (.int .i64 id) = none ∧ G id = stg0
structure FoldIn (own : Own) (mem : Addr → Option Value) (B : Nat) (w : World) (sb N : Nat) (ps : Int → Nat) (T : Int → Prop) (G : Int → StG) (L : ByteArray → Option ByteArray) : Prop where
  tag : own sb = some .fold
  ok : own.Ok B w
  low : ∀ a u, mem a = some u → a.block < B
  see : Sees mem w
  at_ : ∃ bS bT, w.heap[sb]? = some (.cells #[.map (some bS), .map (some bT)] 97 (0, 0)) ∧ SmIn own mem B w N ps T G bS ∧ TmIn own w N L bT
section
variable {own own' : Own} {mem : Addr → Option Value} {B N N' : Nat} {w w' : World} {X : Tag → Prop} {id : Int} {sb : Nat} {ps : Int → Nat} {T : Int → Prop} {G : Int → StG} {L : ByteArray → Option ByteArray}
theorem TmIn.keep (ho : own.Ok B w) (hl : own.Le own') (hu : Upd (Wr own X) w w') (hN : N ≤ N') {b : Nat} (h : TmIn own w N L b) (h0 : ¬ X .tmap) : TmIn own' w' N' L b := by
  obtain ⟨a1, n, gT, a2, a3, a4⟩ := h
  exact ⟨hl _ _ a1, n, gT, by omega, a3.of_block (keep_blk ho hu a1 h0), a4⟩
theorem Wr.ge (ho : own.Ok B w) {k : Nat} (h : Wr own X k) : B ≤ k := (ho _ _ h.choose_spec.1).1
theorem FoldIn.st (h : FoldIn own mem B w sb N ps T G L) (hid : okI id) (hT : T id) : StIn own mem B w id N (G id) (ps id) := by
  obtain ⟨_, _, _, ⟨_, _, _, _, _, b4, _⟩, _⟩ := h.at_
  exact (b4 id hid hT).2
theorem FoldIn.story (h : FoldIn own mem B w sb N ps T G L) (hl : own.Le own') (hok : own'.Ok B w') (hX : ∀ t, X t → t.of = some id) (hu : Upd (Wr own X) w w') (hN : N ≤ N') (hid : okI id) (hT : T id) {g : StG} (hg : StIn own' mem B w' id N' g (ps id)) :
    FoldIn own' mem B w' sb N' ps T (fun i => if i = id then g else G i) L := by
  have hB : B ≤ w.heap.size := Nat.le_of_lt (Nat.lt_of_le_of_lt (h.ok _ _ h.tag).1 (h.ok _ _ h.tag).2)
  have hn : ∀ t, t.of ≠ some id → ¬ X t := fun t ht hx => ht (hX t hx)
  obtain ⟨bS, bT, a1, ⟨b1, n, gS, b2, b3, b4, b5⟩, a3⟩ := h.at_
  refine ⟨hl _ _ h.tag, hok, h.low, fun a u hau => hu.cell_some (h.see a u hau) (fun hw => by have := Wr.ge h.ok hw; have := h.low a u hau; omega), bS, bT, (keep_blk h.ok hu h.tag (hn _ (by simp [Tag.of]))).trans a1, ?_, a3.keep h.ok hl hu hN (hn _ (by simp [Tag.of]))⟩
  refine ⟨hl _ _ b1, n, gS, by omega, b3.of_block (keep_blk h.ok hu b1 (hn _ (by simp [Tag.of]))), fun i hi hTi => ?_, fun i hi hTi => ?_⟩
  · obtain ⟨c1, c2⟩ := b4 i hi hTi
    refine ⟨c1, ?_⟩
    dsimp only
    by_cases e : i = id
    · subst e; rw [if_pos rfl]; exact hg
    · rw [if_neg e]
      exact c2.keep h.ok hl hu hN fun t ht hx => by
        have := hX t hx
        rw [ht] at this
        exact e (Option.some.inj this)
  · have e : i ≠ id := fun e => hTi (e ▸ hT)
    dsimp only
    rw [if_neg e]
    exact b5 i hi hTi
theorem FoldIn.congr {G' : Int → StG} {T' : Int → Prop} {L' : ByteArray → Option ByteArray} (h : FoldIn own mem B w sb N ps T G L) (hT : ∀ i, T' i ↔ T i) (hG : ∀ i, G' i = G i) (hL : ∀ i, L' i = L i) : FoldIn own mem B w sb N ps T' G' L' := by
  obtain rfl : T' = T := funext fun i => propext (hT i)
  obtain rfl : G' = G := funext hG
  obtain rfl : L' = L := funext hL
  exact h
theorem FoldIn.keep (h : FoldIn own mem B w sb N ps T G L) (hb : Below w.heap.size w w') (hN : N ≤ N') : FoldIn own mem B w' sb N' ps T G L := by
  have hu : Upd (Wr own (fun _ => False)) w w' := ⟨hb.os, hb.tape, hb.output, hb.size, fun k hk _ => hb.block k hk⟩
  obtain ⟨bS, bT, a1, ⟨b1, n, gS, b2, b3, b4, b5⟩, a3⟩ := h.at_
  refine ⟨h.tag, h.ok.mono hb.size, h.low, h.see.bel hb, bS, bT, (hb.block _ (h.ok _ _ h.tag).2).trans a1, ?_, a3.keep h.ok (Own.le_refl _) hu hN id⟩
  refine ⟨b1, n, gS, by omega, b3.of_block (keep_blk h.ok hu b1 id), fun i hi hTi => ?_, b5⟩
  obtain ⟨c1, c2⟩ := b4 i hi hTi
  exact ⟨c1, c2.keep h.ok (Own.le_refl _) hu hN fun _ _ => id⟩
end
end Go.Proofs.YtdkkhmjlamkgdaaGreatDoor
namespace Go.Proofs.YtdkkhmjlamkgdaaGreatDoor
open Go.RowKit Mg Go.Shelf Go.Maps

def effL : List (Int × Value) := [(1, .func (.func 70) #[] #[]), (3, .func (.func 71) #[] #[]), (4, .func (.func 72) #[] #[]), (5, .func (.func 73) #[] #[]), (6, .func (.func 74) #[] #[]), (7, .func (.func 75) #[] #[])]
abbrev EMapE (w : World) (b : Nat) : Prop := IMap Tryz.prog 3 w b effL
theorem okI_s {n : Int} (h : 0 ≤ n) (h2 : n ≤ 1000000) : okI n := ⟨by omega, by omega⟩
set_option maxRecDepth 10000 in
set_option maxHeartbeats 1000000 in
theorem effects_any (w : World) : Calls Tryz.prog 49 #[] w fun e w' => e = .returned (.map (some w.heap.size)) ∧ EMapE w' w.heap.size ∧ Below w.heap.size w w' := by
  have hmm := @run_makeMap Tryz.prog
  have h0 := IMap.made Tryz.prog 3 w
  have hb0 : Below w.heap.size w (w.alloc (.map #[] 0)) := (Below.refl _ w).alloc (Nat.le_refl _) _
  have hG : ∀ {a b : World}, Below w.heap.size w a → a.grownBy b (some w.heap.size) → Below w.heap.size w b := fun h g => h.grown g h.size (fun k e => by cases e; exact Nat.le_refl _)
  obtain ⟨w1, r1, h1, g1⟩ := h0.store Tryz.underlying3 Tryz.underlying98 (by decide) (i := 1) (okI_s (by omega) (by omega)) (by simp [keysL]) (.func (.func 70) #[] #[])
  replace g1 := hG hb0 g1
  obtain ⟨w2, r2, h2, g2⟩ := h1.store Tryz.underlying3 Tryz.underlying98 (by decide) (i := 3) (okI_s (by omega) (by omega)) (by simp [keysL]) (.func (.func 71) #[] #[])
  replace g2 := hG g1 g2
  obtain ⟨w3, r3, h3, g3⟩ := h2.store Tryz.underlying3 Tryz.underlying98 (by decide) (i := 4) (okI_s (by omega) (by omega)) (by simp [keysL]) (.func (.func 72) #[] #[])
  replace g3 := hG g2 g3
  obtain ⟨w4, r4, h4, g4⟩ := h3.store Tryz.underlying3 Tryz.underlying98 (by decide) (i := 5) (okI_s (by omega) (by omega)) (by simp [keysL]) (.func (.func 73) #[] #[])
  replace g4 := hG g3 g4
  obtain ⟨w5, r5, h5, g5⟩ := h4.store Tryz.underlying3 Tryz.underlying98 (by decide) (i := 6) (okI_s (by omega) (by omega)) (by simp [keysL]) (.func (.func 74) #[] #[])
  replace g5 := hG g4 g5
  obtain ⟨w6, r6, h6, g6⟩ := h5.store Tryz.underlying3 Tryz.underlying98 (by decide) (i := 7) (okI_s (by omega) (by omega)) (by simp [keysL]) (.func (.func 75) #[] #[])
  replace g6 := hG g5 g6
  clear h0 h1 h2 h3 h4 h5 g1 g2 g3 g4 g5 hb0 hG
  go_enter Tryz.func49, Tryz.ntmps49
  go_wp2_with fail
  go_ret
  exact ⟨rfl, h6, g6⟩

def OfPost (own : Own) (mem : Addr → Option Value) (B : Nat) (w : World) (sb N : Nat) (T : Int → Prop) (G : Int → StG) (L : ByteArray → Option ByteArray) (id : Int) (e : Ending) (w' : World) : Prop :=
  ∃ own' ps', e = .returned (.pointer (some ⟨ps' id, 0, none⟩)) ∧ own.Le own' ∧ own.New own' w ∧ FoldIn own' mem B w' sb (N + 1) ps' (fun i => T i ∨ i = id) G L ∧ Upd (Wr own (fun t => t = .smap)) w w'
theorem below_dN {B : Nat} {a w : World} (h : Below B a w) (n : Nat) : Below B a (w.drewN n) := ⟨h.os, h.tape, h.output, h.size, h.block⟩
theorem upd_dN {F : Nat → Prop} {a w : World} (h : Upd F a w) (n : Nat) : Upd F a (w.drewN n) := ⟨h.os, h.tape, h.output, h.size, h.block⟩
theorem bel1 (w : World) (o : Obj) : Below w.heap.size w (w.alloc o) := (Below.refl _ w).alloc (Nat.le_refl _) _
theorem Upd.bel {F : Nat → Prop} {a w w' : World} (h : Upd F a w) (hb : Below w.heap.size w w') : Upd F a w' :=
  h.trans (G := fun k => w.heap.size ≤ k) (Upd.of_below hb) (fun _i hi => .inr (Nat.le_trans h.size hi))
section
variable {own : Own} {mem : Addr → Option Value} {B N : Nat} {w : World} {sb : Nat} {ps : Int → Nat} {T : Int → Prop} {G : Int → StG} {L : ByteArray → Option ByteArray}
set_option maxRecDepth 100000 in
set_option maxHeartbeats 4000000 in
theorem of_old (h : FoldIn own mem B w sb N ps T G L) (f : FctE) (hid : okI f.f.story) (hT : T f.f.story) :
    Calls Tryz.prog 109 #[.pointer (some ⟨sb, 0, none⟩), .agg f.cells] w (OfPost own mem B w sb N T G L f.f.story) := by
  obtain ⟨bS, bT, a1, ⟨b1, n, gS, b2, b3, b4, b5⟩, a3⟩ := h.at_
  obtain ⟨c1, c2⟩ := b4 _ hid hT
  have HP : Hid (∀ n, OfPost own mem B w sb N T G L f.f.story (.returned (.pointer (some ⟨ps f.f.story, 0, none⟩))) ((w.alloc (.cells f.cells 50)).drewN n)) := Lib.hid (fun n => by
    refine ⟨own, ps, rfl, Own.le_refl _, Own.new_refl _ _, (h.keep (below_dN (bel1 w _) n) (Nat.le_succ N)).congr (fun _ => ⟨fun hh => hh.elim id (fun e => e ▸ hT), .inl⟩) (fun _ => rfl) (fun _ => rfl), upd_dN ((Upd.refl _ w).alloc _) n⟩)
  rw [FctE.cells_eq] at HP
  rw [FctE.cells_eq]
  have hsb := hlt a1
  obtain ⟨W1, hW1⟩ : ∃ W1, W1 = w.alloc (.cells (fctCells f.f f.tv f.bv f.av) 50) := ⟨_, rfl⟩
  have hl : ∀ n, (Instr.lookup 94 (.map (some bS)) (.int .i64 f.f.story) false).run Tryz.prog (W1.drewN n) = .ok (.pointer (some ⟨ps f.f.story, 0, none⟩)) (W1.drewN n) := fun n => by
    have := (KMap.look (w := W1.drewN n) (by rw [hW1]; exact b3.alloc _) K_int Tryz.underlying94 (zero_pst _) (key_int hid))
    rw [c1] at this
    exact this
  have hblk : W1.heap[sb]? = some (.cells #[.map (some bS), .map (some bT)] 97 (0, 0)) := by rw [hW1]; exact (Below.heap_alloc _ _ _ hsb).trans a1
  have hnew : W1.heap[w.heap.size]? = some (.cells (fctCells f.f f.tv f.bv f.av) 50 (0, 0)) := by rw [hW1]; exact World.alloc_heap_new w _
  have k0 : W1.cell? ⟨sb, 0, none⟩ = some (.map (some bS)) := rowcell hblk
  have k3 : W1.cell? ⟨w.heap.size, 3, none⟩ = some (.int .i64 f.f.story) := rowcell hnew
  rw [← hW1] at HP
  have HW := Lib.hid hW1
  clear hW1 h a1 b3 b4 b5 a3 c1 c2 hblk hnew
  go_enter Tryz.func109, Tryz.ntmps109
  go_upto_region 1 with fail
  rw [← HW.out]
  go_quiet (fail)
  go_wp2_with fail
  go_ret
  exact HP.out _
open Classical in
theorem new_post (h : FoldIn own mem B w sb N ps T G L) {id : Int} (hid : okI id) (hT : ¬ T id) {W4 W5 : World} {C bS bT n : Nat} {gS : Value → Option Value}
    (a1 : w.heap[sb]? = some (.cells #[.map (some bS), .map (some bT)] 97 (0, 0))) (b1 : own bS = some .smap) (b2 : n ≤ N)
    (b4 : ∀ id, okI id → T id → gS (.int .i64 id) = some (.pointer (some ⟨ps id, 0, none⟩)) ∧ StIn own mem B w id N (G id) (ps id)) (b5 : ∀ id, okI id → ¬ T id → gS (.int .i64 id) = none ∧ G id = stg0) (a3 : TmIn own w N L bT)
    (hb4 : Below w.heap.size w W4) (hem : W4.heap[C]? = some (.map #[] 0)) (hcm : W4.heap[C + 1]? = some (.map #[] 0))
    (hst : W4.heap[C + 1 + 1]? = some (.cells #[.int .i64 id, .string ⟨#[]⟩, .slice none 0 0, .slice none 0 0, .int .i64 0, .slice none 0 0, .bool false, .bool false, .bool false, .map (some C), .map (some (C + 1))] 107 (0, 0)))
    (hC : w.heap.size ≤ C) (hg : W4.drew.grownBy W5 (some bS)) (hk : KMap Tryz.prog 3 W5 bS (n + 1) (fun x => if x = .int .i64 id then some (.pointer (some ⟨C + 1 + 1, 0, none⟩)) else gS x)) :
    OfPost own mem B w sb N T G L id (.returned (.pointer (some ⟨C + 1 + 1, 0, none⟩))) W5 := by
  have hX : Upd (Wr own (fun t => t = .smap)) w W5 := ((Upd.refl _ w).bel hb4).drew.grown hg (fun k e => .inl (by cases e; exact ⟨.smap, b1, rfl⟩))
  have hOk := h.ok
  have hbB := (hOk _ _ b1).1
  have hbl := (hOk _ _ b1).2
  have hblk : ∀ k, k < W4.heap.size → k ≠ bS → W5.heap[k]? = W4.heap[k]? := fun k hk hne => hg.block k hk (fun e => hne (by injection e))
  have l4 : W4.heap.size ≤ W5.heap.size := hg.size
  have s0 := hlt hem
  have s1 := hlt hcm
  have s2 := hlt hst
  have o0 : own.Le (own.put C (.emap id)) := Own.put_le hOk hC _
  have k0 : (own.put C (.emap id)).Ok B W5 := (hOk.mono (Nat.le_trans hb4.size l4)).put (by omega) (by omega) _
  have o1 : (own.put C (.emap id)).Le ((own.put C (.emap id)).put (C + 1) (.cmap id)) := fun j u e => by
    unfold Own.put at e ⊢
    by_cases h1 : j = C + 1
    · subst h1
      rw [if_neg (by omega)] at e
      have := (hOk _ _ e).2; omega
    · rw [if_neg h1]; exact e
  have k1 := k0.put (k := C + 1) (by omega) (by omega) (.cmap id)
  have o2 : ((own.put C (.emap id)).put (C + 1) (.cmap id)).Le (((own.put C (.emap id)).put (C + 1) (.cmap id)).put (C + 1 + 1) (.story id)) := fun j u e => by
    unfold Own.put at e ⊢
    by_cases h1 : j = C + 1 + 1
    · subst h1
      rw [if_neg (by omega), if_neg (by omega)] at e
      have := (hOk _ _ e).2; omega
    · rw [if_neg h1]; exact e
  have k2 := k1.put (k := C + 1 + 1) (by omega) (by omega) (.story id)
  have t0 : (((own.put C (.emap id)).put (C + 1) (.cmap id)).put (C + 1 + 1) (.story id)) C = some (.emap id) := by
    unfold Own.put; rw [if_neg (by omega), if_neg (by omega), if_pos rfl]
  have t1 : (((own.put C (.emap id)).put (C + 1) (.cmap id)).put (C + 1 + 1) (.story id)) (C + 1) = some (.cmap id) := by
    unfold Own.put; rw [if_neg (by omega), if_pos rfl]
  have t2 : (((own.put C (.emap id)).put (C + 1) (.cmap id)).put (C + 1 + 1) (.story id)) (C + 1 + 1) = some (.story id) := Own.put_same _ _ _
  have hle := (o0.trans o1).trans o2
  have hnw : own.New (((own.put C (.emap id)).put (C + 1) (.cmap id)).put (C + 1 + 1) (.story id)) w := fun j hj e => by
    unfold Own.put
    rw [if_neg (by omega), if_neg (by omega), if_neg (by omega)]; exact e
  generalize (((own.put C (.emap id)).put (C + 1) (.cmap id)).put (C + 1 + 1) (.story id)) = own' at *
  have hN1 : N ≤ N + 1 := Nat.le_succ N
  have hkeep : ∀ {k : Nat} {t : Tag}, own k = some t → t ≠ .smap → W5.heap[k]? = w.heap[k]? := fun e hne => keep_blk hOk hX e hne
  have hnew : ∀ {k : Nat} {x : Obj}, W4.heap[k]? = some x → C ≤ k → W5.heap[k]? = some x := fun e hk => (hblk _ (hlt e) (by omega)).trans e
  refine ⟨own', fun i => if i = id then C + 1 + 1 else ps i, by dsimp only; rw [if_pos rfl], hle, hnw, ⟨hle _ _ h.tag, k2, h.low, fun a u hau => hX.cell_some (h.see a u hau) (fun hw => by have := Wr.ge hOk hw; have := h.low a u hau; omega), bS, bT, (hkeep h.tag (by simp)).trans a1, ⟨hle _ _ b1, n + 1, _, by omega, hk, fun i hi hTi => ?_, fun i hi hTi => ?_⟩, a3.keep hOk hle hX hN1 (by simp)⟩, hX⟩
  · by_cases e : i = id
    · subst e
      have hG0 := (b5 i hi hT).2
      refine ⟨by dsimp only; rw [if_pos rfl, if_pos rfl], ?_⟩
      dsimp only
      rw [if_pos rfl, hG0]
      refine ⟨t2, hid, Nat.zero_le _, okI_zero, (by intro c hc; cases hc), Nat.zero_le _, List.nodup_nil, .slice none 0 0, .slice none 0 0, C, C + 1, hnew hst (by omega), StrsM.nil _, GRow.nil _ _ _ _, (by intro k hk; cases hk), ⟨t0, 0, _, by omega, KMap.made _ _ (hnew hem (by omega)), (by intro e he; cases he), fun _ _ _ => rfl⟩, t1, 0, _, by omega, KMap.made _ _ (hnew hcm (by omega)), fun lang _ => ⟨GRow.nil _ _ _ _, (by intro k hk; cases hk)⟩⟩
    · have hTi : T i := hTi.elim (fun x => x) (fun x => absurd x e)
      obtain ⟨c1, c2⟩ := b4 i hi hTi
      dsimp only
      rw [if_neg (by intro q; injection q with _ q; exact e q), if_neg e]
      exact ⟨c1, c2.keep hOk hle hX hN1 fun t ht hx => by rw [hx] at ht; cases ht⟩
  · have e : i ≠ id := fun e => hTi (.inr e)
    rw [if_neg (by intro q; injection q with _ q; exact e q)]
    exact b5 i hi (fun q => hTi (.inl q))
set_option maxRecDepth 100000 in
set_option maxHeartbeats 4000000 in
theorem of_new (h : FoldIn own mem B w sb N ps T G L) (f : FctE) (hid : okI f.f.story) (hT : ¬ T f.f.story) (hN : N ≤ 100000) :
    Calls Tryz.prog 109 #[.pointer (some ⟨sb, 0, none⟩), .agg f.cells] w (OfPost own mem B w sb N T G L f.f.story) := by
  obtain ⟨bS, bT, a1, ⟨b1, n, gS, b2, b3, b4, b5⟩, a3⟩ := h.at_
  obtain ⟨c1, c2⟩ := b5 _ hid hT
  have HK := Lib.hid b3
  have HA := Lib.hid a1
  have HB4' := Lib.hid b4
  have HB5' := Lib.hid b5
  have HA3 := Lib.hid a3
  rw [FctE.cells_eq]
  have hsb := hlt a1
  have hbS := (h.ok _ _ b1).2
  obtain ⟨W1, hW1⟩ : ∃ W1, W1 = w.alloc (.cells (fctCells f.f f.tv f.bv f.av) 50) := ⟨_, rfl⟩
  have hb1 : Below w.heap.size w W1 := by rw [hW1]; exact bel1 w _
  have hl : ∀ n, (Instr.lookup 94 (.map (some bS)) (.int .i64 f.f.story) false).run Tryz.prog (W1.drewN n) = .ok (.pointer none) (W1.drewN n) := fun n => by
    have := (KMap.look (w := W1.drewN n) (b3.bel (below_dN hb1 n)) K_int Tryz.underlying94 (zero_pst _) (key_int hid))
    rw [c1] at this
    exact this
  have hblk : W1.heap[sb]? = some (.cells #[.map (some bS), .map (some bT)] 97 (0, 0)) := (hb1.block _ hsb).trans a1
  have hnew : W1.heap[w.heap.size]? = some (.cells (fctCells f.f f.tv f.bv f.av) 50 (0, 0)) := by rw [hW1]; exact World.alloc_heap_new w _
  have HBL := Lib.hid hblk
  have HNW := Lib.hid hnew
  have k0 : W1.cell? ⟨sb, 0, none⟩ = some (.map (some bS)) := rowcell hblk
  have k3 : W1.cell? ⟨w.heap.size, 3, none⟩ = some (.int .i64 f.f.story) := rowcell hnew
  have HW := Lib.hid hW1
  have HB1 := Lib.hid hb1
  have H := Lib.hid h
  have HC2 := Lib.hid c2
  have hmm := @run_makeMap Tryz.prog
  have hz := hlt hnew
  have hz2 := hlt hblk
  clear hW1 h a1 b3 b4 b5 a3 c1 c2 hblk hnew hb1
  go_enter Tryz.func109, Tryz.ntmps109
  go_upto_region 1 with fail
  rw [← HW.out]
  go_quiet (fail)
  obtain ⟨W2, hW2⟩ : ∃ W2, W2 = W1.drewN nq := ⟨_, rfl⟩
  rw [← hW2]
  have hb2 : Below w.heap.size w W2 := by rw [hW2]; exact below_dN HB1.out nq
  have hblk2 : W2.heap[sb]? = some (.cells #[.map (some bS), .map (some bT)] 97 (0, 0)) := by rw [hW2]; exact HBL.out
  have hnew2 : W2.heap[w.heap.size]? = some (.cells (fctCells f.f f.tv f.bv f.av) 50 (0, 0)) := by rw [hW2]; exact HNW.out
  have q0 : W2.cell? ⟨sb, 0, none⟩ = some (.map (some bS)) := rowcell hblk2
  have q3 : W2.cell? ⟨w.heap.size, 3, none⟩ = some (.int .i64 f.f.story) := rowcell hnew2
  have z0 := hlt hblk2
  have z1 := hlt hnew2
  have HB2 := Lib.hid hb2
  clear k0 k3 hz hz2 hl hW2 hb2 hblk2 hnew2
  go_upto_region 4 with fail
  obtain ⟨W3, hW3⟩ : ∃ W3, W3 = ((W2.alloc (.map #[] 0)).alloc (.map #[] 0)).alloc (.cells #[.int .i64 0, .string ⟨#[]⟩, .slice none 0 0, .slice none 0 0, .int .i64 0, .slice none 0 0, .bool false, .bool false, .bool false, .map (some W2.heap.size), .map (some (W2.heap.size + 1))] 107) := ⟨_, rfl⟩
  rw [← hW3]
  have hb3 : Below W2.heap.size W2 W3 := by rw [hW3]; exact (((Below.refl _ W2).alloc (Nat.le_refl _) _).alloc (by simp) _).alloc (by simp; omega) _
  have hem : W3.heap[W2.heap.size]? = some (.map #[] 0) := by rw [hW3]; exact (Below.heap_alloc _ _ _ (by simp; omega)).trans ((Below.heap_alloc _ _ _ (by simp)).trans (World.alloc_heap_new W2 _))
  have hcm : W3.heap[W2.heap.size + 1]? = some (.map #[] 0) := by
    rw [hW3]
    refine (Below.heap_alloc _ _ _ (by simp)).trans ?_
    have := World.alloc_heap_new (W2.alloc (.map #[] 0)) (.map #[] 0)
    simpa using this
  have hst : W3.heap[W2.heap.size + 1 + 1]? = some (.cells #[.int .i64 0, .string ⟨#[]⟩, .slice none 0 0, .slice none 0 0, .int .i64 0, .slice none 0 0, .bool false, .bool false, .bool false, .map (some W2.heap.size), .map (some (W2.heap.size + 1))] 107 (0, 0)) := by
    rw [hW3]
    have := World.alloc_heap_new ((W2.alloc (.map #[] 0)).alloc (.map #[] 0)) (.cells #[.int .i64 0, .string ⟨#[]⟩, .slice none 0 0, .slice none 0 0, .int .i64 0, .slice none 0 0, .bool false, .bool false, .bool false, .map (some W2.heap.size), .map (some (W2.heap.size + 1))] 107)
    simpa using this
  have hz3 : W3.heap.size = W2.heap.size + 3 := by rw [hW3]; simp
  have p0 : W3.cell? ⟨sb, 0, none⟩ = some (.map (some bS)) := (hb3.cell (p := ⟨sb, 0, none⟩) z0).trans q0
  have p3 : W3.cell? ⟨w.heap.size, 3, none⟩ = some (.int .i64 f.f.story) := (hb3.cell (p := ⟨w.heap.size, 3, none⟩) z1).trans q3
  have n0 : W3.cell? ⟨W2.heap.size + 1 + 1, 0, none⟩ = some (.int .i64 0) := rowcell hst
  have n1 : W3.frozen? ⟨W2.heap.size + 1 + 1, 0, none⟩ = false := rowfree hst
  have HEM := Lib.hid hem
  have HCM := Lib.hid hcm
  have HST := Lib.hid hst
  have HZ3 := Lib.hid hz3
  have HB3 := Lib.hid (HB2.out.trans (hb3.mono HB2.out.size))
  generalize hcur : W2.heap.size = C at *
  clear hW3 q0 q3 hb3 hem hcm hst hz3
  go_upto_region 5 with fail
  obtain ⟨W4, hW4⟩ : ∃ W4, W4 = W3.setCell ⟨C + 1 + 1, 0, none⟩ (.int .i64 f.f.story) := ⟨_, rfl⟩
  rw [← hW4]
  have hne : sb ≠ C + 1 + 1 := by omega
  have hne2 : w.heap.size ≠ C + 1 + 1 := by omega
  have m0 : W4.cell? ⟨sb, 0, none⟩ = some (.map (some bS)) := by rw [hW4, sc_blk (Ne.symm hne)]; exact p0
  have m3 : W4.cell? ⟨w.heap.size, 3, none⟩ = some (.int .i64 f.f.story) := by rw [hW4, sc_blk (Ne.symm hne2)]; exact p3
  have hsz4 : w.heap.size ≤ C := Nat.le_of_lt z1
  have HB4 : Hid (Below w.heap.size w W4) := Lib.hid (by rw [hW4]; exact HB3.out.setCell (by show w.heap.size ≤ C + 1 + 1; omega) _)
  have HEM4 : Hid (W4.heap[C]? = some (.map #[] 0)) := Lib.hid (by rw [hW4, Below.heap_setCell _ _ _ _ (by show C ≠ C + 1 + 1; omega)]; exact HEM.out)
  have HCM4 : Hid (W4.heap[C + 1]? = some (.map #[] 0)) := Lib.hid (by rw [hW4, Below.heap_setCell _ _ _ _ (by show C + 1 ≠ C + 1 + 1; omega)]; exact HCM.out)
  have HST4 : Hid (W4.heap[C + 1 + 1]? = some (.cells #[.int .i64 f.f.story, .string ⟨#[]⟩, .slice none 0 0, .slice none 0 0, .int .i64 0, .slice none 0 0, .bool false, .bool false, .bool false, .map (some C), .map (some (C + 1))] 107 (0, 0))) := Lib.hid (by rw [hW4]; exact blk_set HST.out)
  have hk4 : KMap Tryz.prog 3 W4.drew bS n gS := (HK.out.below HB4.out hbS).drew
  obtain ⟨W5, hr5, hk5, hg5⟩ := hk4.store K_int Tryz.underlying94 (by unfold maxLen; omega) (key_int hid) (.pointer (some ⟨C + 1 + 1, 0, none⟩))
  have HK5 := Lib.hid hk5
  have HG5 := Lib.hid hg5
  clear hW4 p0 p3 n0 n1 hne hne2 hk4 hk5 hg5 HB3 HEM HCM HST
  go_still_tail 7, (by kernel_rfl)
  go_wp2_with fail
  go_ret
  exact new_post H.out hid hT HA.out b1 b2 HB4'.out HB5'.out HA3.out HB4.out HEM4.out HCM4.out HST4.out hsz4 HG5.out HK5.out
theorem of_any (h : FoldIn own mem B w sb N ps T G L) (f : FctE) (hid : okI f.f.story) (hN : N ≤ 100000) :
    Calls Tryz.prog 109 #[.pointer (some ⟨sb, 0, none⟩), .agg f.cells] w (OfPost own mem B w sb N T G L f.f.story) := by
  by_cases hT : T f.f.story
  · exact of_old h f hid hT
  · exact of_new h f hid hT hN
end
end Go.Proofs.YtdkkhmjlamkgdaaGreatDoor
namespace Go.Proofs
open Go.Shelf
def Tryz.laysIns_ren : Go.Shelf.Ren := ⟨fun | 21 => 171 | 27 => 202 | 28 => 203 | 35 => 219 | 39 => 224 | n => n, fun | 22 => 46 | 3 => 3 | 4 => 4 | 0 => 0 | n => n, fun | n => n⟩
theorem Tryz.laysIns : Go.Proofs.Lays2.n21 Tryz.prog Tryz.laysIns_ren := {
  mixed := by kernel_rfl
  f21 := Tryz.func171.trans (congrArg some (by kernel_rfl))
  f27 := Tryz.func202.trans (congrArg some (by kernel_rfl))
  f28 := Tryz.func203.trans (congrArg some (by kernel_rfl))
  f35 := Tryz.func219.trans (congrArg some (by kernel_rfl))
  f39 := Tryz.func224.trans (congrArg some (by kernel_rfl))
  t0 := Tryz.underlying0
  a0 := Tryz.isAgg0
  z0 := Tryz.sizeOf0
  v0 := Tryz.zeroValue0
  t3 := Tryz.underlying3
  a3 := Tryz.isAgg3
  z3 := Tryz.sizeOf3
  v3 := Tryz.zeroValue3
  t4 := Tryz.underlying4
  a4 := Tryz.isAgg4
  z4 := Tryz.sizeOf4
  v4 := Tryz.zeroValue4
  t22 := Tryz.underlying46
  a22 := Tryz.isAgg46
  z22 := Tryz.sizeOf46
  v22 := Tryz.zeroValue46
  i3 := by kernel_rfl }
def Tryz.keysA_ren : Go.Shelf.Ren := ⟨fun | 7 => 134 | 10 => 168 | n => n, fun | 23 => 184 | 26 => 3 | 3 => 3 | 28 => 131 | 0 => 0 | 27 => 130 | 33 => 159 | 4 => 4 | n => n, fun | n => n⟩
theorem Tryz.keysA : Go.Proofs.SlLaysZI.n7 Tryz.prog Tryz.keysA_ren := {
  mixed := by kernel_rfl
  f7 := ⟨Tryz.f134.name, by decide, Tryz.func134.trans (congrArg some (by kernel_rfl))⟩
  f10 := ⟨Tryz.f168.name, by decide, Tryz.func168.trans (congrArg some (by kernel_rfl))⟩
  t0 := Tryz.underlying0
  a0 := Tryz.isAgg0
  z0 := Tryz.sizeOf0
  v0 := Tryz.zeroValue0
  t4 := Tryz.underlying4
  a4 := Tryz.isAgg4
  z4 := Tryz.sizeOf4
  v4 := Tryz.zeroValue4
  t23 := Tryz.underlying184
  a23 := Tryz.isAgg184
  z23 := Tryz.sizeOf184
  v23 := Tryz.zeroValue184
  t26 := Tryz.underlying3
  a26 := Tryz.isAgg3
  z26 := Tryz.sizeOf3
  v26 := Tryz.zeroValue3
  t27 := Tryz.underlying130
  a27 := Tryz.isAgg130
  z27 := Tryz.sizeOf130
  v27 := Tryz.zeroValue130
  t28 := Tryz.underlying131
  a28 := Tryz.isAgg131
  z28 := Tryz.sizeOf131
  v28 := Tryz.zeroValue131
  t33 := Tryz.underlying159
  a33 := Tryz.isAgg159
  z33 := Tryz.sizeOf159
  v33 := Tryz.zeroValue159 }
def Tryz.sortedA_ren : Go.Shelf.Ren := ⟨fun | 6 => 76 | 8 => 110 | 9 => 111 | 11 => 126 | 13 => 128 | 12 => 127 | 23 => 164 | 24 => 165 | 14 => 155 | 15 => 156 | 16 => 157 | 17 => 158 | 18 => 159 | 19 => 160 | 20 => 161 | 21 => 162 | 22 => 163 | 25 => 195 | 26 => 196 | 27 => 197 | 28 => 198 | 29 => 199 | 30 => 200 | 31 => 217 | n => n, fun | 26 => 3 | 28 => 131 | 24 => 46 | 0 => 0 | 3 => 3 | 37 => 175 | 48 => 210 | 50 => 191 | 4 => 4 | 40 => 203 | 39 => 202 | 45 => 207 | 5 => 5 | 9 => 9 | 51 => 234 | 55 => 238 | 57 => 248 | 58 => 249 | 33 => 159 | n => n, fun | n => n⟩
theorem Tryz.sortedA : Go.Proofs.SlLaysZI.n6 Tryz.prog Tryz.sortedA_ren := {
  mixed := by kernel_rfl
  f6 := ⟨Tryz.f76.name, by decide, Tryz.func76.trans (congrArg some (by kernel_rfl))⟩
  f8 := ⟨Tryz.f110.name, by decide, Tryz.func110.trans (congrArg some (by kernel_rfl))⟩
  f11 := ⟨Tryz.f126.name, by decide, Tryz.func126.trans (congrArg some (by kernel_rfl))⟩
  t0 := Tryz.underlying0
  a0 := Tryz.isAgg0
  z0 := Tryz.sizeOf0
  v0 := Tryz.zeroValue0
  t24 := Tryz.underlying46
  a24 := Tryz.isAgg46
  z24 := Tryz.sizeOf46
  v24 := Tryz.zeroValue46
  t26 := Tryz.underlying3
  a26 := Tryz.isAgg3
  z26 := Tryz.sizeOf3
  v26 := Tryz.zeroValue3
  t28 := Tryz.underlying131
  a28 := Tryz.isAgg131
  z28 := Tryz.sizeOf131
  v28 := Tryz.zeroValue131
  i26 := by kernel_rfl }
def Tryz.sortA_ren : Go.Shelf.Ren := ⟨fun | 5 => 111 | 8 => 128 | 7 => 127 | 19 => 164 | 20 => 165 | 10 => 155 | 11 => 156 | 12 => 157 | 13 => 158 | 14 => 159 | 15 => 160 | 16 => 161 | 17 => 162 | 18 => 163 | 30 => 195 | 31 => 196 | 32 => 197 | 33 => 198 | 34 => 199 | 35 => 200 | 40 => 217 | n => n, fun | 23 => 46 | 25 => 3 | 3 => 3 | 32 => 175 | 22 => 46 | 0 => 0 | 44 => 210 | 46 => 191 | 4 => 4 | 36 => 203 | 35 => 202 | 41 => 207 | 5 => 5 | 9 => 9 | 53 => 234 | 57 => 238 | 63 => 248 | 64 => 249 | n => n, fun | n => n⟩
theorem Tryz.sortA : Go.Proofs.SlLaysM.n5 Tryz.prog Tryz.sortA_ren := {
  mixed := by kernel_rfl
  f5 := ⟨Tryz.f111.name, by decide, Tryz.func111.trans (congrArg some (by kernel_rfl))⟩
  f7 := ⟨Tryz.f127.name, by decide, Tryz.func127.trans (congrArg some (by kernel_rfl))⟩
  f8 := Tryz.func128.trans (congrArg some (by kernel_rfl))
  f10 := ⟨Tryz.f155.name, by decide, Tryz.func155.trans (congrArg some (by kernel_rfl))⟩
  f11 := ⟨Tryz.f156.name, by decide, Tryz.func156.trans (congrArg some (by kernel_rfl))⟩
  f12 := ⟨Tryz.f157.name, by decide, Tryz.func157.trans (congrArg some (by kernel_rfl))⟩
  f13 := ⟨Tryz.f158.name, by decide, Tryz.func158.trans (congrArg some (by kernel_rfl))⟩
  f14 := ⟨Tryz.f159.name, by decide, Tryz.func159.trans (congrArg some (by kernel_rfl))⟩
  f15 := ⟨Tryz.f160.name, by decide, Tryz.func160.trans (congrArg some (by kernel_rfl))⟩
  f16 := ⟨Tryz.f161.name, by decide, Tryz.func161.trans (congrArg some (by kernel_rfl))⟩
  f17 := ⟨Tryz.f162.name, by decide, Tryz.func162.trans (congrArg some (by kernel_rfl))⟩
  f18 := ⟨Tryz.f163.name, by decide, Tryz.func163.trans (congrArg some (by kernel_rfl))⟩
  f19 := Tryz.func164.trans (congrArg some (by kernel_rfl))
  f20 := Tryz.func165.trans (congrArg some (by kernel_rfl))
  f30 := ⟨Tryz.f195.name, by decide, Tryz.func195.trans (congrArg some (by kernel_rfl))⟩
  f31 := Tryz.func196.trans (congrArg some (by kernel_rfl))
  f32 := Tryz.func197.trans (congrArg some (by kernel_rfl))
  f33 := ⟨Tryz.f198.name, by decide, Tryz.func198.trans (congrArg some (by kernel_rfl))⟩
  f34 := ⟨Tryz.f199.name, by decide, Tryz.func199.trans (congrArg some (by kernel_rfl))⟩
  f35 := ⟨Tryz.f200.name, by decide, Tryz.func200.trans (congrArg some (by kernel_rfl))⟩
  f40 := ⟨Tryz.f217.name, by decide, Tryz.func217.trans (congrArg some (by kernel_rfl))⟩
  t0 := Tryz.underlying0
  a0 := Tryz.isAgg0
  z0 := Tryz.sizeOf0
  v0 := Tryz.zeroValue0
  t3 := Tryz.underlying3
  a3 := Tryz.isAgg3
  z3 := Tryz.sizeOf3
  v3 := Tryz.zeroValue3
  t4 := Tryz.underlying4
  a4 := Tryz.isAgg4
  z4 := Tryz.sizeOf4
  v4 := Tryz.zeroValue4
  t5 := Tryz.underlying5
  a5 := Tryz.isAgg5
  z5 := Tryz.sizeOf5
  v5 := Tryz.zeroValue5
  t9 := Tryz.underlying9
  a9 := Tryz.isAgg9
  z9 := Tryz.sizeOf9
  v9 := Tryz.zeroValue9
  t22 := Tryz.underlying46
  a22 := Tryz.isAgg46
  z22 := Tryz.sizeOf46
  v22 := Tryz.zeroValue46
  t23 := Tryz.underlying46
  a23 := Tryz.isAgg46
  z23 := Tryz.sizeOf46
  v23 := Tryz.zeroValue46
  t25 := Tryz.underlying3
  a25 := Tryz.isAgg3
  z25 := Tryz.sizeOf3
  v25 := Tryz.zeroValue3
  t32 := Tryz.underlying175
  a32 := Tryz.isAgg175
  z32 := Tryz.sizeOf175
  v32 := Tryz.zeroValue175
  t35 := Tryz.underlying202
  a35 := Tryz.isAgg202
  z35 := Tryz.sizeOf202
  v35 := Tryz.zeroValue202
  t36 := Tryz.underlying203
  a36 := Tryz.isAgg203
  z36 := Tryz.sizeOf203
  v36 := Tryz.zeroValue203
  t41 := Tryz.underlying207
  a41 := Tryz.isAgg207
  z41 := Tryz.sizeOf207
  v41 := Tryz.zeroValue207
  t44 := Tryz.underlying210
  a44 := Tryz.isAgg210
  z44 := Tryz.sizeOf210
  v44 := Tryz.zeroValue210
  t46 := Tryz.underlying191
  a46 := Tryz.isAgg191
  z46 := Tryz.sizeOf191
  v46 := Tryz.zeroValue191
  t53 := Tryz.underlying234
  a53 := Tryz.isAgg234
  z53 := Tryz.sizeOf234
  v53 := Tryz.zeroValue234
  t57 := Tryz.underlying238
  a57 := Tryz.isAgg238
  z57 := Tryz.sizeOf238
  v57 := Tryz.zeroValue238
  t63 := Tryz.underlying248
  a63 := Tryz.isAgg248
  z63 := Tryz.sizeOf248
  v63 := Tryz.zeroValue248
  t64 := Tryz.underlying249
  a64 := Tryz.isAgg249
  z64 := Tryz.sizeOf249
  v64 := Tryz.zeroValue249 }
def Tryz.keysSt_ren : Go.Shelf.Ren := ⟨fun | 7 => 77 | 10 => 112 | n => n, fun | 23 => 94 | 26 => 3 | 3 => 103 | 28 => 131 | 0 => 0 | 27 => 130 | 33 => 159 | 4 => 4 | n => n, fun | n => n⟩
theorem Tryz.keysSt : Go.Proofs.SlLaysZI.n7 Tryz.prog Tryz.keysSt_ren := {
  mixed := by kernel_rfl
  f7 := ⟨Tryz.f77.name, by decide, Tryz.func77.trans (congrArg some (by kernel_rfl))⟩
  f10 := ⟨Tryz.f112.name, by decide, Tryz.func112.trans (congrArg some (by kernel_rfl))⟩
  t0 := Tryz.underlying0
  a0 := Tryz.isAgg0
  z0 := Tryz.sizeOf0
  v0 := Tryz.zeroValue0
  t4 := Tryz.underlying4
  a4 := Tryz.isAgg4
  z4 := Tryz.sizeOf4
  v4 := Tryz.zeroValue4
  t23 := Tryz.underlying94
  a23 := Tryz.isAgg94
  z23 := Tryz.sizeOf94
  v23 := Tryz.zeroValue94
  t26 := Tryz.underlying3
  a26 := Tryz.isAgg3
  z26 := Tryz.sizeOf3
  v26 := Tryz.zeroValue3
  t27 := Tryz.underlying130
  a27 := Tryz.isAgg130
  z27 := Tryz.sizeOf130
  v27 := Tryz.zeroValue130
  t28 := Tryz.underlying131
  a28 := Tryz.isAgg131
  z28 := Tryz.sizeOf131
  v28 := Tryz.zeroValue131
  t33 := Tryz.underlying159
  a33 := Tryz.isAgg159
  z33 := Tryz.sizeOf159
  v33 := Tryz.zeroValue159 }
def Tryz.keysTpl_ren : Go.Shelf.Ren := ⟨fun | 7 => 81 | 10 => 118 | n => n, fun | 23 => 95 | 26 => 9 | 3 => 52 | 28 => 141 | 0 => 0 | 27 => 140 | 33 => 122 | 4 => 4 | n => n, fun | n => n⟩
theorem Tryz.keysTpl : Go.Proofs.SlLaysZ.n7 Tryz.prog Tryz.keysTpl_ren := {
  mixed := by kernel_rfl
  f7 := ⟨Tryz.f81.name, by decide, Tryz.func81.trans (congrArg some (by kernel_rfl))⟩
  f10 := ⟨Tryz.f118.name, by decide, Tryz.func118.trans (congrArg some (by kernel_rfl))⟩
  t0 := Tryz.underlying0
  a0 := Tryz.isAgg0
  z0 := Tryz.sizeOf0
  v0 := Tryz.zeroValue0
  t4 := Tryz.underlying4
  a4 := Tryz.isAgg4
  z4 := Tryz.sizeOf4
  v4 := Tryz.zeroValue4
  t23 := Tryz.underlying95
  a23 := Tryz.isAgg95
  z23 := Tryz.sizeOf95
  v23 := Tryz.zeroValue95
  t26 := Tryz.underlying9
  a26 := Tryz.isAgg9
  z26 := Tryz.sizeOf9
  v26 := Tryz.zeroValue9
  t27 := Tryz.underlying140
  a27 := Tryz.isAgg140
  z27 := Tryz.sizeOf140
  v27 := Tryz.zeroValue140
  t28 := Tryz.underlying141
  a28 := Tryz.isAgg141
  z28 := Tryz.sizeOf141
  v28 := Tryz.zeroValue141
  t33 := Tryz.underlying122
  a33 := Tryz.isAgg122
  z33 := Tryz.sizeOf122
  v33 := Tryz.zeroValue122 }
def Tryz.keysEd_ren : Go.Shelf.Ren := ⟨fun | 7 => 113 | 10 => 129 | n => n, fun | 23 => 104 | 26 => 9 | 3 => 135 | 28 => 141 | 0 => 0 | 27 => 140 | 33 => 122 | 4 => 4 | n => n, fun | n => n⟩
theorem Tryz.keysEd : Go.Proofs.SlLaysZ.n7 Tryz.prog Tryz.keysEd_ren := {
  mixed := by kernel_rfl
  f7 := ⟨Tryz.f113.name, by decide, Tryz.func113.trans (congrArg some (by kernel_rfl))⟩
  f10 := ⟨Tryz.f129.name, by decide, Tryz.func129.trans (congrArg some (by kernel_rfl))⟩
  t0 := Tryz.underlying0
  a0 := Tryz.isAgg0
  z0 := Tryz.sizeOf0
  v0 := Tryz.zeroValue0
  t4 := Tryz.underlying4
  a4 := Tryz.isAgg4
  z4 := Tryz.sizeOf4
  v4 := Tryz.zeroValue4
  t23 := Tryz.underlying104
  a23 := Tryz.isAgg104
  z23 := Tryz.sizeOf104
  v23 := Tryz.zeroValue104
  t26 := Tryz.underlying9
  a26 := Tryz.isAgg9
  z26 := Tryz.sizeOf9
  v26 := Tryz.zeroValue9
  t27 := Tryz.underlying140
  a27 := Tryz.isAgg140
  z27 := Tryz.sizeOf140
  v27 := Tryz.zeroValue140
  t28 := Tryz.underlying141
  a28 := Tryz.isAgg141
  z28 := Tryz.sizeOf141
  v28 := Tryz.zeroValue141
  t33 := Tryz.underlying122
  a33 := Tryz.isAgg122
  z33 := Tryz.sizeOf122
  v33 := Tryz.zeroValue122 }
def Tryz.sortedS_ren : Go.Shelf.Ren := ⟨fun | 6 => 80 | 8 => 116 | 9 => 117 | 11 => 140 | 13 => 128 | 12 => 141 | 23 => 164 | 24 => 165 | 14 => 172 | 15 => 173 | 16 => 174 | 17 => 175 | 18 => 176 | 19 => 177 | 20 => 178 | 21 => 179 | 22 => 180 | 25 => 204 | 26 => 196 | 27 => 197 | 28 => 205 | 29 => 206 | 30 => 207 | 31 => 220 | n => n, fun | 26 => 9 | 28 => 141 | 24 => 30 | 0 => 0 | 3 => 3 | 37 => 175 | 48 => 210 | 50 => 191 | 4 => 4 | 40 => 203 | 39 => 202 | 45 => 207 | 5 => 5 | 9 => 9 | 51 => 234 | 55 => 238 | 57 => 248 | 58 => 249 | 33 => 122 | n => n, fun | n => n⟩
theorem Tryz.sortedS : Go.Proofs.SlLaysZ.n6 Tryz.prog Tryz.sortedS_ren := {
  mixed := by kernel_rfl
  f6 := ⟨Tryz.f80.name, by decide, Tryz.func80.trans (congrArg some (by kernel_rfl))⟩
  f8 := ⟨Tryz.f116.name, by decide, Tryz.func116.trans (congrArg some (by kernel_rfl))⟩
  f11 := ⟨Tryz.f140.name, by decide, Tryz.func140.trans (congrArg some (by kernel_rfl))⟩
  t0 := Tryz.underlying0
  a0 := Tryz.isAgg0
  z0 := Tryz.sizeOf0
  v0 := Tryz.zeroValue0
  t24 := Tryz.underlying30
  a24 := Tryz.isAgg30
  z24 := Tryz.sizeOf30
  v24 := Tryz.zeroValue30
  t26 := Tryz.underlying9
  a26 := Tryz.isAgg9
  z26 := Tryz.sizeOf9
  v26 := Tryz.zeroValue9
  t28 := Tryz.underlying141
  a28 := Tryz.isAgg141
  z28 := Tryz.sizeOf141
  v28 := Tryz.zeroValue141
  i26 := by kernel_rfl }
def Tryz.sortS_ren : Go.Shelf.Ren := ⟨fun | 6 => 117 | 8 => 128 | 9 => 141 | 19 => 164 | 20 => 165 | 21 => 172 | 22 => 173 | 23 => 174 | 24 => 175 | 25 => 176 | 26 => 177 | 27 => 178 | 28 => 179 | 29 => 180 | 36 => 204 | 31 => 196 | 32 => 197 | 37 => 205 | 38 => 206 | 39 => 207 | 41 => 220 | n => n, fun | 27 => 30 | 29 => 9 | 3 => 3 | 32 => 175 | 26 => 30 | 0 => 0 | 44 => 210 | 46 => 191 | 4 => 4 | 36 => 203 | 35 => 202 | 41 => 207 | 5 => 5 | 9 => 9 | 53 => 234 | 57 => 238 | 63 => 248 | 64 => 249 | n => n, fun | n => n⟩
theorem Tryz.sortS : Go.Proofs.SlLaysM.n6 Tryz.prog Tryz.sortS_ren := {
  mixed := by kernel_rfl
  f6 := ⟨Tryz.f117.name, by decide, Tryz.func117.trans (congrArg some (by kernel_rfl))⟩
  f8 := Tryz.func128.trans (congrArg some (by kernel_rfl))
  f9 := ⟨Tryz.f141.name, by decide, Tryz.func141.trans (congrArg some (by kernel_rfl))⟩
  f19 := Tryz.func164.trans (congrArg some (by kernel_rfl))
  f20 := Tryz.func165.trans (congrArg some (by kernel_rfl))
  f21 := ⟨Tryz.f172.name, by decide, Tryz.func172.trans (congrArg some (by kernel_rfl))⟩
  f22 := ⟨Tryz.f173.name, by decide, Tryz.func173.trans (congrArg some (by kernel_rfl))⟩
  f23 := ⟨Tryz.f174.name, by decide, Tryz.func174.trans (congrArg some (by kernel_rfl))⟩
  f24 := ⟨Tryz.f175.name, by decide, Tryz.func175.trans (congrArg some (by kernel_rfl))⟩
  f25 := ⟨Tryz.f176.name, by decide, Tryz.func176.trans (congrArg some (by kernel_rfl))⟩
  f26 := ⟨Tryz.f177.name, by decide, Tryz.func177.trans (congrArg some (by kernel_rfl))⟩
  f27 := ⟨Tryz.f178.name, by decide, Tryz.func178.trans (congrArg some (by kernel_rfl))⟩
  f28 := ⟨Tryz.f179.name, by decide, Tryz.func179.trans (congrArg some (by kernel_rfl))⟩
  f29 := ⟨Tryz.f180.name, by decide, Tryz.func180.trans (congrArg some (by kernel_rfl))⟩
  f31 := Tryz.func196.trans (congrArg some (by kernel_rfl))
  f32 := Tryz.func197.trans (congrArg some (by kernel_rfl))
  f36 := ⟨Tryz.f204.name, by decide, Tryz.func204.trans (congrArg some (by kernel_rfl))⟩
  f37 := ⟨Tryz.f205.name, by decide, Tryz.func205.trans (congrArg some (by kernel_rfl))⟩
  f38 := ⟨Tryz.f206.name, by decide, Tryz.func206.trans (congrArg some (by kernel_rfl))⟩
  f39 := ⟨Tryz.f207.name, by decide, Tryz.func207.trans (congrArg some (by kernel_rfl))⟩
  f41 := ⟨Tryz.f220.name, by decide, Tryz.func220.trans (congrArg some (by kernel_rfl))⟩
  t0 := Tryz.underlying0
  a0 := Tryz.isAgg0
  z0 := Tryz.sizeOf0
  v0 := Tryz.zeroValue0
  t3 := Tryz.underlying3
  a3 := Tryz.isAgg3
  z3 := Tryz.sizeOf3
  v3 := Tryz.zeroValue3
  t4 := Tryz.underlying4
  a4 := Tryz.isAgg4
  z4 := Tryz.sizeOf4
  v4 := Tryz.zeroValue4
  t5 := Tryz.underlying5
  a5 := Tryz.isAgg5
  z5 := Tryz.sizeOf5
  v5 := Tryz.zeroValue5
  t9 := Tryz.underlying9
  a9 := Tryz.isAgg9
  z9 := Tryz.sizeOf9
  v9 := Tryz.zeroValue9
  t26 := Tryz.underlying30
  a26 := Tryz.isAgg30
  z26 := Tryz.sizeOf30
  v26 := Tryz.zeroValue30
  t27 := Tryz.underlying30
  a27 := Tryz.isAgg30
  z27 := Tryz.sizeOf30
  v27 := Tryz.zeroValue30
  t29 := Tryz.underlying9
  a29 := Tryz.isAgg9
  z29 := Tryz.sizeOf9
  v29 := Tryz.zeroValue9
  t32 := Tryz.underlying175
  a32 := Tryz.isAgg175
  z32 := Tryz.sizeOf175
  v32 := Tryz.zeroValue175
  t35 := Tryz.underlying202
  a35 := Tryz.isAgg202
  z35 := Tryz.sizeOf202
  v35 := Tryz.zeroValue202
  t36 := Tryz.underlying203
  a36 := Tryz.isAgg203
  z36 := Tryz.sizeOf203
  v36 := Tryz.zeroValue203
  t41 := Tryz.underlying207
  a41 := Tryz.isAgg207
  z41 := Tryz.sizeOf207
  v41 := Tryz.zeroValue207
  t44 := Tryz.underlying210
  a44 := Tryz.isAgg210
  z44 := Tryz.sizeOf210
  v44 := Tryz.zeroValue210
  t46 := Tryz.underlying191
  a46 := Tryz.isAgg191
  z46 := Tryz.sizeOf191
  v46 := Tryz.zeroValue191
  t53 := Tryz.underlying234
  a53 := Tryz.isAgg234
  z53 := Tryz.sizeOf234
  v53 := Tryz.zeroValue234
  t57 := Tryz.underlying238
  a57 := Tryz.isAgg238
  z57 := Tryz.sizeOf238
  v57 := Tryz.zeroValue238
  t63 := Tryz.underlying248
  a63 := Tryz.isAgg248
  z63 := Tryz.sizeOf248
  v63 := Tryz.zeroValue248
  t64 := Tryz.underlying249
  a64 := Tryz.isAgg249
  z64 := Tryz.sizeOf249
  v64 := Tryz.zeroValue249 }
def Tryz.lays169_ren : Go.Shelf.Ren := ⟨fun | 169 => 43 | n => n, fun | 70 => 80 | 9 => 9 | 0 => 0 | 72 => 82 | 37 => 62 | 127 => 119 | 3 => 3 | 5 => 5 | n => n, fun | n => n⟩
theorem Tryz.lays169 : Go.Proofs.Lays.n169 Tryz.prog Tryz.lays169_ren := {
  mixed := by kernel_rfl
  f169 := Tryz.func43.trans (congrArg some (by kernel_rfl))
  t0 := Tryz.underlying0
  a0 := Tryz.isAgg0
  z0 := Tryz.sizeOf0
  v0 := Tryz.zeroValue0
  t3 := Tryz.underlying3
  a3 := Tryz.isAgg3
  z3 := Tryz.sizeOf3
  v3 := Tryz.zeroValue3
  t9 := Tryz.underlying9
  a9 := Tryz.isAgg9
  z9 := Tryz.sizeOf9
  v9 := Tryz.zeroValue9
  t37 := Tryz.underlying62
  a37 := Tryz.isAgg62
  z37 := Tryz.sizeOf62
  v37 := Tryz.zeroValue62
  t70 := Tryz.underlying80
  a70 := Tryz.isAgg80
  z70 := Tryz.sizeOf80
  v70 := Tryz.zeroValue80
  t72 := Tryz.underlying82
  a72 := Tryz.isAgg82
  z72 := Tryz.sizeOf82
  v72 := Tryz.zeroValue82
  t127 := Tryz.underlying119
  a127 := Tryz.isAgg119
  z127 := Tryz.sizeOf119
  v127 := Tryz.zeroValue119 }
theorem Tryz.Builder_Extra_169 : Builder.Extra Tryz.prog Tryz.lays169_ren := {
  sizeBuilder := by kernel_rfl
  liesBuilder := by kernel_rfl
  t5 := Tryz.underlying5
  a5 := Tryz.isAgg5
  z5 := Tryz.sizeOf5
  v5 := Tryz.zeroValue5
  infoByte := by kernel_rfl
  cellsByte := by kernel_rfl
  sizeByte := by kernel_rfl
  neB5 := by decide }
open Go.RowKit in
theorem Tryz.Builder_String (B b : Nat) (l : List UInt8) (w : World) (h : Lib.IsBuilder 82 5 B b (Lib.byteCells l) w) (h0 : l ≠ []) :
    Calls Tryz.prog 43 #[.pointer (some ⟨b, 0, none⟩)] w fun e w' => e = .returned (.string ⟨l.toArray⟩) ∧ Below B w w' := Any.Builder_String Tryz.lays169 Tryz.Builder_Extra_169 B b l w h h0
open Go.RowKit in
theorem Tryz.Builder_String_empty (B b : Nat) (w : World) (h : Lib.IsBuilder 82 5 B b [] w) (hBw : B ≤ w.heap.size) :
    Calls Tryz.prog 43 #[.pointer (some ⟨b, 0, none⟩)] w fun e w' => e = .returned (.string ⟨#[]⟩) ∧ Below B w w' := Any.Builder_String_empty Tryz.lays169 Tryz.Builder_Extra_169 B b w h hBw
open Go.RowKit in
theorem Tryz.Builder_String_any (B b : Nat) (l : List UInt8) (w : World) (h : Lib.IsBuilder 82 5 B b (Lib.byteCells l) w) (hBw : B ≤ w.heap.size) :
    Calls Tryz.prog 43 #[.pointer (some ⟨b, 0, none⟩)] w fun e w' => e = .returned (.string ⟨l.toArray⟩) ∧ Below B w w' := Any.Builder_String_any Tryz.lays169 Tryz.Builder_Extra_169 B b l w h hBw
def Tryz.lays156_ren : Go.Shelf.Ren := ⟨fun | 156 => 99 | 165 => 123 | 166 => 41 | 169 => 43 | 240 => 63 | 241 => 151 | 276 => 94 | 277 => 187 | n => n, fun | 31 => 30 | 9 => 9 | 3 => 3 | 4 => 4 | 0 => 0 | 20 => 20 | 72 => 82 | 76 => 85 | 70 => 80 | 37 => 62 | 75 => 84 | 127 => 119 | 164 => 152 | 5 => 5 | 80 => 89 | n => n, fun | n => n⟩
theorem Tryz.lays156 : Go.Proofs.Lays.n156 Tryz.prog Tryz.lays156_ren := {
  mixed := by kernel_rfl
  f156 := Tryz.func99.trans (congrArg some (by kernel_rfl))
  f165 := Tryz.func123.trans (congrArg some (by kernel_rfl))
  f166 := Tryz.func41.trans (congrArg some (by kernel_rfl))
  f169 := Tryz.func43.trans (congrArg some (by kernel_rfl))
  f240 := Tryz.func63.trans (congrArg some (by kernel_rfl))
  f241 := Tryz.func151.trans (congrArg some (by kernel_rfl))
  f276 := Tryz.func94.trans (congrArg some (by kernel_rfl))
  f277 := Tryz.func187.trans (congrArg some (by kernel_rfl))
  t0 := Tryz.underlying0
  a0 := Tryz.isAgg0
  z0 := Tryz.sizeOf0
  v0 := Tryz.zeroValue0
  t3 := Tryz.underlying3
  a3 := Tryz.isAgg3
  z3 := Tryz.sizeOf3
  v3 := Tryz.zeroValue3
  t4 := Tryz.underlying4
  a4 := Tryz.isAgg4
  z4 := Tryz.sizeOf4
  v4 := Tryz.zeroValue4
  t9 := Tryz.underlying9
  a9 := Tryz.isAgg9
  z9 := Tryz.sizeOf9
  v9 := Tryz.zeroValue9
  t20 := Tryz.underlying20
  a20 := Tryz.isAgg20
  z20 := Tryz.sizeOf20
  v20 := Tryz.zeroValue20
  t31 := Tryz.underlying30
  a31 := Tryz.isAgg30
  z31 := Tryz.sizeOf30
  v31 := Tryz.zeroValue30
  t37 := Tryz.underlying62
  a37 := Tryz.isAgg62
  z37 := Tryz.sizeOf62
  v37 := Tryz.zeroValue62
  t70 := Tryz.underlying80
  a70 := Tryz.isAgg80
  z70 := Tryz.sizeOf80
  v70 := Tryz.zeroValue80
  t72 := Tryz.underlying82
  a72 := Tryz.isAgg82
  z72 := Tryz.sizeOf82
  v72 := Tryz.zeroValue82
  t75 := Tryz.underlying84
  a75 := Tryz.isAgg84
  z75 := Tryz.sizeOf84
  v75 := Tryz.zeroValue84
  t76 := Tryz.underlying85
  a76 := Tryz.isAgg85
  z76 := Tryz.sizeOf85
  v76 := Tryz.zeroValue85
  t127 := Tryz.underlying119
  a127 := Tryz.isAgg119
  z127 := Tryz.sizeOf119
  v127 := Tryz.zeroValue119
  t164 := Tryz.underlying152
  a164 := Tryz.isAgg152
  z164 := Tryz.sizeOf152
  v164 := Tryz.zeroValue152 }
theorem Tryz.Builder_Extra_156 : Builder.Extra Tryz.prog Tryz.lays156_ren := {
  sizeBuilder := by kernel_rfl
  liesBuilder := by kernel_rfl
  t5 := Tryz.underlying5
  a5 := Tryz.isAgg5
  z5 := Tryz.sizeOf5
  v5 := Tryz.zeroValue5
  infoByte := by kernel_rfl
  cellsByte := by kernel_rfl
  sizeByte := by kernel_rfl
  neB5 := by decide }
open Go.RowKit in
theorem Tryz.strings_Join_none (a : Option Addr) (c : Nat) (sep : ByteArray) (w : World) :
    Calls Tryz.prog 99 #[.slice a 0 c, .string sep] w fun e w' => e = .returned (.string ⟨#[]⟩) ∧ w' = w := Any.strings_Join_none Tryz.lays156 Tryz.Builder_Extra_156 a c sep w
open Go.RowKit in
theorem Tryz.strings_Join (bk o c : Nat) (xs : List ByteArray) (sep : ByteArray) (w : World) (hcells : ∀ (j : Nat) x, xs[j]? = some x → w.cell? ⟨bk, o + j, none⟩ = some (.string x)) (hbk : bk < w.heap.size) (hN : xs.length ≤ 140737488355328) (hcap : xs.length ≤ c) (hlen : (Lib.join (xs.map (·.data.toList)) sep.data.toList).length ≤ 140737488355328) :
    Calls Tryz.prog 99 #[.slice (some ⟨bk, o, none⟩) xs.length c, .string sep] w fun e w' => e = .returned (.string ⟨(Lib.join (xs.map (·.data.toList)) sep.data.toList).toArray⟩) ∧ Below w.heap.size w w' := Any.strings_Join Tryz.lays156 Tryz.Builder_Extra_156 bk o c xs sep w hcells hbk hN hcap hlen
def Tryz.lays160_ren : Go.Shelf.Ren := ⟨fun | 160 => 154 | 232 => 189 | 231 => 188 | 227 => 190 | 234 => 192 | 233 => 191 | 236 => 194 | 235 => 193 | 228 => 213 | 271 => 216 | 151 => 215 | 197 => 214 | 120 => 223 | 152 => 222 | 260 => 221 | 137 => 225 | 119 => 226 | 224 => 227 | 225 => 228 | 217 => 229 | 266 => 230 | n => n, fun | 9 => 9 | 4 => 4 | 3 => 3 | 5 => 5 | 117 => 230 | 116 => 229 | 0 => 0 | 124 => 233 | 21 => 21 | 105 => 245 | 46 => 175 | 119 => 259 | 139 => 262 | 138 => 261 | n => n, fun | 3 => 4 | 4 => 5 | n => n⟩
theorem Tryz.lays160 : Go.Proofs.Lays.n160 Tryz.prog Tryz.lays160_ren := {
  mixed := by kernel_rfl
  f119 := Tryz.func226.trans (congrArg some (by kernel_rfl))
  f120 := Tryz.func223.trans (congrArg some (by kernel_rfl))
  f137 := Tryz.func225.trans (congrArg some (by kernel_rfl))
  f151 := Tryz.func215.trans (congrArg some (by kernel_rfl))
  f152 := Tryz.func222.trans (congrArg some (by kernel_rfl))
  f160 := Tryz.func154.trans (congrArg some (by kernel_rfl))
  f197 := Tryz.func214.trans (congrArg some (by kernel_rfl))
  f217 := Tryz.func229.trans (congrArg some (by kernel_rfl))
  f224 := Tryz.func227.trans (congrArg some (by kernel_rfl))
  f225 := Tryz.func228.trans (congrArg some (by kernel_rfl))
  f227 := Tryz.func190.trans (congrArg some (by kernel_rfl))
  f228 := Tryz.func213.trans (congrArg some (by kernel_rfl))
  f231 := Tryz.func188.trans (congrArg some (by kernel_rfl))
  f232 := Tryz.func189.trans (congrArg some (by kernel_rfl))
  f233 := Tryz.func191.trans (congrArg some (by kernel_rfl))
  f234 := Tryz.func192.trans (congrArg some (by kernel_rfl))
  f235 := Tryz.func193.trans (congrArg some (by kernel_rfl))
  f236 := Tryz.func194.trans (congrArg some (by kernel_rfl))
  f260 := Tryz.func221.trans (congrArg some (by kernel_rfl))
  f266 := Tryz.func230.trans (congrArg some (by kernel_rfl))
  f271 := Tryz.func216.trans (congrArg some (by kernel_rfl))
  t0 := Tryz.underlying0
  a0 := Tryz.isAgg0
  z0 := Tryz.sizeOf0
  v0 := Tryz.zeroValue0
  t3 := Tryz.underlying3
  a3 := Tryz.isAgg3
  z3 := Tryz.sizeOf3
  v3 := Tryz.zeroValue3
  t4 := Tryz.underlying4
  a4 := Tryz.isAgg4
  z4 := Tryz.sizeOf4
  v4 := Tryz.zeroValue4
  t5 := Tryz.underlying5
  a5 := Tryz.isAgg5
  z5 := Tryz.sizeOf5
  v5 := Tryz.zeroValue5
  t9 := Tryz.underlying9
  a9 := Tryz.isAgg9
  z9 := Tryz.sizeOf9
  v9 := Tryz.zeroValue9
  t21 := Tryz.underlying21
  a21 := Tryz.isAgg21
  z21 := Tryz.sizeOf21
  v21 := Tryz.zeroValue21
  t46 := Tryz.underlying175
  a46 := Tryz.isAgg175
  z46 := Tryz.sizeOf175
  v46 := Tryz.zeroValue175
  t105 := Tryz.underlying245
  a105 := Tryz.isAgg245
  z105 := Tryz.sizeOf245
  v105 := Tryz.zeroValue245
  t116 := Tryz.underlying229
  a116 := Tryz.isAgg229
  z116 := Tryz.sizeOf229
  t117 := Tryz.underlying230
  a117 := Tryz.isAgg230
  z117 := Tryz.sizeOf230
  v117 := Tryz.zeroValue230
  t119 := Tryz.underlying259
  a119 := Tryz.isAgg259
  z119 := Tryz.sizeOf259
  t124 := Tryz.underlying233
  a124 := Tryz.isAgg233
  z124 := Tryz.sizeOf233
  v124 := Tryz.zeroValue233
  t138 := Tryz.underlying261
  a138 := Tryz.isAgg261
  z138 := Tryz.sizeOf261
  v138 := Tryz.zeroValue261
  t139 := Tryz.underlying262
  a139 := Tryz.isAgg262
  z139 := Tryz.sizeOf262
  v139 := Tryz.zeroValue262
  g3 := by kernel_rfl
  g4 := by kernel_rfl }
open Go.RowKit in
theorem Tryz.strings_Trim_one (s : ByteArray) (c : UInt8) (hc : c.toNat < 128) (w : World) (hs : s.size ≤ 9223372036854775807) :
    Calls Tryz.prog 154 #[.string s, .string ⟨#[c]⟩] w fun e w' => e = .returned (.string ⟨(Lib.trimB s.data.toList c).toArray⟩) ∧ (w' = w ∨ w' = w.drew) := Any.strings_Trim_one Tryz.lays160 s c hc w hs
open Go.RowKit in
theorem Tryz.Builder_String_k (B b : Nat) (l : List UInt8) (w : World) (h : Lib.IsBuilderF 82 5 B b (Lib.byteCells l) w) (h0 : l ≠ []) :
    Calls Tryz.prog 43 #[.pointer (some ⟨b, 0, none⟩)] w fun e w' => e = .returned (.string ⟨l.toArray⟩) ∧ (Lib.IsBuilderF 82 5 B b (Lib.byteCells l) w' ∧ Below B w w' ∧ Lib.OthersKept 5 (some b) w w') := Any.Builder_String_k Tryz.lays169 Tryz.Builder_Extra_169 B b l w h h0
open Go.RowKit in
theorem Tryz.Builder_String_empty_k (B b : Nat) (w : World) (h : Lib.IsBuilderF 82 5 B b [] w) (hBw : B ≤ w.heap.size) :
    Calls Tryz.prog 43 #[.pointer (some ⟨b, 0, none⟩)] w fun e w' => e = .returned (.string ⟨#[]⟩) ∧ (Lib.IsBuilderF 82 5 B b [] w' ∧ Below B w w' ∧ Lib.OthersKept 5 (some b) w w') := Any.Builder_String_empty_k Tryz.lays169 Tryz.Builder_Extra_169 B b w h hBw
open Go.RowKit in
theorem Tryz.Builder_String_any_k (B b : Nat) (l : List UInt8) (w : World) (h : Lib.IsBuilderF 82 5 B b (Lib.byteCells l) w) (hBw : B ≤ w.heap.size) :
    Calls Tryz.prog 43 #[.pointer (some ⟨b, 0, none⟩)] w fun e w' => e = .returned (.string ⟨l.toArray⟩) ∧ (Lib.IsBuilderF 82 5 B b (Lib.byteCells l) w' ∧ Below B w w' ∧ Lib.OthersKept 5 (some b) w w') := Any.Builder_String_any_k Tryz.lays169 Tryz.Builder_Extra_169 B b l w h hBw
def Tryz.lays171_ren : Go.Shelf.Ren := ⟨fun | 171 => 54 | 243 => 84 | 246 => 119 | 283 => 142 | 284 => 143 | 285 => 144 | 286 => 145 | 129 => 165 | 317 => 181 | 318 => 182 | 319 => 183 | 320 => 184 | 337 => 208 | 338 => 209 | n => n, fun | 3 => 3 | 9 => 9 | 2 => 2 | 4 => 4 | 171 => 190 | 0 => 0 | 53 => 191 | 37 => 62 | 5 => 5 | 173 => 194 | 212 => 223 | 51 => 210 | 20 => 20 | 213 => 224 | 46 => 175 | 232 => 255 | 233 => 256 | n => n, fun | 17 => 0 | 18 => 2 | 19 => 3 | n => n⟩
theorem Tryz.lays171 : Go.Proofs.Lays.n171 Tryz.prog Tryz.lays171_ren := {
  mixed := by kernel_rfl
  f129 := Tryz.func165.trans (congrArg some (by kernel_rfl))
  f171 := Tryz.func54.trans (congrArg some (by kernel_rfl))
  f243 := Tryz.func84.trans (congrArg some (by kernel_rfl))
  f246 := Tryz.func119.trans (congrArg some (by kernel_rfl))
  f283 := Tryz.func142.trans (congrArg some (by kernel_rfl))
  f284 := Tryz.func143.trans (congrArg some (by kernel_rfl))
  f285 := Tryz.func144.trans (congrArg some (by kernel_rfl))
  f286 := Tryz.func145.trans (congrArg some (by kernel_rfl))
  f317 := Tryz.func181.trans (congrArg some (by kernel_rfl))
  f318 := Tryz.func182.trans (congrArg some (by kernel_rfl))
  f319 := Tryz.func183.trans (congrArg some (by kernel_rfl))
  f320 := Tryz.func184.trans (congrArg some (by kernel_rfl))
  f337 := Tryz.func208.trans (congrArg some (by kernel_rfl))
  f338 := Tryz.func209.trans (congrArg some (by kernel_rfl))
  t0 := Tryz.underlying0
  a0 := Tryz.isAgg0
  z0 := Tryz.sizeOf0
  v0 := Tryz.zeroValue0
  t2 := Tryz.underlying2
  a2 := Tryz.isAgg2
  z2 := Tryz.sizeOf2
  v2 := Tryz.zeroValue2
  t3 := Tryz.underlying3
  a3 := Tryz.isAgg3
  z3 := Tryz.sizeOf3
  v3 := Tryz.zeroValue3
  t4 := Tryz.underlying4
  a4 := Tryz.isAgg4
  z4 := Tryz.sizeOf4
  v4 := Tryz.zeroValue4
  t5 := Tryz.underlying5
  a5 := Tryz.isAgg5
  z5 := Tryz.sizeOf5
  v5 := Tryz.zeroValue5
  t9 := Tryz.underlying9
  a9 := Tryz.isAgg9
  z9 := Tryz.sizeOf9
  v9 := Tryz.zeroValue9
  t20 := Tryz.underlying20
  a20 := Tryz.isAgg20
  z20 := Tryz.sizeOf20
  v20 := Tryz.zeroValue20
  t37 := Tryz.underlying62
  a37 := Tryz.isAgg62
  z37 := Tryz.sizeOf62
  v37 := Tryz.zeroValue62
  t46 := Tryz.underlying175
  a46 := Tryz.isAgg175
  z46 := Tryz.sizeOf175
  v46 := Tryz.zeroValue175
  t51 := Tryz.underlying210
  a51 := Tryz.isAgg210
  z51 := Tryz.sizeOf210
  v51 := Tryz.zeroValue210
  t53 := Tryz.underlying191
  a53 := Tryz.isAgg191
  z53 := Tryz.sizeOf191
  v53 := Tryz.zeroValue191
  t171 := Tryz.underlying190
  a171 := Tryz.isAgg190
  z171 := Tryz.sizeOf190
  v171 := Tryz.zeroValue190
  t173 := Tryz.underlying194
  a173 := Tryz.isAgg194
  z173 := Tryz.sizeOf194
  v173 := Tryz.zeroValue194
  t212 := Tryz.underlying223
  a212 := Tryz.isAgg223
  z212 := Tryz.sizeOf223
  v212 := Tryz.zeroValue223
  t213 := Tryz.underlying224
  a213 := Tryz.isAgg224
  z213 := Tryz.sizeOf224
  t232 := Tryz.underlying255
  a232 := Tryz.isAgg255
  z232 := Tryz.sizeOf255
  v232 := Tryz.zeroValue255
  t233 := Tryz.underlying256
  a233 := Tryz.isAgg256
  z233 := Tryz.sizeOf256
  v233 := Tryz.zeroValue256
  g17 := by kernel_rfl
  g18 := by kernel_rfl
  g19 := by kernel_rfl }
open Go.RowKit Go.Sort Go.Lib in
theorem Tryz.strconv_Itoa_small (i : Nat) (hi : i < 100) (w : World) :
    Calls Tryz.prog 54 #[.int .i64 i] w fun e w' => e = .returned (.string ⟨(Lib.decDigits i).toArray⟩) ∧ w' = w := Any.strconv_Itoa_small Tryz.lays171 i hi w
def Tryz.lays110_ren : Go.Shelf.Ren := ⟨fun | 110 => 85 | 109 => 120 | n => n, fun | 31 => 30 | 9 => 9 | 4 => 4 | 3 => 3 | 0 => 0 | n => n, fun | n => n⟩
theorem Tryz.lays110 : Go.Proofs.Lays.n110 Tryz.prog Tryz.lays110_ren := {
  mixed := by kernel_rfl
  f109 := Tryz.func120.trans (congrArg some (by kernel_rfl))
  f110 := Tryz.func85.trans (congrArg some (by kernel_rfl))
  t0 := Tryz.underlying0
  a0 := Tryz.isAgg0
  z0 := Tryz.sizeOf0
  v0 := Tryz.zeroValue0
  t3 := Tryz.underlying3
  a3 := Tryz.isAgg3
  z3 := Tryz.sizeOf3
  v3 := Tryz.zeroValue3
  t4 := Tryz.underlying4
  a4 := Tryz.isAgg4
  z4 := Tryz.sizeOf4
  v4 := Tryz.zeroValue4
  t9 := Tryz.underlying9
  a9 := Tryz.isAgg9
  z9 := Tryz.sizeOf9
  v9 := Tryz.zeroValue9
  t31 := Tryz.underlying30
  a31 := Tryz.isAgg30
  z31 := Tryz.sizeOf30
  v31 := Tryz.zeroValue30 }
open Go.Lib in
theorem Tryz.slices_Contains_string (b off n c : Nat) (zs : List ByteArray) (x : ByteArray) (w : World) (hz : n ≤ zs.length) (hbig : n ≤ 9223372036854775807) (hc : ∀ j, j < zs.length → w.cell? ⟨b, off + j, none⟩ = some (.string (zs.getD j ByteArray.empty))) :
    Calls Tryz.prog 85 #[.slice (some ⟨b, off, none⟩) n c, .string x] w fun e w' => e = .returned (.bool (Lib.containsS (zs.take n) x)) ∧ w' = w := Any.slices_Contains_string Tryz.lays110 b off n c zs x w hz hbig hc
open Go.Lib in
theorem Tryz.slices_Contains_string_empty (a : Option Addr) (c : Nat) (x : ByteArray) (w : World) :
    Calls Tryz.prog 85 #[.slice a 0 c, .string x] w fun e w' => e = .returned (.bool false) ∧ w' = w := Any.slices_Contains_string_empty Tryz.lays110 a c x w
def Tryz.lays193_ren : Go.Shelf.Ren := ⟨fun | 193 => 87 | n => n, fun | 31 => 30 | 9 => 9 | 4 => 4 | 3 => 3 | 0 => 0 | n => n, fun | n => n⟩
theorem Tryz.lays193 : Go.Proofs.Lays.n193 Tryz.prog Tryz.lays193_ren := {
  mixed := by kernel_rfl
  f193 := Tryz.func87.trans (congrArg some (by kernel_rfl))
  t0 := Tryz.underlying0
  a0 := Tryz.isAgg0
  z0 := Tryz.sizeOf0
  v0 := Tryz.zeroValue0
  t3 := Tryz.underlying3
  a3 := Tryz.isAgg3
  z3 := Tryz.sizeOf3
  v3 := Tryz.zeroValue3
  t4 := Tryz.underlying4
  a4 := Tryz.isAgg4
  z4 := Tryz.sizeOf4
  v4 := Tryz.zeroValue4
  t9 := Tryz.underlying9
  a9 := Tryz.isAgg9
  z9 := Tryz.sizeOf9
  v9 := Tryz.zeroValue9
  t31 := Tryz.underlying30
  a31 := Tryz.isAgg30
  z31 := Tryz.sizeOf30
  v31 := Tryz.zeroValue30 }
open Go.RowKit Go.Lib in
theorem Tryz.slices_Equal_string (b1 o1 n c b2 o2 m d : Nat) (xs ys : List ByteArray) (w : World) (hx : n ≤ xs.length) (hy : m ≤ ys.length) (hbig : n ≤ 9223372036854775807) (hbig2 : m ≤ 9223372036854775807) (hc1 : ∀ j, j < xs.length → w.cell? ⟨b1, o1 + j, none⟩ = some (.string (xs.getD j ByteArray.empty))) (hc2 : ∀ j, j < ys.length → w.cell? ⟨b2, o2 + j, none⟩ = some (.string (ys.getD j ByteArray.empty))) :
    Calls Tryz.prog 87 #[.slice (some ⟨b1, o1, none⟩) n c, .slice (some ⟨b2, o2, none⟩) m d] w fun e w' => e = .returned (.bool (decide (xs.take n = ys.take m))) ∧ ∃ q, w' = w.drewN q := Any.slices_Equal_string Tryz.lays193 b1 o1 n c b2 o2 m d xs ys w hx hy hbig hbig2 hc1 hc2
open Go.RowKit Go.Lib in
theorem Tryz.slices_Equal_string_empty (a1 a2 : Option Addr) (c m d : Nat) (w : World) (hbig2 : m ≤ 9223372036854775807) :
    Calls Tryz.prog 87 #[.slice a1 0 c, .slice a2 m d] w fun e w' => e = .returned (.bool (decide (m = 0))) ∧ w' = w := Any.slices_Equal_string_empty Tryz.lays193 a1 a2 c m d w hbig2
open Go.RowKit Go.Lib in
theorem Tryz.slices_Equal_string_lens (a1 a2 : Option Addr) (n c m d : Nat) (w : World) (hnm : n ≠ m) :
    Calls Tryz.prog 87 #[.slice a1 n c, .slice a2 m d] w fun e w' => e = .returned (.bool false) ∧ w' = w := Any.slices_Equal_string_lens Tryz.lays193 a1 a2 n c m d w hnm
def Tryz.laysW_ren : Go.Shelf.Ren := ⟨fun | 166 => 41 | 167 => 42 | 240 => 63 | 276 => 94 | n => n, fun | 0 => 0 | 3 => 3 | 4 => 4 | 5 => 5 | 9 => 9 | 20 => 20 | 37 => 62 | 70 => 80 | 72 => 82 | 75 => 84 | 164 => 152 | 80 => 89 | 76 => 85 | n => n, fun | n => n⟩
theorem Tryz.lays166 : Go.Proofs.Lays.n166 Tryz.prog Tryz.laysW_ren := {
  mixed := by kernel_rfl
  f166 := Tryz.func41.trans (congrArg some (by kernel_rfl))
  f240 := Tryz.func63.trans (congrArg some (by kernel_rfl))
  f276 := Tryz.func94.trans (congrArg some (by kernel_rfl))
  t0 := Tryz.underlying0
  a0 := Tryz.isAgg0
  z0 := Tryz.sizeOf0
  v0 := Tryz.zeroValue0
  t3 := Tryz.underlying3
  a3 := Tryz.isAgg3
  z3 := Tryz.sizeOf3
  v3 := Tryz.zeroValue3
  t4 := Tryz.underlying4
  a4 := Tryz.isAgg4
  z4 := Tryz.sizeOf4
  v4 := Tryz.zeroValue4
  t9 := Tryz.underlying9
  a9 := Tryz.isAgg9
  z9 := Tryz.sizeOf9
  v9 := Tryz.zeroValue9
  t20 := Tryz.underlying20
  a20 := Tryz.isAgg20
  z20 := Tryz.sizeOf20
  v20 := Tryz.zeroValue20
  t37 := Tryz.underlying62
  a37 := Tryz.isAgg62
  z37 := Tryz.sizeOf62
  v37 := Tryz.zeroValue62
  t70 := Tryz.underlying80
  a70 := Tryz.isAgg80
  z70 := Tryz.sizeOf80
  v70 := Tryz.zeroValue80
  t72 := Tryz.underlying82
  a72 := Tryz.isAgg82
  z72 := Tryz.sizeOf82
  v72 := Tryz.zeroValue82
  t75 := Tryz.underlying84
  a75 := Tryz.isAgg84
  z75 := Tryz.sizeOf84
  v75 := Tryz.zeroValue84
  t164 := Tryz.underlying152
  a164 := Tryz.isAgg152
  z164 := Tryz.sizeOf152
  v164 := Tryz.zeroValue152 }
theorem Tryz.lays167 : Go.Proofs.Lays.n167 Tryz.prog Tryz.laysW_ren := {
  mixed := by kernel_rfl
  f167 := Tryz.func42.trans (congrArg some (by kernel_rfl))
  f240 := Tryz.func63.trans (congrArg some (by kernel_rfl))
  f276 := Tryz.func94.trans (congrArg some (by kernel_rfl))
  t0 := Tryz.underlying0
  a0 := Tryz.isAgg0
  z0 := Tryz.sizeOf0
  v0 := Tryz.zeroValue0
  t4 := Tryz.underlying4
  a4 := Tryz.isAgg4
  z4 := Tryz.sizeOf4
  v4 := Tryz.zeroValue4
  t5 := Tryz.underlying5
  a5 := Tryz.isAgg5
  z5 := Tryz.sizeOf5
  v5 := Tryz.zeroValue5
  t9 := Tryz.underlying9
  a9 := Tryz.isAgg9
  z9 := Tryz.sizeOf9
  v9 := Tryz.zeroValue9
  t20 := Tryz.underlying20
  a20 := Tryz.isAgg20
  z20 := Tryz.sizeOf20
  v20 := Tryz.zeroValue20
  t37 := Tryz.underlying62
  a37 := Tryz.isAgg62
  z37 := Tryz.sizeOf62
  v37 := Tryz.zeroValue62
  t70 := Tryz.underlying80
  a70 := Tryz.isAgg80
  z70 := Tryz.sizeOf80
  v70 := Tryz.zeroValue80
  t72 := Tryz.underlying82
  a72 := Tryz.isAgg82
  z72 := Tryz.sizeOf82
  v72 := Tryz.zeroValue82
  t75 := Tryz.underlying84
  a75 := Tryz.isAgg84
  z75 := Tryz.sizeOf84
  v75 := Tryz.zeroValue84
  t164 := Tryz.underlying152
  a164 := Tryz.isAgg152
  z164 := Tryz.sizeOf152
  v164 := Tryz.zeroValue152 }
theorem Tryz.Builder_Extra_W : Builder.Extra Tryz.prog Tryz.laysW_ren := {
  sizeBuilder := by kernel_rfl
  liesBuilder := by kernel_rfl
  t5 := Tryz.underlying5
  a5 := Tryz.isAgg5
  z5 := Tryz.sizeOf5
  v5 := Tryz.zeroValue5
  infoByte := by kernel_rfl
  cellsByte := by kernel_rfl
  sizeByte := by kernel_rfl
  neB5 := by decide }
open Go.RowKit in
theorem Tryz.Builder_WriteByte (B b : Nat) (bs : List Value) (c : Int) (w : World) (h : Lib.IsBuilder 82 5 B b bs w) (hlen : bs.length + 1 ≤ 140737488355328) (hBw : B ≤ w.heap.size) :
    Calls Tryz.prog 42 #[.pointer (some ⟨b, 0, none⟩), .int .u8 c] w fun e w' => e = .returned .nilIface ∧ (Lib.BuilderAt 82 5 B b (.pointer (some ⟨b, 0, none⟩)) (bs ++ [.int .u8 c]) w' ∧ Below B w w') := Any.Builder_WriteByte Tryz.lays167 Tryz.Builder_Extra_W B b bs c w h hlen hBw
open Go.RowKit in
theorem Tryz.Builder_WriteString (B b : Nat) (bs : List Value) (s : ByteArray) (w : World) (h : Lib.IsBuilder 82 5 B b bs w) (hlen : bs.length + s.size ≤ 140737488355328) (hBw : B ≤ w.heap.size) :
    Calls Tryz.prog 41 #[.pointer (some ⟨b, 0, none⟩), .string s] w fun e w' => e = .returned (.tuple #[.int .i64 s.size, .nilIface]) ∧ (Lib.BuilderAt 82 5 B b (.pointer (some ⟨b, 0, none⟩)) (bs ++ Lib.strCells s) w' ∧ Below B w w') := Any.Builder_WriteString Tryz.lays166 Tryz.Builder_Extra_W B b bs s w h hlen hBw
open Go.RowKit in
theorem Tryz.Builder_WriteByte_k (B b : Nat) (bs : List Value) (c : Int) (w : World) (h : Lib.IsBuilderF 82 5 B b bs w) (hlen : bs.length + 1 ≤ 140737488355328) (hBw : B ≤ w.heap.size) :
    Calls Tryz.prog 42 #[.pointer (some ⟨b, 0, none⟩), .int .u8 c] w fun e w' => e = .returned .nilIface ∧ (Lib.BuilderAtF 82 5 B b (.pointer (some ⟨b, 0, none⟩)) (bs ++ [.int .u8 c]) w' ∧ Below B w w' ∧ Lib.OthersKept 5 (some b) w w') := Any.Builder_WriteByte_k Tryz.lays167 Tryz.Builder_Extra_W B b bs c w h hlen hBw
open Go.RowKit in
theorem Tryz.Builder_WriteString_k (B b : Nat) (bs : List Value) (s : ByteArray) (w : World) (h : Lib.IsBuilderF 82 5 B b bs w) (hlen : bs.length + s.size ≤ 140737488355328) (hBw : B ≤ w.heap.size) :
    Calls Tryz.prog 41 #[.pointer (some ⟨b, 0, none⟩), .string s] w fun e w' => e = .returned (.tuple #[.int .i64 s.size, .nilIface]) ∧ (Lib.BuilderAtF 82 5 B b (.pointer (some ⟨b, 0, none⟩)) (bs ++ Lib.strCells s) w' ∧ Below B w w' ∧ Lib.OthersKept 5 (some b) w w') := Any.Builder_WriteString_k Tryz.lays166 Tryz.Builder_Extra_W B b bs s w h hlen hBw
end Go.Proofs
namespace Go.Proofs.YtdkkhmjlamkgdaaGreatDoor
open Go.RowKit Mg Go.Shelf Go.Maps Go.Sort

section
variable {P : Program} {k : TypeId} {w : World} {b n : Nat} {D : DataW Value}
theorem keys_i (hown : w.ownsMap P k heldV b n D) (K : Keyed P k) (hk : P.underlying k = some (.int .i64)) : (intKeys D).Nodup ∧ ∀ x, x ∈ intKeys D ↔ Maps.has D (.int .i64 x) = true := by
  obtain ⟨es, hD, hpw, _⟩ := hown.entries K
  obtain ⟨es', hD', hko⟩ := hown.keysOf
  obtain rfl : es = es' := by rw [hD] at hD'; simpa using hD'
  subst hD
  have hke : ∀ p ∈ es, ∃ x, p.1 = .int .i64 x := fun p hp => by obtain ⟨v, hv⟩ := hko p hp; obtain ⟨x, _, hx, _⟩ := Maps.keyOf_i64 hk hv; exact ⟨x, hx⟩
  refine ⟨?_, fun x => ?_⟩
  · show (es.map fun p => Go.intOf p.1).Nodup
    refine List.pairwise_map.2 (hpw.imp_of_mem fun {p q} hp' hq' hne e => hne ?_)
    obtain ⟨a, ha⟩ := hke p hp'
    obtain ⟨b, hb⟩ := hke q hq'
    rw [ha, hb] at e ⊢
    exact congrArg _ e
  · rw [has_eq, List.any_eq_true]
    show x ∈ es.map (fun p => Go.intOf p.1) ↔ _
    rw [List.mem_map]
    constructor
    · rintro ⟨p, hp', rfl⟩
      obtain ⟨a, ha⟩ := hke p hp'
      exact ⟨p, hp', by rw [ha]; simp [Lit.sameKey, Go.intOf]⟩
    · rintro ⟨p, hp', hs⟩
      obtain ⟨a, ha⟩ := hke p hp'
      rw [ha] at hs
      exact ⟨p, hp', by rw [ha]; simpa [Lit.sameKey, Go.intOf] using hs⟩
theorem keys_s (hown : w.ownsMap P k heldV b n D) (K : Keyed P k) (hk : P.underlying k = some .string) : (strKeys D).Nodup ∧ ∀ x, x ∈ strKeys D ↔ Maps.has D (.string x) = true := by
  obtain ⟨es, hD, hpw, _⟩ := hown.entries K
  obtain ⟨es', hD', hko⟩ := hown.keysOf
  obtain rfl : es = es' := by rw [hD] at hD'; simpa using hD'
  subst hD
  have hke : ∀ p ∈ es, ∃ x, p.1 = .string x := fun p hp => by obtain ⟨v, hv⟩ := hko p hp; obtain ⟨x, _, hx, _⟩ := Maps.keyOf_str hk hv; exact ⟨x, hx⟩
  refine ⟨?_, fun x => ?_⟩
  · show (es.map fun p => strOf p.1).Nodup
    refine List.pairwise_map.2 (hpw.imp_of_mem fun {p q} hp' hq' hne e => hne ?_)
    obtain ⟨a, ha⟩ := hke p hp'
    obtain ⟨b, hb⟩ := hke q hq'
    rw [ha, hb] at e ⊢
    exact congrArg _ e
  · rw [has_eq, List.any_eq_true]
    show x ∈ es.map (fun p => strOf p.1) ↔ _
    rw [List.mem_map]
    constructor
    · rintro ⟨p, hp', rfl⟩
      obtain ⟨a, ha⟩ := hke p hp'
      exact ⟨p, hp', by rw [ha]; simp [Lit.sameKey, strOf]⟩
    · rintro ⟨p, hp', hs⟩
      obtain ⟨a, ha⟩ := hke p hp'
      rw [ha] at hs
      exact ⟨p, hp', by rw [ha]; simpa [Lit.sameKey, strOf] using hs⟩
end
theorem sort_i {l s : List Int} (hn : l.Nodup) (hp : s.Perm l) : (s.mergeSort (fun x y => decide (x ≤ y))).Pairwise (fun x y => x < y) ∧ ∀ y, y ∈ s.mergeSort (fun x y => decide (x ≤ y)) ↔ y ∈ l := by
  have tr : ∀ a b c : Int, decide (a ≤ b) = true → decide (b ≤ c) = true → decide (a ≤ c) = true := fun a b c h1 h2 => by simp only [decide_eq_true_eq] at *; exact Int.le_trans h1 h2
  have to : ∀ a b : Int, (decide (a ≤ b) || decide (b ≤ a)) = true := fun a b => by simp only [Bool.or_eq_true, decide_eq_true_eq]; exact Int.le_total a b
  have hq := (List.mergeSort_perm s (fun x y => decide (x ≤ y))).trans hp
  refine ⟨?_, fun y => hq.mem_iff⟩
  have h1 := List.pairwise_mergeSort tr to s
  have h2 : (s.mergeSort (fun x y => decide (x ≤ y))).Nodup := (hq.nodup_iff).2 hn
  exact (h1.and h2).imp (fun ⟨a, b⟩ => by simp only [decide_eq_true_eq] at a; omega)
theorem sort_s {l s : List (List UInt8)} (hn : l.Nodup) (hp : s.Perm l) : (s.mergeSort (fun x y => decide (x ≤ y))).Pairwise (fun x y => x < y) ∧ ∀ y, y ∈ s.mergeSort (fun x y => decide (x ≤ y)) ↔ y ∈ l := by
  have tr : ∀ a b c : List UInt8, decide (a ≤ b) = true → decide (b ≤ c) = true → decide (a ≤ c) = true := fun a b c h1 h2 => by simp only [decide_eq_true_eq] at *; exact List.le_trans h1 h2
  have to : ∀ a b : List UInt8, (decide (a ≤ b) || decide (b ≤ a)) = true := fun a b => by simp only [Bool.or_eq_true, decide_eq_true_eq]; exact List.le_total a b
  have hq := (List.mergeSort_perm s (fun x y => decide (x ≤ y))).trans hp
  refine ⟨?_, fun y => hq.mem_iff⟩
  have h1 := List.pairwise_mergeSort tr to s
  have h2 : (s.mergeSort (fun x y => decide (x ≤ y))).Nodup := (hq.nodup_iff).2 hn
  exact (h1.and h2).imp (fun ⟨a, b⟩ => by
    simp only [decide_eq_true_eq] at a
    rcases Std.le_iff_lt_or_eq.1 a with h | h
    · exact h
    · exact absurd h b)
theorem sortsI_any (m : Nat) : AnyZI.SortsIn Tryz.prog Tryz.sortedA_ren Fence.wide m :=
  ⟨fun blk off cap ss W hH hblk hsz => callsIn_wide.2 (AnyM.slices_Sort_int Tryz.sortA blk off cap ss W hH hblk hsz),
   fun p cap W => callsIn_wide.2 (AnyM.slices_Sort_int_none Tryz.sortA p cap W)⟩
theorem sortsS_any (m : Nat) : AnyZ.SortsIn Tryz.prog Tryz.sortedS_ren Fence.wide m :=
  ⟨fun blk off cap ss W hH hblk hsz => callsIn_wide.2 (AnyM.slices_Sort_string Tryz.sortS blk off cap ss W hH hblk hsz),
   fun p cap W => callsIn_wide.2 (AnyM.slices_Sort_string_none Tryz.sortS p cap W)⟩
def KeysI (n : Nat) (g : Value → Option Value) (B : Nat) (W : World) (e : Ending) (w' : World) : Prop := ∃ v s, e = .returned v ∧ IRow w' B v s ∧ s.Pairwise (fun x y => x < y) ∧ (∀ y, y ∈ s ↔ okI y ∧ (g (.int .i64 y)).isSome = true) ∧ Below B W w' ∧ s.length ≤ n
def LRow (w : World) (B : Nat) (v : Value) (s : List ByteArray) : Prop := GRow w B 9 1 v (s.map fun x => #[.string x])
def KeysS (n : Nat) (g : Value → Option Value) (B : Nat) (W : World) (e : Ending) (w' : World) : Prop := ∃ v s, e = .returned v ∧ LRow w' B v s ∧ s.Pairwise ltB ∧ (∀ y : ByteArray, y ∈ s ↔ y.size ≤ maxLen ∧ (g (.string y)).isSome = true) ∧ Below B W w' ∧ s.length ≤ n
theorem flat_str : ∀ ss : List (List UInt8), (((ss.map bs).map fun x => #[Value.string x]).flatMap Array.toList) = ss.map encStr
  | [] => rfl
  | a :: r => by
    rw [List.map_cons, List.map_cons, List.flatMap_cons, flat_str r]; rfl
theorem lrow_of {w : World} {B : Nat} {v : Value} {ss : List (List UInt8)} (h : w.ownsRow B 9 1 v ss.length (ss.map encStr)) : LRow w B v (ss.map bs) := by
  refine ⟨?_, fun c hc => ?_⟩
  · rw [List.length_map, List.length_map, flat_str]; exact h
  · obtain ⟨x, _, rfl⟩ := List.mem_map.1 hc
    exact ⟨rfl, by intro u hu; simp at hu; subst hu; rfl⟩
theorem len_i {P : Program} {k : TypeId} {D : DataW Value} {w : World} {b n : Nat} (hown : w.ownsMap P k heldV b n D) : (intKeys D).length = Maps.size D := by
  obtain ⟨es, rfl, _⟩ := hown.keysOf
  exact List.length_map _
theorem len_s {P : Program} {k : TypeId} {D : DataW Value} {w : World} {b n : Nat} (hown : w.ownsMap P k heldV b n D) : (strKeys D).length = Maps.size D := by
  obtain ⟨es, rfl, _⟩ := hown.keysOf
  exact List.length_map _
theorem has_i {g : Value → Option Value} {D : DataW Value} {w : World} {b n : Nat} (hown : w.ownsMap Tryz.prog 3 heldV b n D) (hD : ∀ key kl, keyOf Tryz.prog 3 key = some kl → Maps.has D kl = (g key).isSome ∧ ∀ z, D.atKey kl (.held z) = .held ((g key).getD z)) :
    (intKeys D).Nodup ∧ ∀ y, y ∈ intKeys D ↔ okI y ∧ (g (.int .i64 y)).isSome = true := by
  obtain ⟨h1, h2⟩ := keys_i hown K_int Tryz.underlying3
  refine ⟨h1, fun y => ?_⟩
  constructor
  · intro hy
    have hw := intKeys_wf hown Tryz.underlying3 y hy
    have hok : okI y := by
      have e1 : IntKind.i64.min = -9223372036854775808 := by decide
      have e2 : IntKind.i64.max = 9223372036854775807 := by decide
      simp only [Lit.wf, e1, e2, Bool.and_eq_true, decide_eq_true_eq] at hw
      exact hw
    exact ⟨hok, by rw [← (hD _ _ (key_int hok)).1]; exact (h2 y).1 hy⟩
  · rintro ⟨hok, hs⟩
    rw [h2, (hD _ _ (key_int hok)).1]; exact hs
theorem has_s {g : Value → Option Value} {D : DataW Value} {w : World} {b n : Nat} (hown : w.ownsMap Tryz.prog 9 heldV b n D) (hD : ∀ key kl, keyOf Tryz.prog 9 key = some kl → Maps.has D kl = (g key).isSome ∧ ∀ z, D.atKey kl (.held z) = .held ((g key).getD z)) :
    (strKeys D).Nodup ∧ ∀ y : ByteArray, y.data.toList ∈ strKeys D ↔ y.size ≤ maxLen ∧ (g (.string y)).isSome = true := by
  obtain ⟨h1, h2⟩ := keys_s hown K_str Tryz.underlying9
  refine ⟨h1, fun y => ?_⟩
  constructor
  · intro hy
    have hw := strKeys_le hown Tryz.underlying9 _ hy
    rw [size_list] at hw
    exact ⟨hw, by rw [← (hD _ _ (key_str hw)).1]; exact (h2 _).1 hy⟩
  · rintro ⟨hok, hs⟩
    rw [h2, (hD _ _ (key_str hok)).1]; exact hs
theorem keysSt_any (mb : Option Nat) (W : World) : Calls Tryz.prog 77 #[.map mb] W fun e w' => e = .returned (.func (.func 112) #[] #[.pointer (some ⟨W.heap.size, 0, none⟩)]) ∧ w' = W.alloc (.cells #[.map mb] 94) :=
  callsIn_wide.1 (AnyZI.keys_in Tryz.keysSt Fence.wide 5 trivial rfl mb W)
theorem sortedSt_any (b n : Nat) (g : Value → Option Value) (w : World) (h : KMap Tryz.prog 3 w b n g) (hl : n ≤ 100000) :
    Calls Tryz.prog 76 #[.func (.func 112) #[] #[.pointer (some ⟨w.heap.size, 0, none⟩)]] (w.alloc (.cells #[.map (some b)] 94)) (KeysI n g (w.heap.size + 1) (w.alloc (.cells #[.map (some b)] 94))) := by
  obtain ⟨D, hown, hD⟩ := h
  have hsz := hown.size_le
  have hbl := hown.lt
  have hseq : SeqGives Fence.wide 2 Tryz.prog 112 #[.pointer (some ⟨w.heap.size, 0, none⟩)] encZ (fun ss => ss.Perm (intKeys D)) (Maps.size D) (w.alloc (.cells #[.map (some b)] 94)) :=
    AnyZI.keys_gives (ρ := Tryz.keysSt_ren) { Tryz.keysSt with } Fence.wide _ trivial rfl (by omega) w.heap.size b n D _ (by simp) (by simp) (by
      obtain ⟨es, clock, hb, Ft, hs, hD⟩ := hown
      exact ⟨es, clock, (Below.heap_alloc _ _ b hbl).trans hb, Ft, hs, hD⟩)
  have cS := AnyZI.sorted_in Tryz.sortedA Fence.wide 5 trivial trivial trivial trivial rfl (by omega) (sortsI_any _) (enters_of Tryz.func111 (by kernel_rfl) rfl) 112 #[.pointer (some ⟨w.heap.size, 0, none⟩)] trivial (enters_of Tryz.func112 (by kernel_rfl) rfl) _ _ (by unfold maxLen; omega) (by omega) _ hseq
  refine (callsIn_wide.1 cS).mono ?_
  rintro e w' ⟨v, ss, rfl, hp, hrow, _, hb⟩
  obtain ⟨k1, k2⟩ := has_i hown hD
  obtain ⟨u1, u2⟩ := sort_i k1 hp
  rw [World.size_alloc] at hrow hb
  refine ⟨v, _, rfl, ?_, u1, fun y => (u2 y).trans (k2 y), hb, by rw [List.length_mergeSort, hp.length_eq, len_i hown]; exact hsz⟩
  unfold IRow
  rw [List.length_mergeSort]
  exact hrow
theorem keysTpl_any (mb : Option Nat) (W : World) : Calls Tryz.prog 81 #[.map mb] W fun e w' => e = .returned (.func (.func 118) #[] #[.pointer (some ⟨W.heap.size, 0, none⟩)]) ∧ w' = W.alloc (.cells #[.map mb] 95) :=
  callsIn_wide.1 (AnyZ.keys_in Tryz.keysTpl Fence.wide 5 trivial rfl mb W)
theorem sortedTpl_any (b n : Nat) (g : Value → Option Value) (w : World) (h : KMap Tryz.prog 9 w b n g) (hl : n ≤ 100000) :
    Calls Tryz.prog 80 #[.func (.func 118) #[] #[.pointer (some ⟨w.heap.size, 0, none⟩)]] (w.alloc (.cells #[.map (some b)] 95)) (KeysS n g (w.heap.size + 1) (w.alloc (.cells #[.map (some b)] 95))) := by
  obtain ⟨D, hown, hD⟩ := h
  have hsz := hown.size_le
  have hbl := hown.lt
  have hseq : SeqGives Fence.wide 2 Tryz.prog 118 #[.pointer (some ⟨w.heap.size, 0, none⟩)] encStr (fun ss => ss.Perm (strKeys D)) (Maps.size D) (w.alloc (.cells #[.map (some b)] 95)) :=
    AnyZ.keys_gives (ρ := Tryz.keysTpl_ren) { Tryz.keysTpl with } Fence.wide _ trivial rfl (by omega) w.heap.size b n D _ (by simp) (by simp) (by
      obtain ⟨es, clock, hb, Ft, hs, hD⟩ := hown
      exact ⟨es, clock, (Below.heap_alloc _ _ b hbl).trans hb, Ft, hs, hD⟩)
  have cS := AnyZ.sorted_in Tryz.sortedS Fence.wide 5 trivial trivial trivial trivial rfl (by omega) (sortsS_any _) (enters_of Tryz.func117 (by kernel_rfl) rfl) 118 #[.pointer (some ⟨w.heap.size, 0, none⟩)] trivial (enters_of Tryz.func118 (by kernel_rfl) rfl) _ _ (by unfold maxLen; omega) (by omega) _ hseq
  refine (callsIn_wide.1 cS).mono ?_
  rintro e w' ⟨v, ss, rfl, hp, hrow, _, hb⟩
  obtain ⟨k1, k2⟩ := has_s hown hD
  obtain ⟨u1, u2⟩ := sort_s k1 hp
  rw [World.size_alloc] at hrow hb
  refine ⟨v, (ss.mergeSort fun x y => decide (x ≤ y)).map bs, rfl, lrow_of (by rw [List.length_mergeSort]; exact hrow), ?_, fun y => ?_, hb, by rw [List.length_map, List.length_mergeSort, hp.length_eq, len_s hown]; exact hsz⟩
  · refine List.pairwise_map.2 (u1.imp fun {a b} hab => ?_)
    rw [ltB_iff, bs_list, bs_list]; exact hab
  · rw [List.mem_map, ← k2]
    constructor
    · rintro ⟨x, hx, rfl⟩
      rw [bs_list]; exact (u2 x).1 hx
    · intro hy
      exact ⟨_, (u2 _).2 hy, bs_of y⟩
theorem keysEd_any (mb : Option Nat) (W : World) : Calls Tryz.prog 113 #[.map mb] W fun e w' => e = .returned (.func (.func 129) #[] #[.pointer (some ⟨W.heap.size, 0, none⟩)]) ∧ w' = W.alloc (.cells #[.map mb] 104) :=
  callsIn_wide.1 (AnyZ.keys_in Tryz.keysEd Fence.wide 5 trivial rfl mb W)
theorem sortedEd_any (b n : Nat) (g : Value → Option Value) (w : World) (h : KMap Tryz.prog 9 w b n g) (hl : n ≤ 100000) :
    Calls Tryz.prog 80 #[.func (.func 129) #[] #[.pointer (some ⟨w.heap.size, 0, none⟩)]] (w.alloc (.cells #[.map (some b)] 104)) (KeysS n g (w.heap.size + 1) (w.alloc (.cells #[.map (some b)] 104))) := by
  obtain ⟨D, hown, hD⟩ := h
  have hsz := hown.size_le
  have hbl := hown.lt
  have hseq : SeqGives Fence.wide 2 Tryz.prog 129 #[.pointer (some ⟨w.heap.size, 0, none⟩)] encStr (fun ss => ss.Perm (strKeys D)) (Maps.size D) (w.alloc (.cells #[.map (some b)] 104)) :=
    AnyZ.keys_gives (ρ := Tryz.keysEd_ren) { Tryz.keysEd with } Fence.wide _ trivial rfl (by omega) w.heap.size b n D _ (by simp) (by simp) (by
      obtain ⟨es, clock, hb, Ft, hs, hD⟩ := hown
      exact ⟨es, clock, (Below.heap_alloc _ _ b hbl).trans hb, Ft, hs, hD⟩)
  have cS := AnyZ.sorted_in Tryz.sortedS Fence.wide 5 trivial trivial trivial trivial rfl (by omega) (sortsS_any _) (enters_of Tryz.func117 (by kernel_rfl) rfl) 129 #[.pointer (some ⟨w.heap.size, 0, none⟩)] trivial (enters_of Tryz.func129 (by kernel_rfl) rfl) _ _ (by unfold maxLen; omega) (by omega) _ hseq
  refine (callsIn_wide.1 cS).mono ?_
  rintro e w' ⟨v, ss, rfl, hp, hrow, _, hb⟩
  obtain ⟨k1, k2⟩ := has_s hown hD
  obtain ⟨u1, u2⟩ := sort_s k1 hp
  rw [World.size_alloc] at hrow hb
  refine ⟨v, (ss.mergeSort fun x y => decide (x ≤ y)).map bs, rfl, lrow_of (by rw [List.length_mergeSort]; exact hrow), ?_, fun y => ?_, hb, by rw [List.length_map, List.length_mergeSort, hp.length_eq, len_s hown]; exact hsz⟩
  · refine List.pairwise_map.2 (u1.imp fun {a b} hab => ?_)
    rw [ltB_iff, bs_list, bs_list]; exact hab
  · rw [List.mem_map, ← k2]
    constructor
    · rintro ⟨x, hx, rfl⟩
      rw [bs_list]; exact (u2 x).1 hx
    · intro hy
      exact ⟨_, (u2 _).2 hy, bs_of y⟩
end Go.Proofs.YtdkkhmjlamkgdaaGreatDoor
namespace Go.Proofs.YtdkkhmjlamkgdaaGreatDoor
open Go.RowKit Mg Go.Shelf Go.Maps

theorem irow_get {w : World} {B : Nat} {v : Value} {l : List Int} (h : IRow w B v l) (j : Nat) (hj : j < l.length) : ∃ g cap, v = .slice (some ⟨g, 0, none⟩) l.length cap ∧ w.heap[g]?.isSome = true ∧ w.cell? ⟨g, j, none⟩ = some (.int .i64 l[j]) ∧ l.length ≤ cap ∧ cap ≤ maxLen := by
  rcases h.2 with ⟨_, hz⟩ | ⟨g, cap, cur, rfl, hb, hgg, hn, hc, hs, ht⟩
  · omega
  · refine ⟨g, cap, rfl, by rw [hgg]; rfl, ?_, hn, hc⟩
    rw [rowcell hgg]
    have h5 : (cur.toList.take (l.length * 1))[j]? = (l.map encI)[j]? := by rw [ht]
    rw [List.getElem?_take_of_lt (by omega), List.getElem?_map, List.getElem?_eq_getElem hj] at h5
    rw [← Array.getElem?_toList, h5]; rfl
theorem irow_shape {w : World} {B : Nat} {v : Value} {l : List Int} (h : IRow w B v l) : ∃ ao cap, v = .slice ao l.length cap := by
  rcases h.2 with ⟨rfl, hz⟩ | ⟨g, cap, cur, rfl, _⟩
  · exact ⟨none, 0, by rw [hz]⟩
  · exact ⟨_, _, rfl⟩
theorem irow_same {w w' : World} {B : Nat} {v : Value} {l : List Int} (h : IRow w B v l) (hk : ∀ k, v.ownBlock = some k → w'.heap[k]? = w.heap[k]?) : IRow w' B v l := by
  refine ⟨h.1, ?_⟩
  rcases h.2 with hq | ⟨g, cap, cur, rfl, hb, hgg, rest⟩
  · exact .inl hq
  · exact .inr ⟨g, cap, cur, rfl, hb, (hk g rfl).trans hgg, rest⟩
theorem irow_blk {w : World} {B : Nat} {v : Value} {l : List Int} (h : IRow w B v l) : ∀ k, v.ownBlock = some k → B ≤ k ∧ k < w.heap.size ∧ ∃ cells, w.heap[k]? = some (.cells cells 3 (0, 0)) := fun k hk => by
  rcases h.2 with ⟨rfl, _⟩ | ⟨g, cap, cur, rfl, hb, hgg, _⟩
  · cases hk
  · injection hk with hk
    subst hk
    exact ⟨hb, hlt hgg, _, hgg⟩
theorem lrow_blk {w : World} {B : Nat} {v : Value} {l : List ByteArray} (h : LRow w B v l) : ∀ k, v.ownBlock = some k → B ≤ k ∧ k < w.heap.size ∧ ∃ cells, w.heap[k]? = some (.cells cells 9 (0, 0)) := fun k hk => ⟨(GRow.ge h k hk).1, (GRow.ge h k hk).2, GRow.blk h k hk⟩
theorem rows_apart {w : World} {k j : Nat} {a b : Array Value} {t u : TypeId} (h : w.heap[k]? = some (.cells a t (0, 0))) (h2 : w.heap[j]? = some (.cells b u (0, 0))) (hne : t ≠ u) : k ≠ j := fun e => by
  subst e
  rw [h] at h2
  injection h2 with h2
  injection h2 with _ h2
  exact hne h2
theorem irow_get_len {w : World} {B : Nat} {v : Value} {l : List Int} (h : IRow w B v l) : l.length ≤ maxLen := by
  rcases h.2 with ⟨_, hz⟩ | ⟨g, cap, cur, _, _, _, hn, hc, _⟩ <;> omega
theorem lrow_get_len {w : World} {B : Nat} {v : Value} {l : List ByteArray} (h : LRow w B v l) : l.length ≤ maxLen := by
  have hl : (l.map fun x => (#[.string x] : Array Value)).length = l.length := List.length_map _
  rcases h.1.2 with ⟨_, hz⟩ | ⟨g, cap, cur, _, _, _, hn, hc, _⟩ <;> omega
theorem lrow_get {w : World} {B : Nat} {v : Value} {l : List ByteArray} (h : LRow w B v l) (j : Nat) (hj : j < l.length) : ∃ g cap, v = .slice (some ⟨g, 0, none⟩) l.length cap ∧ w.heap[g]?.isSome = true ∧ w.cell? ⟨g, j, none⟩ = some (.string l[j]) ∧ l.length ≤ cap ∧ cap ≤ maxLen := by
  have hl : (l.map fun x => (#[.string x] : Array Value)).length = l.length := List.length_map _
  obtain ⟨g, cap, e, h1, h2, h3, h4, h5, _⟩ := GRow.at_ h j (by rw [hl]; exact hj)
  rw [hl] at e h3
  refine ⟨g, cap, e, by rw [Array.getElem?_eq_getElem h2]; rfl, ?_, h3, h4⟩
  have := h5 0 (by omega)
  rw [List.getElem_map] at this
  simpa using this
theorem lrow_shape {w : World} {B : Nat} {v : Value} {l : List ByteArray} (h : LRow w B v l) : ∃ ao cap, v = .slice ao l.length cap := by
  obtain ⟨ao, cap, e⟩ := GRow.shape h
  rw [List.length_map] at e
  exact ⟨ao, cap, e⟩
section
def OrdSt (n : Nat) (g : Value → Option Value) (w : World) (e : Ending) (w' : World) : Prop :=
  ∃ (v : Value) (s : List Int), e = .returned v ∧ GRow w' w.heap.size 103 1 v (s.map fun i : Int => ((g (.int .i64 i)).getD (.pointer none)).cells) ∧ s.Pairwise (fun x y => x < y) ∧ (∀ y : Int, y ∈ s ↔ okI y ∧ (g (.int .i64 y)).isSome = true) ∧ Below w.heap.size w w' ∧ s.length ≤ n
set_option maxRecDepth 100000 in
set_option maxHeartbeats 4000000 in
theorem orderedSt_any (b n : Nat) (g : Value → Option Value) (w : World) (h : KMap Tryz.prog 3 w b n g) (hl : n ≤ 50000) (hv : ∀ y : Int, okI y → ∀ u, g (.int .i64 y) = some u → ∃ a, u = .pointer a) :
    Calls Tryz.prog 50 #[.map (some b)] w (OrdSt n g w) := by
  have HK := Lib.hid h
  have hv := Lib.hid hv
  have hb0 := h.lt
  have hb1 : Below w.heap.size w (w.alloc (.cells #[.map (some b)] 94)) := bel1 _ _
  have HB1 := Lib.hid hb1
  have cK := Lib.hid (keysSt_any (some b) w)
  have cS := Lib.hid (sortedSt_any b n g w h (by omega))
  clear h hb1
  go_enter Tryz.func50, Tryz.ntmps50
  go_wp2_with fail
  refine cK.out.mono ?_
  rintro e w1 ⟨rfl, rfl⟩
  go_wp2_with fail
  refine cS.out.mono ?_
  rintro e w2 ⟨kv, s, rfl, hrow, hpw, hmem, hb2, hsn⟩
  have HB2 := Lib.hid (HB1.out.trans (hb2.mono (by omega)))
  have HR := Lib.hid hrow
  have hok : ∀ y ∈ s, okI y ∧ (g (.int .i64 y)).isSome = true := fun y hy => (hmem y).1 hy
  have HOK := Lib.hid hok
  have HPW := Lib.hid hpw
  have HMEM := Lib.hid hmem
  obtain ⟨ka, kc, rfl⟩ := irow_shape hrow
  have hsl : s.length ≤ 9223372036854775807 := by have := irow_get_len hrow; unfold maxLen at this; omega
  clear hrow hpw hmem hb2 hok cK cS
  go_wp2_with fail
  go_loopw [3, 10] (fun v i wr => ∃ k : Nat, k ≤ s.length ∧ i = .int .i64 k ∧ Hid (GRow wr w.heap.size 103 1 v ((s.take k).map fun i : Int => ((g (.int .i64 i)).getD (.pointer none)).cells)) ∧ Hid (IRow wr (w.heap.size + 1) (.slice ka s.length kc) s) ∧ Hid (Below w.heap.size w wr)) (fun _ i _ => s.length - (intOf i).toNat)
  case atStart => exact ⟨0, Nat.zero_le _, rfl, Lib.hid (GRow.nil _ _ _ _), HR, HB2⟩
  case round =>
    obtain ⟨k, hk, rfl, HV, HKR, HB⟩ := hrel
    by_cases hlt : k < s.length
    · obtain ⟨kg, kcap, hkv, _, kcell, kc1, kc2⟩ := irow_get HKR.out k hlt
      injection hkv with hka _ hkc
      subst hka hkc
      have hkb := HB.out.size
      have hl : (Instr.lookup 94 (.map (some b)) (.int .i64 s[k]) false).run Tryz.prog wr = .ok ((g (.int .i64 s[k])).getD (.pointer none)) wr := KMap.look (HK.out.below HB.out hb0) K_int Tryz.underlying94 (zero_pst _) (by exact key_int (HOK.out _ (List.getElem_mem hlt)).1)
      obtain ⟨x1, hx⟩ : ∃ x1, (g (.int .i64 s[k])).getD (.pointer none) = .pointer x1 := by
        cases hg : g (.int .i64 s[k]) with
        | none => exact ⟨_, rfl⟩
        | some u => obtain ⟨a, rfl⟩ := hv.out _ (HOK.out _ (List.getElem_mem hlt)).1 _ hg; exact ⟨a, rfl⟩
      rw [hx] at hl
      have HX := Lib.hid hx
      have hsn2 : ((s.take k).map fun i : Int => ((g (.int .i64 i)).getD (.pointer none)).cells).length + 1 ≤ 100000 := by
        rw [List.length_map, List.length_take]
        omega
      have HSN2 := Lib.hid hsn2
      have HTK : Hid (((s.take (k + 1)).map fun i : Int => ((g (.int .i64 i)).getD (.pointer none)).cells) = ((s.take k).map fun i : Int => ((g (.int .i64 i)).getD (.pointer none)).cells) ++ [#[.pointer x1]]) := Lib.hid (by
        rw [List.take_succ_eq_append_getElem hlt, List.map_append, List.map_singleton, hx]; rfl)
      obtain ⟨va, vc, rfl⟩ := HV.out.shape
      clear hx hsn2
      generalize s[k] = y at *
      generalize ((s.take k).map fun i : Int => ((g (.int .i64 i)).getD (.pointer none)).cells) = pre at *
      go_wp2_with (first | ((with_reducible refine at_sslice _ _ _ rfl ?_); refine wpList_one_slice rfl E_pst _ rfl (.pointer x1) rfl (by simp [Act.eval]) ?_) | ((with_reducible refine at_sappend _ _ _ rfl ?_); refine wpList_app_one rfl E_pst _ _ rfl (by simp [Act.eval, Act.put]) (HV.out.alloc _) (#[.pointer x1]) rfl (by intro u hu; simp at hu; subst hu; rfl) wr.heap.size 1 (by simp [Act.eval, Act.put]) (World.alloc_heap_new wr _) HSN2.out (by rw [World.size_alloc]; omega) ?_; intro v2 w2 hr2 hg2 hob2))
      have hold : ∀ j, j < wr.heap.size → (Value.slice va pre.length vc).ownBlock ≠ some j → w2.heap[j]? = wr.heap[j]? := fun j hj hne => (hg2.block j (by rw [World.size_alloc]; omega) (fun e => hne e.symm)).trans (Below.heap_alloc wr _ j hj)
      have HR2 : Hid (GRow w2 w.heap.size 103 1 v2 ((s.take (k + 1)).map fun i : Int => ((g (.int .i64 i)).getD (.pointer none)).cells)) := Lib.hid (by rw [HTK.out]; exact hr2)
      have HKR2 : Hid (IRow w2 (w.heap.size + 1) (.slice (some ⟨kg, 0, none⟩) s.length kc) s) := Lib.hid (irow_same HKR.out fun j hj => hold j (irow_blk HKR.out j hj).2.1 (fun e => by
        obtain ⟨_, _, cells, hc⟩ := irow_blk HKR.out j hj
        obtain ⟨cells2, hc2⟩ := HV.out.blk j e
        exact rows_apart hc hc2 (by decide) rfl))
      have HB2 : Hid (Below w.heap.size w w2) := Lib.hid ((HB.out.trans ((bel1 wr _).mono hkb)).grown hg2 (by rw [World.size_alloc]; omega) (fun j hj => (HV.out.ge j hj).1))
      clear hr2 hg2 hob2 hold
      go_wp2_with fail
      go_roundw
      case rel => exact ⟨k + 1, by omega, by go_num, HR2, HKR2, HB2⟩
      case measure => simp [intOf]; omega
    · have e : k = s.length := by omega
      subst e
      have hF := HV.out
      rw [List.take_length] at hF
      have HF := Lib.hid hF
      clear hF
      go_wp2_with fail
      go_ret
      exact ⟨_, s, rfl, HF.out, HPW.out, HMEM.out, HB.out, hsn⟩
def OrdEd (n : Nat) (g : Value → Option Value) (w : World) (e : Ending) (w' : World) : Prop :=
  ∃ (v : Value) (s : List ByteArray), e = .returned v ∧ GRow w' w.heap.size 135 1 v (s.map fun i : ByteArray => ((g (.string i)).getD (.pointer none)).cells) ∧ s.Pairwise ltB ∧ (∀ y : ByteArray, y ∈ s ↔ y.size ≤ maxLen ∧ (g (.string y)).isSome = true) ∧ Below w.heap.size w w' ∧ s.length ≤ n
set_option maxRecDepth 100000 in
set_option maxHeartbeats 4000000 in
theorem orderedEd_any (b n : Nat) (g : Value → Option Value) (w : World) (h : KMap Tryz.prog 9 w b n g) (hl : n ≤ 50000) (hv : ∀ y : ByteArray, y.size ≤ maxLen → ∀ u, g (.string y) = some u → ∃ a, u = .pointer a) :
    Calls Tryz.prog 78 #[.map (some b)] w (OrdEd n g w) := by
  have HK := Lib.hid h
  have hv := Lib.hid hv
  have hb0 := h.lt
  have hb1 : Below w.heap.size w (w.alloc (.cells #[.map (some b)] 104)) := bel1 _ _
  have HB1 := Lib.hid hb1
  have cK := Lib.hid (keysEd_any (some b) w)
  have cS := Lib.hid (sortedEd_any b n g w h (by omega))
  clear h hb1
  go_enter Tryz.func78, Tryz.ntmps78
  go_wp2_with fail
  refine cK.out.mono ?_
  rintro e w1 ⟨rfl, rfl⟩
  go_wp2_with fail
  refine cS.out.mono ?_
  rintro e w2 ⟨kv, s, rfl, hrow, hpw, hmem, hb2, hsn⟩
  have HB2 := Lib.hid (HB1.out.trans (hb2.mono (by omega)))
  have HR := Lib.hid hrow
  have hok : ∀ y ∈ s, y.size ≤ maxLen ∧ (g (.string y)).isSome = true := fun y hy => (hmem y).1 hy
  have HOK := Lib.hid hok
  have HPW := Lib.hid hpw
  have HMEM := Lib.hid hmem
  obtain ⟨ka, kc, rfl⟩ := lrow_shape hrow
  have hsl : s.length ≤ 9223372036854775807 := by have := lrow_get_len hrow; unfold maxLen at this; omega
  clear hrow hpw hmem hb2 hok cK cS
  go_wp2_with fail
  go_loopw [3, 10] (fun v i wr => ∃ k : Nat, k ≤ s.length ∧ i = .int .i64 k ∧ Hid (GRow wr w.heap.size 135 1 v ((s.take k).map fun i : ByteArray => ((g (.string i)).getD (.pointer none)).cells)) ∧ Hid (LRow wr (w.heap.size + 1) (.slice ka s.length kc) s) ∧ Hid (Below w.heap.size w wr)) (fun _ i _ => s.length - (intOf i).toNat)
  case atStart => exact ⟨0, Nat.zero_le _, rfl, Lib.hid (GRow.nil _ _ _ _), HR, HB2⟩
  case round =>
    obtain ⟨k, hk, rfl, HV, HKR, HB⟩ := hrel
    by_cases hlt : k < s.length
    · obtain ⟨kg, kcap, hkv, _, kcell, kc1, kc2⟩ := lrow_get HKR.out k hlt
      injection hkv with hka _ hkc
      subst hka hkc
      have hkb := HB.out.size
      have hl : (Instr.lookup 104 (.map (some b)) (.string s[k]) false).run Tryz.prog wr = .ok ((g (.string s[k])).getD (.pointer none)) wr := KMap.look (HK.out.below HB.out hb0) K_str Tryz.underlying104 (zero_ped _) (by exact key_str (HOK.out _ (List.getElem_mem hlt)).1)
      obtain ⟨x1, hx⟩ : ∃ x1, (g (.string s[k])).getD (.pointer none) = .pointer x1 := by
        cases hg : g (.string s[k]) with
        | none => exact ⟨_, rfl⟩
        | some u => obtain ⟨a, rfl⟩ := hv.out _ (HOK.out _ (List.getElem_mem hlt)).1 _ hg; exact ⟨a, rfl⟩
      rw [hx] at hl
      have HX := Lib.hid hx
      have hsn2 : ((s.take k).map fun i : ByteArray => ((g (.string i)).getD (.pointer none)).cells).length + 1 ≤ 100000 := by
        rw [List.length_map, List.length_take]
        omega
      have HSN2 := Lib.hid hsn2
      have HTK : Hid (((s.take (k + 1)).map fun i : ByteArray => ((g (.string i)).getD (.pointer none)).cells) = ((s.take k).map fun i : ByteArray => ((g (.string i)).getD (.pointer none)).cells) ++ [#[.pointer x1]]) := Lib.hid (by
        rw [List.take_succ_eq_append_getElem hlt, List.map_append, List.map_singleton, hx]; rfl)
      obtain ⟨va, vc, rfl⟩ := HV.out.shape
      clear hx hsn2
      generalize s[k] = y at *
      generalize ((s.take k).map fun i : ByteArray => ((g (.string i)).getD (.pointer none)).cells) = pre at *
      go_wp2_with (first | ((with_reducible refine at_sslice _ _ _ rfl ?_); refine wpList_one_slice rfl E_ped _ rfl (.pointer x1) rfl (by simp [Act.eval]) ?_) | ((with_reducible refine at_sappend _ _ _ rfl ?_); refine wpList_app_one rfl E_ped _ _ rfl (by simp [Act.eval, Act.put]) (HV.out.alloc _) (#[.pointer x1]) rfl (by intro u hu; simp at hu; subst hu; rfl) wr.heap.size 1 (by simp [Act.eval, Act.put]) (World.alloc_heap_new wr _) HSN2.out (by rw [World.size_alloc]; omega) ?_; intro v2 w2 hr2 hg2 hob2))
      have hold : ∀ j, j < wr.heap.size → (Value.slice va pre.length vc).ownBlock ≠ some j → w2.heap[j]? = wr.heap[j]? := fun j hj hne => (hg2.block j (by rw [World.size_alloc]; omega) (fun e => hne e.symm)).trans (Below.heap_alloc wr _ j hj)
      have HR2 : Hid (GRow w2 w.heap.size 135 1 v2 ((s.take (k + 1)).map fun i : ByteArray => ((g (.string i)).getD (.pointer none)).cells)) := Lib.hid (by rw [HTK.out]; exact hr2)
      have HKR2 : Hid (LRow w2 (w.heap.size + 1) (.slice (some ⟨kg, 0, none⟩) s.length kc) s) := Lib.hid (GRow.same HKR.out fun j hj => hold j (lrow_blk HKR.out j hj).2.1 (fun e => by
        obtain ⟨_, _, cells, hc⟩ := lrow_blk HKR.out j hj
        obtain ⟨cells2, hc2⟩ := HV.out.blk j e
        exact rows_apart hc hc2 (by decide) rfl))
      have HB2 : Hid (Below w.heap.size w w2) := Lib.hid ((HB.out.trans ((bel1 wr _).mono hkb)).grown hg2 (by rw [World.size_alloc]; omega) (fun j hj => (HV.out.ge j hj).1))
      clear hr2 hg2 hob2 hold
      go_wp2_with fail
      go_roundw
      case rel => exact ⟨k + 1, by omega, by go_num, HR2, HKR2, HB2⟩
      case measure => simp [intOf]; omega
    · have e : k = s.length := by omega
      subst e
      have hF := HV.out
      rw [List.take_length] at hF
      have HF := Lib.hid hF
      clear hF
      go_wp2_with fail
      go_ret
      exact ⟨_, s, rfl, HF.out, HPW.out, HMEM.out, HB.out, hsn⟩
def OrdTpl (n : Nat) (g : Value → Option Value) (w : World) (e : Ending) (w' : World) : Prop :=
  ∃ (v : Value) (s : List ByteArray), e = .returned v ∧ GRow w' w.heap.size 52 2 v (s.map fun i : ByteArray => ((g (.string i)).getD zeroTpl).cells) ∧ s.Pairwise ltB ∧ (∀ y : ByteArray, y ∈ s ↔ y.size ≤ maxLen ∧ (g (.string y)).isSome = true) ∧ Below w.heap.size w w' ∧ s.length ≤ n
set_option maxRecDepth 100000 in
set_option maxHeartbeats 4000000 in
theorem orderedTpl_any (b n : Nat) (g : Value → Option Value) (w : World) (h : KMap Tryz.prog 9 w b n g) (hl : n ≤ 50000) (hv : ∀ y : ByteArray, y.size ≤ maxLen → ∀ u, g (.string y) = some u → ∃ a b, u = .agg #[.string a, .string b]) :
    Calls Tryz.prog 52 #[.map (some b)] w (OrdTpl n g w) := by
  have HK := Lib.hid h
  have hv := Lib.hid hv
  have hb0 := h.lt
  have hb1 : Below w.heap.size w (w.alloc (.cells #[.map (some b)] 95)) := bel1 _ _
  have HB1 := Lib.hid hb1
  have cK := Lib.hid (keysTpl_any (some b) w)
  have cS := Lib.hid (sortedTpl_any b n g w h (by omega))
  clear h hb1
  go_enter Tryz.func52, Tryz.ntmps52
  go_wp2_with fail
  refine cK.out.mono ?_
  rintro e w1 ⟨rfl, rfl⟩
  go_wp2_with fail
  refine cS.out.mono ?_
  rintro e w2 ⟨kv, s, rfl, hrow, hpw, hmem, hb2, hsn⟩
  have HB2 := Lib.hid (HB1.out.trans (hb2.mono (by omega)))
  have HR := Lib.hid hrow
  have hok : ∀ y ∈ s, y.size ≤ maxLen ∧ (g (.string y)).isSome = true := fun y hy => (hmem y).1 hy
  have HOK := Lib.hid hok
  have HPW := Lib.hid hpw
  have HMEM := Lib.hid hmem
  obtain ⟨ka, kc, rfl⟩ := lrow_shape hrow
  have hsl : s.length ≤ 9223372036854775807 := by have := lrow_get_len hrow; unfold maxLen at this; omega
  clear hrow hpw hmem hb2 hok cK cS
  go_wp2_with fail
  go_loopw [3, 10] (fun v i wr => ∃ k : Nat, k ≤ s.length ∧ i = .int .i64 k ∧ Hid (GRow wr w.heap.size 52 2 v ((s.take k).map fun i : ByteArray => ((g (.string i)).getD zeroTpl).cells)) ∧ Hid (LRow wr (w.heap.size + 1) (.slice ka s.length kc) s) ∧ Hid (Below w.heap.size w wr)) (fun _ i _ => s.length - (intOf i).toNat)
  case atStart => exact ⟨0, Nat.zero_le _, rfl, Lib.hid (GRow.nil _ _ _ _), HR, HB2⟩
  case round =>
    obtain ⟨k, hk, rfl, HV, HKR, HB⟩ := hrel
    by_cases hlt : k < s.length
    · obtain ⟨kg, kcap, hkv, _, kcell, kc1, kc2⟩ := lrow_get HKR.out k hlt
      injection hkv with hka _ hkc
      subst hka hkc
      have hkb := HB.out.size
      have hl : (Instr.lookup 95 (.map (some b)) (.string s[k]) false).run Tryz.prog wr = .ok ((g (.string s[k])).getD zeroTpl) wr := KMap.look (HK.out.below HB.out hb0) K_str Tryz.underlying95 (zero_tpl _) (by exact key_str (HOK.out _ (List.getElem_mem hlt)).1)
      obtain ⟨x1, x2, hx⟩ : ∃ x1 x2, (g (.string s[k])).getD zeroTpl = .agg #[.string x1, .string x2] := by
        cases hg : g (.string s[k]) with
        | none => exact ⟨_, _, rfl⟩
        | some u => obtain ⟨a, b, rfl⟩ := hv.out _ (HOK.out _ (List.getElem_mem hlt)).1 _ hg; exact ⟨a, b, rfl⟩
      rw [hx] at hl
      have HX := Lib.hid hx
      have hsn2 : ((s.take k).map fun i : ByteArray => ((g (.string i)).getD zeroTpl).cells).length + 1 ≤ 100000 := by
        rw [List.length_map, List.length_take]
        omega
      have HSN2 := Lib.hid hsn2
      have HTK : Hid (((s.take (k + 1)).map fun i : ByteArray => ((g (.string i)).getD zeroTpl).cells) = ((s.take k).map fun i : ByteArray => ((g (.string i)).getD zeroTpl).cells) ++ [#[.string x1, .string x2]]) := Lib.hid (by
        rw [List.take_succ_eq_append_getElem hlt, List.map_append, List.map_singleton, hx]; rfl)
      obtain ⟨va, vc, rfl⟩ := HV.out.shape
      clear hx hsn2
      generalize s[k] = y at *
      generalize ((s.take k).map fun i : ByteArray => ((g (.string i)).getD zeroTpl).cells) = pre at *
      go_wp2_with (first | ((with_reducible refine at_sslice _ _ _ rfl ?_); refine wpList_one_slice rfl E_tpl _ rfl (.agg #[.string x1, .string x2]) rfl (by simp [Act.eval]) ?_) | ((with_reducible refine at_sappend _ _ _ rfl ?_); refine wpList_app_one rfl E_tpl _ _ rfl (by simp [Act.eval, Act.put]) (HV.out.alloc _) (#[.string x1, .string x2]) rfl (by intro u hu; simp at hu; rcases hu with rfl | rfl <;> rfl) wr.heap.size 1 (by simp [Act.eval, Act.put]) (World.alloc_heap_new wr _) HSN2.out (by rw [World.size_alloc]; omega) ?_; intro v2 w2 hr2 hg2 hob2))
      have hold : ∀ j, j < wr.heap.size → (Value.slice va pre.length vc).ownBlock ≠ some j → w2.heap[j]? = wr.heap[j]? := fun j hj hne => (hg2.block j (by rw [World.size_alloc]; omega) (fun e => hne e.symm)).trans (Below.heap_alloc wr _ j hj)
      have HR2 : Hid (GRow w2 w.heap.size 52 2 v2 ((s.take (k + 1)).map fun i : ByteArray => ((g (.string i)).getD zeroTpl).cells)) := Lib.hid (by rw [HTK.out]; exact hr2)
      have HKR2 : Hid (LRow w2 (w.heap.size + 1) (.slice (some ⟨kg, 0, none⟩) s.length kc) s) := Lib.hid (GRow.same HKR.out fun j hj => hold j (lrow_blk HKR.out j hj).2.1 (fun e => by
        obtain ⟨_, _, cells, hc⟩ := lrow_blk HKR.out j hj
        obtain ⟨cells2, hc2⟩ := HV.out.blk j e
        exact rows_apart hc hc2 (by decide) rfl))
      have HB2 : Hid (Below w.heap.size w w2) := Lib.hid ((HB.out.trans ((bel1 wr _).mono hkb)).grown hg2 (by rw [World.size_alloc]; omega) (fun j hj => (HV.out.ge j hj).1))
      clear hr2 hg2 hob2 hold
      go_wp2_with fail
      go_roundw
      case rel => exact ⟨k + 1, by omega, by go_num, HR2, HKR2, HB2⟩
      case measure => simp [intOf]; omega
    · have e : k = s.length := by omega
      subst e
      have hF := HV.out
      rw [List.take_length] at hF
      have HF := Lib.hid hF
      clear hF
      go_wp2_with fail
      go_ret
      exact ⟨_, s, rfl, HF.out, HPW.out, HMEM.out, HB.out, hsn⟩
end
end Go.Proofs.YtdkkhmjlamkgdaaGreatDoor
namespace Go.Proofs.YtdkkhmjlamkgdaaGreatDoor
open Go.RowKit Mg Go.Shelf Go.Maps

def CellsOf (M : Addr → Option Value) (x : Blk) (c : Array Value) : Prop := ∃ a cap, c = blkCells x (.slice a x.lab.after.length cap) ∧ IntsM M (.slice a x.lab.after.length cap) x.lab.after
theorem blks_cells {mem : Addr → Option Value} {l : List Blk} {b : Nat} : ∀ (o : Nat), BlksAt mem l b o → ∃ cs : List (Array Value), cs.length = l.length ∧ (∀ j (h : j < l.length) (h2 : j < cs.length), CellsOf mem l[j] cs[j] ∧ ∀ t, t < 9 → mem ⟨b, o + j * 9 + t, none⟩ = cs[j][t]?) := by
  induction l with
  | nil => exact fun o _ => ⟨[], rfl, fun j h => absurd h (by simp)⟩
  | cons x l ih =>
    intro o h
    obtain ⟨⟨h0, h1, h2, h3, h4⟩, ⟨h5, h7, h8⟩, _, av, h6, hi⟩ := h 0 (by simp)
    obtain ⟨cs, e1, e2⟩ := ih (o + 9) (fun j hj => by
      have := h (j + 1) (by simpa using hj)
      rw [List.getElem_cons_succ] at this
      rwa [show o + (j + 1) * 9 = o + 9 + j * 9 by omega] at this)
    obtain ⟨a, cap, rfl⟩ := hi.slice
    refine ⟨blkCells x (.slice a x.lab.after.length cap) :: cs, by simp [e1], fun j hj hj2 => ?_⟩
    cases j with
    | zero =>
      refine ⟨⟨a, cap, rfl, hi⟩, fun t ht => ?_⟩
      simp only [Nat.zero_mul, Nat.add_zero, List.getElem_cons_zero] at *
      match t, ht with
      | 0, _ => exact h0
      | 1, _ => exact h1
      | 2, _ => exact h2
      | 3, _ => exact h3
      | 4, _ => exact h4
      | 5, _ => exact h5
      | 6, _ => exact h6
      | 7, _ => exact h7
      | 8, _ => exact h8
    | succ j =>
      obtain ⟨q1, q2⟩ := e2 j (by simpa using hj) (by simpa using hj2)
      refine ⟨q1, fun t ht => ?_⟩
      rw [List.getElem_cons_succ, ← q2 t ht, show o + (j + 1) * 9 + t = o + 9 + j * 9 + t by omega]
theorem cellsOf_size {M : Addr → Option Value} {x : Blk} {c : Array Value} (h : CellsOf M x c) : c.size = 9 ∧ OneC c := by
  obtain ⟨a, cap, rfl, _⟩ := h
  refine ⟨rfl, fun u hu => ?_⟩
  simp at hu
  rcases hu with rfl | rfl | rfl | rfl | rfl | rfl | rfl | rfl | rfl <;> rfl
theorem reads_blks {mem : Addr → Option Value} {w : World} {l : List Blk} {ao : Option Addr} {cap : Nat} (h : BlksM mem (.slice ao l.length cap) l) (hs : Sees mem w) :
    ∃ cs : List (Array Value), cs.length = l.length ∧ (∀ j (h : j < l.length) (h2 : j < cs.length), CellsOf mem l[j] cs[j]) ∧ (∀ c ∈ cs, c.size = 9 ∧ OneC c) ∧ Reads w w.heap.size 9 ao cs.length (cs.flatMap Array.toList) := by
  obtain ⟨ao', cap', b, o, e, _, _, h1, h2⟩ := h.open_
  injection e with e1 e2 e3
  subst e1
  obtain ⟨cs, q1, q2⟩ := blks_cells o h2
  have hsz : ∀ c ∈ cs, c.size = 9 ∧ OneC c := fun c hc => by
    obtain ⟨j, hj, rfl⟩ := List.getElem_of_mem hc
    exact cellsOf_size (q2 j (by omega) hj).1
  refine ⟨cs, q1, fun j hj hj2 => (q2 j hj hj2).1, hsz, flat_len (fun c hc => (hsz c hc).1), fun hn => ?_⟩
  have h0 : 0 < l.length := by omega
  refine ⟨_, h1 h0, ?_, fun j u hu => ?_⟩
  · have := (q2 0 h0 (by omega)).2 0 (by omega)
    have h9 := (q2 0 h0 (by omega)).1
    obtain ⟨a, c, e, _⟩ := h9
    rw [e] at this
    exact World.block_lt_of_cell? w _ (hs _ _ this)
  · have hjl := (List.getElem?_eq_some_iff.1 hu).1
    rw [flat_len (fun c hc => (hsz c hc).1)] at hjl
    have hd : j / 9 < cs.length := by omega
    have hm : j % 9 < 9 := Nat.mod_lt _ (by omega)
    have e1 := flat_cells (fun c hc => (hsz c hc).1) (j / 9) (j % 9) hd hm
    rw [show j / 9 * 9 + j % 9 = j by omega, hu] at e1
    have := (q2 (j / 9) (by omega) hd).2 (j % 9) hm
    rw [← e1] at this
    have := hs _ _ this
    unfold Addr.add
    rw [show o + j / 9 * 9 + j % 9 = o + j by omega] at this
    by_cases h0 : j = 0
    · subst h0; simpa using this
    · simp [h0]; simpa using this
theorem bvals_of {M : Addr → Option Value} : ∀ {l : List Blk} {cs : List (Array Value)}, cs.length = l.length → (∀ j (h : j < l.length) (h2 : j < cs.length), CellsOf M l[j] cs[j]) → BVals M l (cs.flatMap Array.toList)
  | [], [], _, _ => rfl
  | [], _ :: _, h, _ => by cases h
  | _ :: _, [], h, _ => by cases h
  | x :: l, c :: cs, h, hc => by
    obtain ⟨a, cap, e, hi⟩ := hc 0 (by simp) (by simp)
    refine ⟨a, cap, cs.flatMap Array.toList, hi, ?_, bvals_of (by simpa using h) (fun j h1 h2 => by
      have := hc (j + 1) (by simpa using h1) (by simpa using h2)
      simpa using this)⟩
    rw [List.flatMap_cons]
    have e : c = _ := e
    rw [e]; rfl
def CopyI (mem : Addr → Option Value) (w : World) (B : Nat) (l : List Blk) (k : Nat) (v : Value) : Prop :=
  ∃ cs : List (Array Value), GRow w B 58 9 v cs ∧ cs.length = l.length ∧ ∀ j (h : j < l.length) (h2 : j < cs.length), if j < k then CellsOf (memFr w (fun b => b < B ∨ v.ownBlock = some b)) l[j] cs[j] else CellsOf mem l[j] cs[j]
theorem CopyI.done {mem : Addr → Option Value} {w : World} {B : Nat} {l : List Blk} {v : Value} (h : CopyI mem w B l l.length v) : BRow w B v l := by
  obtain ⟨cs, h1, h2, h3⟩ := h
  refine ⟨cs.flatMap Array.toList, ?_, bvals_of h2 (fun j hj hj2 => by have := h3 j hj hj2; rwa [if_pos hj] at this)⟩
  rw [← h2]
  exact h1.1
set_option maxRecDepth 100000 in
set_option maxHeartbeats 4000000 in
theorem copyBlocks_any {mem : Addr → Option Value} {v : Value} {l : List Blk} (h : BlksM mem v l) (hl : l.length ≤ 50000) (ha : ∀ x ∈ l, x.lab.after.length ≤ 50000) (w : World) (hs : Sees mem w) :
    Calls Tryz.prog 38 #[v] w fun e w' => ∃ u, e = .returned u ∧ BRow w' w.heap.size u l ∧ Below w.heap.size w w' := by
  obtain ⟨ao, cap, rfl⟩ := h.slice
  obtain ⟨cs, q1, q2, q3, q4⟩ := reads_blks h hs
  have HS := Lib.hid hs
  have HA := Lib.hid ha
  have HQ2 := Lib.hid q2
  have hl2 : cs.length ≤ 50000 := by omega
  have HL1 := Lib.hid q1
  rw [← q1]
  clear h hs ha q2 q1
  go_enter Tryz.func38, Tryz.ntmps38
  go_wp2_with ((with_reducible refine at_sappend _ _ _ rfl ?_); refine wpList_app_row rfl E_blk _ _ rfl (by simp [Act.eval]) (GRow.nil w w.heap.size _ _) ao cap cs q3 (by simp [Act.eval]) q4 (by show 0 + cs.length ≤ 100000; omega) (Nat.le_refl _) ?_; intro v1 w1 hr1 hg1 hob1; rw [List.nil_append] at hr1; obtain ⟨va, vc, rfl⟩ := hr1.shape)
  have HC0 : Hid (CopyI mem w1 w.heap.size l 0 (.slice va cs.length vc)) := Lib.hid ⟨cs, hr1, HL1.out, fun j hj hj2 => by rw [if_neg (by omega)]; exact HQ2.out j hj hj2⟩
  have HB0 : Hid (Below w.heap.size w w1) := Lib.hid ((Below.refl _ w).grown hg1 (Nat.le_refl _) (fun k e => by cases e))
  have hel : cs.length ≤ 9223372036854775807 := by omega
  clear hr1 hg1 hob1 q3 q4
  go_loopw [9] (fun i wr => ∃ k : Nat, k ≤ cs.length ∧ i = .int .i64 k ∧ Hid (CopyI mem wr w.heap.size l k (.slice va cs.length vc)) ∧ Hid (Below w.heap.size w wr)) (fun i _ => cs.length - (intOf i).toNat)
  case atStart => exact ⟨0, Nat.zero_le _, rfl, HC0, HB0⟩
  case round =>
    obtain ⟨k, hk, rfl, HC, HB⟩ := hrel
    by_cases hlt : k < cs.length
    · obtain ⟨ds, d1, d2, d3⟩ := HC.out
      have hkd : k < ds.length := by rw [d2, ← HL1.out]; exact hlt
      have hkl : k < l.length := by rw [← HL1.out]; exact hlt
      have hck := d3 k hkl hkd
      rw [if_neg (by omega)] at hck
      obtain ⟨a, c, hce, hci⟩ := hck
      obtain ⟨g, gc, hgv, hgB, hgl, hg1, hg2, hgc, hgf⟩ := d1.at_ k hkd
      injection hgv with hgv1 hgv2 hgv3
      subst hgv1 hgv3
      clear hgv2
      have c6 := hgc 6 (by omega)
      rw [hce] at c6
      have z6 := hgf (k * 9 + 6)
      have HI := Lib.hid hci
      have HD := Lib.hid (And.intro d1 (And.intro d2 d3))
      have HCE := Lib.hid hce
      have hal := HA.out _ (List.getElem_mem hkl)
      generalize hx : l[k] = x at *
      clear d1 d2 d3 hce hci hgc hgf
      dsimp only [blkCells] at c6
      simp only [List.getElem?_toArray, List.getElem?_cons_succ, List.getElem?_cons_zero] at c6
      have HSW := Lib.hid (HS.out.bel HB.out)
      go_wp2_with ((with_reducible refine at_sappend _ _ _ rfl ?_); refine wpList_app_after rfl _ _ rfl (by simp [Act.eval]) a c x.lab.after (by simp [Act.eval]) HI.out HSW.out (by omega) ?_; intro v2 w2 hr2 hg2; have hb2 : Below wr.heap.size wr w2 := (Below.refl _ wr).grown hg2 (Nat.le_refl _) (fun k e => by cases e); have c7 : w2.cell? ⟨g, k * 9 + 6, none⟩ = some (.slice a x.lab.after.length c) := (hb2.cell (p := ⟨g, k * 9 + 6, none⟩) hgl).trans c6; have z7 : w2.frozen? ⟨g, k * 9 + 6, none⟩ = false := (hb2.frozen (p := ⟨g, k * 9 + 6, none⟩) hgl).trans z6; obtain ⟨na, nc, rfl⟩ := irow_shape hr2)
      have hu3 : Upd (fun b => b = g) wr (w2.setCell ⟨g, k * 9 + 5 + 1, none⟩ (.slice na x.lab.after.length nc)) := ((Upd.refl (fun b => b = g) wr).bel hb2).setCell (p := ⟨g, k * 9 + 5 + 1, none⟩) (.inl rfl) _
      have HC2 : Hid (CopyI mem (w2.setCell ⟨g, k * 9 + 5 + 1, none⟩ (.slice na x.lab.after.length nc)) w.heap.size l (k + 1) (.slice (some ⟨g, 0, none⟩) cs.length vc)) := Lib.hid (by
        obtain ⟨d1, d2, d3⟩ := HD.out
        have hset := (d1.bel hb2).set_ k 6 hkd (by omega) (u := .slice na x.lab.after.length nc) rfl
        refine ⟨_, hset, by rw [List.length_set]; exact d2, fun j hj hj2 => ?_⟩
        have hmm : ∀ p u, memFr wr (fun b => b < w.heap.size ∨ (Value.slice (some ⟨g, 0, none⟩) cs.length vc).ownBlock = some b) p = some u → memFr (w2.setCell ⟨g, k * 9 + 5 + 1, none⟩ (.slice na x.lab.after.length nc)) (fun b => b < w.heap.size ∨ (Value.slice (some ⟨g, 0, none⟩) cs.length vc).ownBlock = some b) p = some u :=
          memFr_mono hu3 fun b hb hF => ⟨hF, fun e => hF (.inr (by rw [e]; rfl))⟩
        by_cases e : j = k
        · subst e
          rw [if_pos (by omega), List.getElem_set_self, hx, HCE.out]
          refine ⟨na, nc, rfl, ?_⟩
          have hir : IRow (w2.setCell ⟨g, j * 9 + 5 + 1, none⟩ (.slice na x.lab.after.length nc)) wr.heap.size (.slice na x.lab.after.length nc) x.lab.after := irow_same hr2 fun b hb => Below.heap_setCell _ _ _ _ (fun e => by
            have := (irow_blk hr2 b hb).1
            have e : b = g := e
            omega)
          exact hir.intsFr fun b hb hF => by
            have h1 := (irow_blk hr2 b hb).1
            have h2 := HB.out.size
            rcases hF with hF | hF
            · omega
            · injection hF with hF
              have hF : g = b := hF
              omega
        · have h4 := d3 j hj (by rw [List.length_set] at hj2; exact hj2)
          rw [List.getElem_set_ne (Ne.symm e)]
          by_cases hjk : j < k
          · rw [if_pos hjk] at h4
            rw [if_pos (by omega)]
            obtain ⟨a', c', q1, q2⟩ := h4
            exact ⟨a', c', q1, q2.mono hmm⟩
          · rw [if_neg hjk] at h4
            rw [if_neg (by omega)]
            exact h4)
      have HB2 : Hid (Below w.heap.size w (w2.setCell ⟨g, k * 9 + 5 + 1, none⟩ (.slice na x.lab.after.length nc))) := Lib.hid ((HB.out.trans (hb2.mono HB.out.size)).setCell hgB _)
      clear hu3 hr2 hg2 hb2 c7 z7
      go_roundw
      case rel => exact ⟨k + 1, by omega, by go_num, HC2, HB2⟩
      case measure => simp [intOf]; omega
    · have e : k = cs.length := by omega
      subst e
      have HF := Lib.hid (CopyI.done (by rw [← HL1.out]; exact HC.out) : BRow wr w.heap.size (.slice va cs.length vc) l)
      go_wp2_with fail
      go_ret
      exact ⟨_, rfl, HF.out, HB.out⟩
end Go.Proofs.YtdkkhmjlamkgdaaGreatDoor
namespace Go.Proofs.YtdkkhmjlamkgdaaGreatDoor
open Go.RowKit Mg Go.Shelf Go.Maps

def IdxIs (l : List Blk) (test : Blk → Bool) (i : Int) : Prop := (i = -1 ∧ ∀ x ∈ l, test x = false) ∨ ∃ k : Nat, i = (k : Int) ∧ ∃ h : k < l.length, test l[k] = true ∧ ∀ j (hj : j < k), test (l[j]'(by omega)) = false
structure Says (fn : Nat) (c1 : Value) (test : Blk → Bool) (mem : Addr → Option Value) (Q : World → Prop) : Prop where
  enters : ∀ args w, (callFunc fn args).run Tryz.prog w = .ok (.enter fn args) w
  says : ∀ (W : World) (x : Blk) (a : Option Addr) (c : Nat), Q W → IntsM mem (.slice a x.lab.after.length c) x.lab.after → okI x.id → Calls Tryz.prog fn #[.agg (blkCells x (.slice a x.lab.after.length c)), c1] W fun e w' => e = .returned (.bool (test x)) ∧ Below W.heap.size W w'
  keeps : ∀ W W', Q W → Below W.heap.size W W' → Q W'
set_option maxRecDepth 100000 in
set_option maxHeartbeats 4000000 in
theorem indexFunc_any {mem : Addr → Option Value} {v : Value} {l : List Blk} (h : BlksM mem v l) {fn : Nat} {c1 : Value} {test : Blk → Bool} {Q : World → Prop} (hf : Says fn c1 test mem Q) (w : World) (hs : Sees mem w) (hq : Q w) :
    Calls Tryz.prog 82 #[v, .func (.func fn) #[] #[c1]] w fun e w' => ∃ i, e = .returned (.int .i64 i) ∧ IdxIs l test i ∧ Below w.heap.size w w' := by
  obtain ⟨ao, cap, b, o, rfl, hcap, hm, hao, hat⟩ := h.open_
  have HAO := Lib.hid hao
  have HAT := Lib.hid hat
  have HS := Lib.hid hs
  have HF := Lib.hid hf
  have HQ := Lib.hid hq
  have hen := hf.enters
  have hml : l.length ≤ 9223372036854775807 := by unfold maxLen at hm; omega
  clear h hao hat hs hf hq
  go_enter Tryz.func82, Tryz.ntmps82
  go_wp2_with fail
  go_loopw [8] (fun i wr => ∃ k : Nat, k ≤ l.length ∧ i = .int .i64 k ∧ Hid (∀ j (hj : j < l.length), j < k → test l[j] = false) ∧ Hid (Below w.heap.size w wr)) (fun i _ => l.length - (intOf i).toNat)
  case atStart => exact ⟨0, Nat.zero_le _, rfl, Lib.hid (fun j _ h => absurd h (by omega)), Lib.hid (Below.refl _ _)⟩
  case round =>
    obtain ⟨k, hk, rfl, HT, HB⟩ := hrel
    by_cases hlt : k < l.length
    · obtain ⟨⟨_, _, hid⟩, a, c, hi, hc9⟩ := (HAT.out k hlt).nine (HS.out.bel HB.out)
      obtain rfl := HAO.out (by omega)
      obtain ⟨q0, q1, q2, q3, q4, q5, q6, q7, q8⟩ := hc9
      have cC := Lib.hid (HF.out.says wr l[k] a c (HF.out.keeps _ _ HQ.out HB.out) hi hid)
      have HTK : Hid (test l[k] = true → IdxIs l test k) := Lib.hid (fun ht => .inr ⟨k, rfl, hlt, ht, fun j hj => HT.out j (by omega) hj⟩)
      have HTN : Hid (test l[k] = false → ∀ j (hj : j < l.length), j < k + 1 → test l[j] = false) := Lib.hid (fun ht j hj hjk => by
        by_cases e : j = k
        · subst e; exact ht
        · exact HT.out j hj (by omega))
      generalize l[k] = x at *
      clear hi hid
      go_wp2_with fail
      refine cC.out.mono ?_
      rintro e w2 ⟨rfl, hb2⟩
      have HB2 := Lib.hid (HB.out.trans (hb2.mono HB.out.size))
      clear hb2 q0 q1 q2 q3 q4 q5 q6 q7 q8 cC
      cases htx : test x with
      | true =>
        have HR := Lib.hid (HTK.out htx)
        clear htx
        go_wp2_with fail
        go_ret
        exact ⟨_, rfl, HR.out, HB2.out⟩
      | false =>
        have HR := Lib.hid (HTN.out htx)
        clear htx
        go_wp2_with fail
        go_roundw
        case rel => exact ⟨k + 1, by omega, by go_num, HR, HB2⟩
        case measure => simp [intOf]; omega
    · have e : k = l.length := by omega
      subst e
      have HR : Hid (IdxIs l test (-1)) := Lib.hid (.inl ⟨rfl, fun x hx => by
        obtain ⟨j, hj, rfl⟩ := List.getElem_of_mem hx
        exact HT.out j hj hj⟩)
      go_wp2_with fail
      go_ret
      exact ⟨_, rfl, HR.out, HB.out⟩
theorem says_apply {mem : Addr → Option Value} (c : Corr) (cb : Nat) : Says 139 (.pointer (some ⟨cb, 0, none⟩)) (fun x => decide (x.id = c.block)) mem (fun W => W.heap[cb]? = some (.cells (corrCells c) 69 (0, 0))) where
  enters := enters_of Tryz.func139 (by kernel_rfl) rfl
  keeps := fun W W' hq hb => (hb.block _ (hlt hq)).trans hq
  says := fun W x a cap hq _ _ => by
    obtain ⟨W1, hW1⟩ : ∃ W1, W1 = W.alloc (.cells (blkCells x (.slice a x.lab.after.length cap)) 58) := ⟨_, rfl⟩
    have hb1 : Below W.heap.size W W1 := by rw [hW1]; exact bel1 _ _
    have hx1 : W1.heap[W.heap.size]? = some (.cells (blkCells x (.slice a x.lab.after.length cap)) 58 (0, 0)) := by rw [hW1]; exact World.alloc_heap_new _ _
    have k0 : W1.cell? ⟨W.heap.size, 0, none⟩ = some (.int .i64 x.id) := rowcell hx1
    have k1 : W1.cell? ⟨cb, 1, none⟩ = some (.int .i64 c.block) := rowcell ((hb1.block _ (hlt hq)).trans hq)
    have HW1 := Lib.hid hW1
    have HB1 := Lib.hid hb1
    clear hW1 hb1 hx1 hq
    go_enter Tryz.func139, Tryz.ntmps139
    go_upto_region 1 with fail
    rw [← HW1.out]
    go_wp2_with fail
    go_ret
    exact ⟨ret_bool (by rw [Bool.eq_iff_iff]; simp), HB1.out⟩
end Go.Proofs.YtdkkhmjlamkgdaaGreatDoor
namespace Go.Proofs.YtdkkhmjlamkgdaaGreatDoor
section
variable {F : Fence} {n : Nat} {P : Program} {Q : Exit → Act → World → Prop} {a : Act} {w : World} {b : Frame} {k : List Item} {cs : List Frame}
theorem noGoto_normal : Exit.noGoto Q .normal a w = Q .normal a w := rfl
theorem noGoto_ret : Exit.noGoto Q .ret a w = Q .ret a w := rfl
theorem stepR_scope {c : Code} : step P (lone (b.atR a (.code (.scope c) :: k)) cs w) = .next (lone (b.atR a (.code c :: .inScope c :: k)) cs w) :=
  step_lone_go (by simp [stepG, stepG.exec, Frame.atR])
theorem stepR_inScope {c : Code} : step P (lone (b.atR a (.inScope c :: k)) cs w) = .next (lone (b.atR a k) cs w) :=
  step_lone_go (by simp [stepG, stepG.exec, Frame.atR])
theorem wpIn_scope_straight {c : Code} (h : c.wpIn F n P (Exit.noGoto Q) a w) : (Code.scope c).wpIn F n P Q a w := by
  intro b k cs hro hb hr
  have h0 : (lone (b.atR a (.code (.scope c) :: k)) cs w).fenced P F := fenced_calm hb hr rfl
  obtain ⟨e, a₁, w₁, hq, harr⟩ := h b (.inScope c :: k) cs hro hb hr
  cases e with
  | normal => exact ⟨.normal, a₁, w₁, hq, .head h0 stepR_scope (StepsIn.trans harr (.one (fenced_calm hb hr rfl) stepR_inScope))⟩
  | exit id => exact ⟨.exit id, a₁, w₁, hq, fun k' hk => .head h0 stepR_scope (harr.1 k' (by simp [exitTo, hk])), fun hro hk => by
      obtain ⟨k₁, h1, h2⟩ := harr.2 hro (by simp [exitTo, hk])
      exact ⟨k₁, h1, .head h0 stepR_scope h2⟩⟩
  | goto l => exact hq.elim
  | ret => exact ⟨_, a₁, w₁, hq, .of_steps (.one h0 stepR_scope) harr⟩
  | panic ch => exact ⟨_, a₁, w₁, hq, .of_steps (.one h0 stepR_scope) harr⟩
  | outgrown => exact ⟨_, a₁, w₁, hq, .of_steps (.one h0 stepR_scope) harr⟩
end
end Go.Proofs.YtdkkhmjlamkgdaaGreatDoor
namespace Go.Proofs.YtdkkhmjlamkgdaaGreatDoor
open Go.RowKit Go.Shelf

set_option maxHeartbeats 400000 in
theorem initial_any (s : ByteArray) (n : Nat) (w : World) (hs : s.size ≤ 1099511627776) (hn : n ≤ s.size) :
    Calls Tryz.prog 153 #[.string s, .int .i64 n] w fun e w' => e = .returned (.bool (initB s n)) ∧ w = w' := by
  rcases n with _ | _ | n
  · go_enter Tryz.func153, Tryz.ntmps153
    go_wp2
    go_ret
    exact ⟨rfl, rfl⟩
  · have h0 := bAt_get s 0 (by omega)
    have H0 := Lib.hid h0
    clear h0
    go_enter Tryz.func153, Tryz.ntmps153
    go_wp2
    all_goals
      go_ret
      refine ⟨ret_bool ?_, rfl⟩
      simp only [initB, H0.out]
      symm
      first | (rw [decide_eq_false_iff_not]; omega) | (rw [decide_eq_true_eq]; omega)
  · have h0 := bAt_get s n (by omega)
    have h1 := bAt_get s (n + 1) (by omega)
    have H0 := Lib.hid h0
    have H1 := Lib.hid h1
    clear h0 h1
    go_enter Tryz.func153, Tryz.ntmps153
    go_wp2
    all_goals
      go_ret
      refine ⟨ret_bool ?_, rfl⟩
      simp only [initB, H0.out, H1.out]
      first
        | (symm; rw [decide_eq_false_iff_not]; omega)
        | (rw [Bool.eq_iff_iff]; simp only [Bool.or_eq_true, beq_iff_eq, decide_eq_true_eq]; omega)

attribute [local go_sem] Oper.semAt_some

theorem trim_ext (s : ByteArray) (i j : Nat) (w : World) (hs : s.size ≤ 1099511627776) (m : Nat) :
    CallsIn Fence.wide m Tryz.prog 154 #[.string (s.extract i j), .string ⟨#[32]⟩] w fun e w' => e = .returned (.string (bs (piece s i j))) ∧ w.grownBy w' none ∧ (∀ a, w'.cell? a = w.cell? a) :=
  callsIn_wide.2 ((Tryz.strings_Trim_one (s.extract i j) 32 (by decide) w (by simp; omega)).mono fun e w' h => ⟨h.1, by
    rcases h.2 with e | e
    · subst e; exact ⟨⟨rfl, rfl, rfl, Nat.le_refl _, fun _ _ _ => rfl⟩, fun _ => rfl⟩
    · subst e; exact ⟨⟨rfl, rfl, rfl, Nat.le_refl _, fun _ _ _ => rfl⟩, fun _ => rfl⟩⟩)
theorem initial_wide (s : ByteArray) (n : Nat) (w : World) (hs : s.size ≤ 1099511627776) (hn : n ≤ s.size) (m : Nat) :
    CallsIn Fence.wide m Tryz.prog 153 #[.string s, .int .i64 n] w fun e w' => e = .returned (.bool (initB s n)) ∧ w = w' := callsIn_wide.2 (initial_any s n w hs hn)

set_option maxRecDepth 100000 in
set_option maxHeartbeats 2000000 in
theorem sents1 (n l Bn n₀ : Nat) (s : ByteArray) (hs : s.size ≤ 1099511627776) (hBn : Bn < n₀) (J Jx : List (List UInt8) → World → Prop)
    (hY : ∀ pre x W, J pre W → pre.length < s.size + 1 → YieldAt Fence.wide (n - 1) Tryz.prog l #[encStr x] W fun e W' =>
      (e = .returned (.bool true) ∧ J (pre ++ [x]) W' ∧ Below n₀ W W') ∨ (e = .returned (.bool false) ∧ Jx (pre ++ [x]) W'))
    (W : World) (hJ : AbidesFrom W.heap.size J) (hc : W.cell? ⟨Bn, 0, none⟩ = some (.string s)) (h0 : J [] W) :
    CallsIn Fence.wide n Tryz.prog 152 #[.func (.yield l) #[] #[], .pointer (some ⟨Bn, 0, none⟩)] W fun e W' => (∃ v, e = .returned v) ∧
      ((∃ ys, ys = sentF s ∧ J ys W') ∨ (∃ pre, True ∧ Jx pre W')) := by
  refine callsIn_of_wp Tryz.func152 rfl trivial ?_ rfl
  simp only [Tryz.ntmps152, List.size_toArray, List.length_cons, List.length_nil, Nat.reduceAdd, Nat.reduceSub, Array.replicate_succ, Array.replicate_zero, List.push_toArray, List.append_toArray, List.nil_append, List.cons_append]
  refine wpIn_scope_straight ?_
  gi_wp2_with fail
  refine wpIn_label ?_
  gi_wp2_with fail
  gi_loopw [3, 4] (fun st i wr => ∃ (k start : Nat) (pre : List (List UInt8)), k ≤ s.size ∧ start ≤ k ∧ st = .int .i64 start ∧ i = .int .i64 k ∧ pre.length ≤ k ∧ Hid (pre ++ sentGo s (s.size - k) start = sentF s) ∧ wr.cell? ⟨Bn, 0, none⟩ = some (.string s) ∧ J pre wr)
    (fun _ i _ => s.size - (intOf i).toNat)
  case atStart => exact ⟨0, 0, [], by omega, by omega, rfl, rfl, by simp, Lib.hid rfl, hc, h0⟩
  case round =>
    obtain ⟨k, start, pre, hk, hst, rfl, rfl, hpl, HP, hcw, hJs⟩ := hrel
    by_cases hlt : k < s.size
    · have hstep := sentGo_step s k start hlt
      have HS := Lib.hid hstep
      have hbk := bAt_get s k hlt
      have HB := Lib.hid hbk
      have hj0 := fun w2 (hg : wr.grownBy w2 none) => hJ pre wr w2 none hJs hg (fun r h => by cases h)
      have HJ0 := Lib.hid hj0
      have HY := Lib.hid hY
      clear hstep hbk hj0 hY
      have HC0 := Lib.hid hcw
      have hE1 : k + 1 < s.size → bAt s (k + 1) = (s.data.toList.getD (k + 1) 0).toNat := fun _ => rfl
      have hN : sEnds s k = false → Hid (pre ++ sentGo s (s.size - (k + 1)) start = sentF s) := fun h => by
        have := HP.out; rw [HS.out, h] at this; exact this
      have hY1 : sEnds s k = true → Hid ((pre ++ [piece s start (k + 1)]) ++ sentGo s (s.size - (k + 1)) (k + 1) = sentF s) := fun h => by
        have := HP.out; rw [HS.out, h] at this; rw [List.append_assoc]; exact this
      have HN := Lib.hid hN
      have HY1 := Lib.hid hY1
      have hlast : s.size ≤ k + 1 → k + 1 = s.size := fun h => by omega
      have HL := Lib.hid hlast
      clear hE1 hN hY1 hlast
      by_cases hk1 : k + 1 < s.size
      · have hb1 := bAt_get s (k + 1) hk1
        have HB1 := Lib.hid hb1
        have hne1 : k + 1 ≠ s.size := by omega
        have HNE := Lib.hid hne1
        clear hb1 hne1
        gi_wp2_with (first | (refine ⟨trivial, (fun h => by cases h), ?_⟩; gi_at_call 153; refine (initial_wide s k _ hs (by omega) _).mono ?_; rintro e w2 ⟨rfl, rfl⟩) | (refine ⟨trivial, (fun h => by cases h), ?_⟩; gi_at_call 154; refine (trim_ext s start (k + 1) _ hs _).mono ?_; rintro e w2 ⟨rfl, hg2, hc2⟩; have hJ2 := HJ0.out w2 hg2; have HC2 := Lib.hid hc2; clear hc2; obtain ⟨fn, tmps, assign, body, hy, hR⟩ := HY.out pre (piece s start (k + 1)) w2 hJ2 (by omega); change (Instr.yield l #[.string (bs (piece s start (k + 1)))]).run _ _ = _ at hy) | (refine ⟨(fun h => by cases h), ?_⟩; refine hR.mono ?_; rintro e W3 (⟨rfl, hJ3, hk3⟩ | ⟨rfl, hJx3⟩)))
        all_goals simp only [beq_iff_eq, beq_eq_false_iff_ne, ne_eq, bne_iff_ne, bne_eq_false_iff_eq] at *
        all_goals first
          | (have hE : sEnds s k = true := (sEnds_iff s k).2 (by rw [HB.out]; first | exact ⟨.inl ⟨by omega, by assumption⟩, .inr (by rw [HB1.out]; omega)⟩ | exact ⟨.inr (by omega), .inr (by rw [HB1.out]; omega)⟩)
             first
               | (go_roundw
                  case rel => exact ⟨k + 1, k + 1, pre ++ [piece s start (k + 1)], by omega, by omega, by go_num, by go_num, by simp; omega, HY1.out hE, (hk3.cell (p := ⟨Bn, 0, none⟩) hBn).trans ((HC2.out _).trans HC0.out), hJ3⟩
                  case measure => simp [intOf]; omega)
               | (rw [noGoto_ret]
                  refine bodyPost_ret (results_none rfl _ _ _) rfl ?_
                  exact ⟨⟨_, rfl⟩, .inr ⟨_, trivial, hJx3⟩⟩))
          | (have hE : sEnds s k = false := Bool.eq_false_iff.2 (fun h => by
               have hh := (sEnds_iff s k).1 h
               rw [HB.out] at hh
               obtain ⟨h1, h2⟩ := hh
               rw [HB1.out] at h2
               rcases h1 with ⟨h3, h4⟩ | h3
               · first | omega | (exfalso; simp_all; done)
               · omega)
             go_roundw
             case rel => exact ⟨k + 1, start, pre, by omega, by omega, by go_num, by go_num, by omega, HN.out hE, HC0.out, hJs⟩
             case measure => simp [intOf]; omega)
      · have HLL := HL.out (by omega)
        have HE := Lib.hid HLL
        clear HLL
        gi_wp2_with (first | (refine ⟨trivial, (fun h => by cases h), ?_⟩; gi_at_call 153; refine (initial_wide s k _ hs (by omega) _).mono ?_; rintro e w2 ⟨rfl, rfl⟩) | (refine ⟨trivial, (fun h => by cases h), ?_⟩; gi_at_call 154; refine (trim_ext s start (k + 1) _ hs _).mono ?_; rintro e w2 ⟨rfl, hg2, hc2⟩; have hJ2 := HJ0.out w2 hg2; have HC2 := Lib.hid hc2; clear hc2; obtain ⟨fn, tmps, assign, body, hy, hR⟩ := HY.out pre (piece s start (k + 1)) w2 hJ2 (by omega); change (Instr.yield l #[.string (bs (piece s start (k + 1)))]).run _ _ = _ at hy) | (refine ⟨(fun h => by cases h), ?_⟩; refine hR.mono ?_; rintro e W3 (⟨rfl, hJ3, hk3⟩ | ⟨rfl, hJx3⟩)))
        all_goals simp only [beq_iff_eq, beq_eq_false_iff_ne, ne_eq] at *
        all_goals first
          | (have hE : sEnds s k = true := (sEnds_iff s k).2 (by rw [HB.out]; first | exact ⟨.inl ⟨by omega, by assumption⟩, .inl (by omega)⟩ | exact ⟨.inr (by omega), .inl (by omega)⟩)
             first
               | (go_roundw
                  case rel => exact ⟨k + 1, k + 1, pre ++ [piece s start (k + 1)], by omega, by omega, by go_num, by go_num, by simp; omega, HY1.out hE, (hk3.cell (p := ⟨Bn, 0, none⟩) hBn).trans ((HC2.out _).trans HC0.out), hJ3⟩
                  case measure => simp [intOf]; omega)
               | (rw [noGoto_ret]
                  refine bodyPost_ret (results_none rfl _ _ _) rfl ?_
                  exact ⟨⟨_, rfl⟩, .inr ⟨_, trivial, hJx3⟩⟩))
          | (have hE : sEnds s k = false := Bool.eq_false_iff.2 (fun h => by
               have hh := (sEnds_iff s k).1 h
               rw [HB.out] at hh
               obtain ⟨h1, h2⟩ := hh
               rcases h1 with ⟨h3, h4⟩ | h3
               · first | omega | (exfalso; simp_all; done)
               · omega)
             go_roundw
             case rel => exact ⟨k + 1, start, pre, by omega, by omega, by go_num, by go_num, by omega, HN.out hE, HC0.out, hJs⟩
             case measure => simp [intOf]; omega)
    · have e : k = s.size := by omega
      subst e
      have hj0 := fun w2 (hg : wr.grownBy w2 none) => hJ pre wr w2 none hJs hg (fun r h => by cases h)
      have HJ0 := Lib.hid hj0
      have HY := Lib.hid hY
      have hz : s.size - s.size = 0 := Nat.sub_self _
      rw [hz] at HP
      have HP' : Hid (pre ++ (if piece s start s.size = [] then [] else [piece s start s.size]) = sentF s) := HP
      clear hj0 hY hz HP
      gi_wp2_with (refine ⟨trivial, (fun h => by cases h), ?_⟩; gi_at_call 154; refine (trim_ext s start s.size _ hs _).mono ?_; rintro e w2 ⟨rfl, hg2, hc2⟩; have hJ2 := HJ0.out w2 hg2; clear hc2; obtain ⟨fn, tmps, assign, body, hy, hR⟩ := HY.out pre (piece s start s.size) w2 hJ2 (by omega); change (Instr.yield l #[.string (bs (piece s start s.size))]).run _ _ = _ at hy)
      · have hne : piece s start s.size ≠ [] := by
          intro e
          have : (!(bs (piece s start s.size)).toList.isEmpty) = true := by assumption
          rw [e] at this; simp [ByteArray.toList_eq] at this
        refine ⟨(fun h => by cases h), ?_⟩
        refine hR.mono ?_
        have HR : Hid (pre ++ [piece s start s.size] = sentF s) := by have := HP'.out; rwa [if_neg hne] at this
        rintro e W3 (⟨rfl, hJ3, hk3⟩ | ⟨rfl, hJx3⟩)
        · gi_wp2
          rw [noGoto_normal]
          refine bodyPost_end (results_none rfl _ _ _) rfl ?_
          exact ⟨⟨_, rfl⟩, .inl ⟨_, HR.out, hJ3⟩⟩
        · gi_wp2
          rw [noGoto_normal]
          refine bodyPost_end (results_none rfl _ _ _) rfl ?_
          exact ⟨⟨_, rfl⟩, .inr ⟨_, trivial, hJx3⟩⟩
      · have he : piece s start s.size = [] := by
          have : (!(bs (piece s start s.size)).toList.isEmpty) = false := by assumption
          simpa [ByteArray.toList_eq] using this
        have HR : Hid (pre = sentF s) := by have := HP'.out; rw [if_pos he, List.append_nil] at this; exact this
        rw [noGoto_normal]
        refine bodyPost_end (results_none rfl _ _ _) rfl ?_
        exact ⟨⟨_, rfl⟩, .inl ⟨_, HR.out, hJ2⟩⟩
end Go.Proofs.YtdkkhmjlamkgdaaGreatDoor
namespace Go.Proofs.YtdkkhmjlamkgdaaGreatDoor
open Go.RowKit Go.Shelf
attribute [local go_sem] Oper.semAt_some

theorem sents_stops (n : Nat) (Bn n₀ : Nat) (s : ByteArray) (w : World) (hs : s.size ≤ 1099511627776) (hBn : Bn < n₀) (hn₀ : n₀ ≤ w.heap.size) (hc : w.cell? ⟨Bn, 0, none⟩ = some (.string s)) :
    SeqStopsK Fence.wide n Tryz.prog 152 #[.pointer (some ⟨Bn, 0, none⟩)] (fun x : List UInt8 => #[encStr x]) (Below n₀) (fun ys => ys = sentF s) (fun _ => True) (s.size + 1) w :=
  fun l J Jx W hW hJ _ hY h0 => sents1 n l Bn n₀ s hs hBn J Jx hY W hJ ((hW.cell (p := ⟨Bn, 0, none⟩) (Nat.lt_of_lt_of_le hBn hn₀)).trans hc) h0

theorem str_info9 : (Tryz.prog.info? 9).map (fun i => (i.zero, i.size, i.bytes)) = some (some (.string .empty), 1, 16) := by kernel_rfl

set_option maxRecDepth 100000 in
set_option maxHeartbeats 2000000 in
theorem appendSeq_wide (n : Nat) (s : ByteArray) (hs : s.size ≤ 1099511627776) (Bn : Nat) (w : World) (hBn : Bn < w.heap.size) (hc : w.cell? ⟨Bn, 0, none⟩ = some (.string s)) :
    CallsIn Fence.wide n Tryz.prog 140 #[.slice none 0 0, .func (.func 152) #[] #[.pointer (some ⟨Bn, 0, none⟩)]] w fun e W' => ∃ v, e = .returned v ∧
      W'.ownsRow w.heap.size 9 1 v (sentF s).length ((sentF s).map encStr) ∧ (v = .slice none 0 0 ↔ sentF s = []) ∧ Below w.heap.size w W' := by
  refine callsIn_wide.2 ((callsIn_wide (n := 5)).1 ?_)
  obtain ⟨i0, hi, hz0, hz1, hz2⟩ := info_parts str_info9
  refine callsIn_of_wp_marks Tryz.func140 rfl trivial ?_ rfl
  simp only [Tryz.ntmps140, List.size_toArray, List.length_cons, List.length_nil, Nat.reduceAdd, Nat.reduceSub, Array.replicate_succ, Array.replicate_zero, List.push_toArray, List.append_toArray, List.nil_append, List.cons_append]
  gi_wp2
  have bO := Boxed.new w 30 (.slice none 0 0)
  have hB0 : Below w.heap.size w (w.alloc (.cells #[.slice none 0 0] 30)) := (Below.refl _ w).alloc (Nat.le_refl _) _
  refine wpIn_rangeFunc_ownG rfl (by omega) (gf := 152) (lb := #[.pointer (some ⟨Bn, 0, none⟩)]) rfl trivial (enters_of Tryz.func152 (by kernel_rfl) rfl)
    (sents_stops _ Bn w.heap.size s _ hs hBn (by simp) ((hB0.cell (p := ⟨Bn, 0, none⟩) hBn).trans hc)) belowK_t (belowK_b (by simp)) (Below.refl _ _) (fun _ => rfl)
    (fun pre W => (∃ v, Boxed W w.heap.size 30 v ∧ W.ownsRow w.heap.size 9 1 v pre.length (pre.map encStr) ∧ (v = .slice none 0 0 ↔ pre = [])) ∧ Below w.heap.size w W)
    (fun _ _ _ => False)
    (OwnFrom.and (Own.from (holdsRow_own w.heap.size w.heap.size 30 9 1 (fun pre => pre.length) (fun pre => pre.map encStr) (fun pre v => v = .slice none 0 0 ↔ pre = [])) _) (ownFrom_below (Nat.le_refl _) (by simp)))
    (fun _ _ _ _ _ hs _ _ => hs)
    ⟨⟨_, bO, World.ownsRow_nil _ _ _ _, by simp⟩, hB0⟩
    (fun x => { tmps := #[.slice none 0 0, .func (.func 152) #[] #[.pointer (some ⟨Bn, 0, none⟩)], .pointer (some ⟨w.heap.size, 0, none⟩), undef, .slice none 0 0, encStr x, .func (.func 152) #[] #[.pointer (some ⟨Bn, 0, none⟩)], encStr x, undef, undef, undef, undef, undef], defers := [] }) ?assign ?body ?done ?stop
  case assign =>
    intro l x W K hK
    gi_wp2
    exact hK
  case body =>
    rintro l pre x W ⟨⟨v, hv, hrow, hnil⟩, hB⟩ hlt
    have hc := hv.cell
    gi_wp2_with (gi_at_builtin; refine wpListIn_append_own _ rfl _ _ 30 rfl w.heap.size 9 i0 (.string .empty) 1 16 Tryz.underlying30 hi hz0 hz1 hz2 rfl (by decide) _ _ _ rfl (hrow.alloc _) ⟨W.heap.size, 0, none⟩ 1 1 [encStr x] rfl rfl (cell_one_new _ _ _) (by simp [Value.oneCell']) (by unfold maxLen; omega) (by omega) (by have := hB.size; simp; omega) ?_; intro v' w1 hown' hgrow _; obtain ⟨g', cap', rfl⟩ := ownsRow_succ hown'; obtain ⟨hv1, hv2, hr2, hk2, hb2⟩ := hv.appended (by decide) hrow hB.size (Nat.le_refl _) hown' hgrow; have hc1 := hv1.cell; have hf1 := hv1.frozen)
    exact ⟨hk2.from _, hb2, ⟨_, hv2, by simpa using hr2, by simp⟩, hB.trans hb2⟩
  case done =>
    rintro D ys W hD rfl ⟨⟨v, hv, hrow, hnil⟩, hB⟩ hK
    have hc := hv.cell
    gi_wp2
    refine ⟨by simp, .inl ⟨_, _, rfl, run_takeDeferred hK, ?_⟩⟩
    exact ⟨_, results_tmp rfl _ _ _, v, rfl, ownsRow_putObj hrow _ hK rfl, hnil, hB.trans (belowK_b (w := w) (Nat.le_refl _) W D _ _ (by simp at hD; omega) hK rfl rfl)⟩
  case stop =>
    rintro D c pre W _ _ h _
    exact h.elim

def SRow (w : World) (B : Nat) (v : Value) (l : List (List UInt8)) : Prop := w.ownsRow B 9 1 v l.length (l.map encStr)
def SentPost (s : ByteArray) (w : World) (e : Ending) (w' : World) : Prop := ∃ v, e = .returned v ∧ SRow w' w.heap.size v (sentF s) ∧ Below w.heap.size w w'

theorem sentences_any (s : ByteArray) (w : World) :
    Calls Tryz.prog 124 #[.string s] w fun e w' => e = .returned (.func (.func 152) #[] #[.pointer (some ⟨w.heap.size, 0, none⟩)]) ∧ w.alloc (.cells #[.string s] 9) = w' := by
  go_enter Tryz.func124, Tryz.ntmps124
  go_wp2
  go_ret
  exact ⟨rfl, rfl⟩
theorem collect_any (s : ByteArray) (hs : s.size ≤ 1099511627776) (Bn : Nat) (w : World) (hBn : Bn < w.heap.size) (hc : w.cell? ⟨Bn, 0, none⟩ = some (.string s)) :
    Calls Tryz.prog 116 #[.func (.func 152) #[] #[.pointer (some ⟨Bn, 0, none⟩)]] w (SentPost s w) := by
  go_enter Tryz.func116, Tryz.ntmps116
  go_wp2_with (go_at_call 140; refine (callsIn_wide.1 (appendSeq_wide 5 s hs Bn w hBn hc)).mono ?_; rintro e w' ⟨v, rfl, hr, _, hb⟩)
  go_ret
  exact ⟨_, rfl, hr, hb⟩
theorem SentPost_of {s : ByteArray} {w : World} {o : Obj} {v : Value} {w' : World} (hr : SRow w' (w.alloc o).heap.size v (sentF s)) (hb : Below (w.alloc o).heap.size (w.alloc o) w') : SentPost s w (.returned v) w' := by
  refine ⟨v, rfl, ?_, ((Below.refl _ w).alloc (Nat.le_refl _) o).trans (hb.mono (by simp))⟩
  refine ⟨hr.1, ?_⟩
  rcases hr.2 with h | ⟨g, cap, cur, h1, h2, h3⟩
  · exact .inl h
  · exact .inr ⟨g, cap, cur, h1, by simp at h2; omega, h3⟩
theorem Sentences_any (s : ByteArray) (hs : s.size ≤ 1099511627776) (w : World) : Calls Tryz.prog 100 #[.string s] w (SentPost s w) := by
  have hn := World.cell?_alloc_new w #[.string s] 9 0
  go_enter Tryz.func100, Tryz.ntmps100
  go_wp2_with fail
  refine (sentences_any s w).mono ?_
  rintro e w1 ⟨rfl, rfl⟩
  go_wp2_with fail
  refine (collect_any s hs _ _ (by simp) (by simp)).mono ?_
  rintro e w2 ⟨v, rfl, hr, hb⟩
  go_wp2_with fail
  go_ret
  exact SentPost_of hr hb
end Go.Proofs.YtdkkhmjlamkgdaaGreatDoor
namespace Go.Proofs.YtdkkhmjlamkgdaaGreatDoor.Mg

theorem step_pub {g : StG} {p : Fct} (h : g.pub = none) (hp : p.kind = 3) : stepG g p = { g with pub := some p.n } := by
  unfold stepG
  rw [if_neg (by omega), if_pos hp, h]
structure Lin (en : ByteArray) (rs : List Fct) : Prop where
  kind : ∀ i (h : i < rs.length), rs[i].kind = 1
  story : ∀ i (h : i < rs.length), rs[i].story = 3
  lang : ∀ i (h : i < rs.length), rs[i].lang = en
  rev : ∀ i (h : i < rs.length), rs[i].rev = (i : Int) + 1
  base : ∀ i (h : i < rs.length), rs[i].base = i
def linEds (en : ByteArray) (rs : List Fct) : List EdG := match rs.getLast? with
  | none => []
  | some p => [⟨en, rs.length, p.title, p.n, rs⟩]
structure LinIs (en : ByteArray) (rs : List Fct) (g : StG) : Prop where
  pub : g.pub = none
  corr : g.corr = []
  taken : g.taken = false
  eds : g.eds = linEds en rs
theorem lin_take {en : ByteArray} {rs : List Fct} (h : Lin en rs) : ∀ k, k ≤ rs.length → LinIs en (rs.take k) ((rs.take k).foldl stepG stg0)
  | 0, _ => by rw [List.take_zero]; exact ⟨rfl, rfl, rfl, rfl⟩
  | k + 1, hk => by
    have hk2 : k < rs.length := by omega
    have ih := lin_take h k (by omega)
    rw [List.take_succ_eq_append_getElem hk2, List.foldl_append, List.foldl_cons, List.foldl_nil]
    have e1 := h.kind k hk2
    have e2 := h.lang k hk2
    have e3 := h.rev k hk2
    have hlen : (rs.take k).length = k := by rw [List.length_take]; omega
    obtain ⟨i1, i2, i3, i4⟩ := ih
    generalize (rs.take k).foldl stepG stg0 = g at *
    generalize rs[k] = f at *
    unfold stepG
    rw [if_pos e1]
    refine ⟨i1, i2, i3, ?_⟩
    show upEd f g.eds = _
    rw [i4]
    unfold linEds
    rw [List.getLast?_append, List.getLast?_singleton]
    show _ = [(⟨en, ((rs.take k ++ [f]).length : Nat), f.title, f.n, rs.take k ++ [f]⟩ : EdG)]
    rw [List.length_append, hlen]
    cases hr : (rs.take k).getLast? with
    | none =>
      have : rs.take k = [] := by simpa using hr
      rw [this] at hlen
      have hk0 : k = 0 := by simpa using hlen.symm
      subst hk0
      show [newEd f] = _
      unfold newEd
      rw [this, e2, e3]; rfl
    | some p =>
      show (if en = f.lang then [reEd f _] else _) = _
      rw [if_pos e2.symm]
      unfold reEd
      rw [e3]
      have : max (k : Int) ((k : Int) + 1) = ((k + [f].length : Nat) : Int) := by simp; omega
      rw [this]
structure PubF (p : Fct) : Prop where
  kind : p.kind = 3
  story : p.story = 3
end Go.Proofs.YtdkkhmjlamkgdaaGreatDoor.Mg
namespace Go.Proofs.YtdkkhmjlamkgdaaGreatDoor.Mg

structure Pairs (en ti : ByteArray) (fs : List Fct) (ps : List (Int × Blk)) : Prop where
  len : fs.length = 2 * ps.length
  nodup : (ps.map Prod.fst).Nodup
  rev : ∀ i (h : i < ps.length) (h2 : 2 * i < fs.length), fs[2 * i].kind = 1 ∧ fs[2 * i].story = ps[i].1 ∧ fs[2 * i].lang = en ∧ fs[2 * i].title = ti ∧ fs[2 * i].blocks = [ps[i].2]
  pub : ∀ i (h : i < ps.length) (h2 : 2 * i + 1 < fs.length), fs[2 * i + 1].kind = 3 ∧ fs[2 * i + 1].story = ps[i].1
structure OneB (en : ByteArray) (b : Blk) (g : StG) : Prop where
  pub : g.pub.isSome = true
  taken : g.taken = false
  retr : g.retr = false
  corr : g.corr = []
  eds : ∃ f : Fct, f.lang = en ∧ f.blocks = [b] ∧ g.eds = [newEd f]
theorem pairs_take {en ti : ByteArray} {fs : List Fct} {ps : List (Int × Blk)} (h : Pairs en ti fs ps) : ∀ k, k ≤ ps.length →
    (∀ i (hi : i < k) (h2 : i < ps.length), OneB en ps[i].2 (foldG (fs.take (2 * k)) ps[i].1)) ∧ ∀ id, (∀ i (_ : i < k) (h2 : i < ps.length), ps[i].1 ≠ id) → foldG (fs.take (2 * k)) id = stg0
  | 0, _ => ⟨fun i hi => absurd hi (by omega), fun _ _ => rfl⟩
  | k + 1, hk => by
    obtain ⟨ih1, ih2⟩ := pairs_take h k (by omega)
    have hl := h.len
    have h0 : 2 * k < fs.length := by omega
    have h1 : 2 * k + 1 < fs.length := by omega
    have e : fs.take (2 * (k + 1)) = fs.take (2 * k) ++ [fs[2 * k]] ++ [fs[2 * k + 1]] := by
      rw [show 2 * (k + 1) = 2 * k + 1 + 1 by omega, List.take_succ_eq_append_getElem h1, List.take_succ_eq_append_getElem h0]
    obtain ⟨r1, r2, r3, r4, r5⟩ := h.rev k (by omega) h0
    obtain ⟨p1, p2⟩ := h.pub k (by omega) h1
    have hne : ∀ i (hi : i < k) (h2 : i < ps.length), ps[i].1 ≠ ps[k].1 := fun i hi h2 e => by
      have := (List.pairwise_iff_getElem.1 h.nodup) i k (by simpa using h2) (by simp; omega) hi
      simp at this
      exact this e
    rw [e]
    constructor
    · intro i hi h2
      rw [foldG_snoc, foldG_snoc, p2, r2]
      by_cases hik : i = k
      · subst hik
        rw [if_pos rfl, if_pos rfl, ih2 _ (fun j hj h3 => hne j hj h3)]
        have hs : stepG stg0 fs[2 * i] = { stg0 with author := fs[2 * i].author, topics := fs[2 * i].topics, eds := [newEd fs[2 * i]] } := by
          unfold stepG; rw [if_pos r1]; rfl
        rw [hs, step_pub rfl p1]
        exact ⟨rfl, rfl, rfl, rfl, _, r3, r5, rfl⟩
      · rw [if_neg (fun e => hne i (by omega) h2 e.symm), if_neg (fun e => hne i (by omega) h2 e.symm)]
        exact ih1 i (by omega) h2
    · intro id hid
      have hk2 := hid k (by omega) (by omega)
      rw [foldG_snoc, foldG_snoc, p2, r2, if_neg hk2, if_neg hk2]
      exact ih2 id (fun i hi h2 => hid i (by omega) h2)
theorem pairs_story {en ti : ByteArray} {fs : List Fct} {ps : List (Int × Blk)} (h : Pairs en ti fs ps) {s : StF} (hs : FoldIs fs s) (i : Nat) (hi : i < ps.length) :
    ∃ e, (styOf s ps[i].1).eds = [e] ∧ e.lang = en ∧ e.blocks = [ps[i].2] ∧ (styOf s ps[i].1).retr = false := by
  have h1 := (pairs_take h ps.length (Nat.le_refl _)).1 i hi hi
  rw [← h.len, List.take_length] at h1
  obtain ⟨x, hx, hid⟩ := List.mem_map.1 ((hs.mem ps[i].1).2 h1.pub)
  have hv := hs.val x hx
  rw [hid] at hv
  have hn : ∀ y ∈ s.stories, y.id = ps[i].1 → y = x := fun y hy e => by
    obtain ⟨a, ha, rfl⟩ := List.getElem_of_mem hx
    obtain ⟨b, hb, rfl⟩ := List.getElem_of_mem hy
    have hp := List.pairwise_iff_getElem.1 hs.ids
    rcases Nat.lt_trichotomy a b with q | q | q
    · have := hp a b (by simpa using ha) (by simpa using hb) q; simp at this; omega
    · subst q; rfl
    · have := hp b a (by simpa using hb) (by simpa using ha) q; simp at this; omega
  have hf : styOf s ps[i].1 = x := by
    unfold styOf findS
    cases hh : s.stories.find? (fun y => decide (y.id = ps[i].1)) with
    | none => exact absurd hid (by simpa using (List.find?_eq_none.1 hh) x hx)
    | some y => exact hn y (List.mem_of_find?_eq_some hh) (by simpa using List.find?_some hh)
  obtain ⟨f, hf1, hf2, hf3⟩ := h1.eds
  have he : x.eds = [edFin (foldG fs ps[i].1).corr (newEd f)] := asc_map EdnF.lang ltB_irr (fun _ _ => ltB_asym) hv.eds (List.pairwise_singleton _ _) fun e => by
    rw [hv.mem, hf3]
    simp [h1.taken]
  refine ⟨_, by rw [hf]; exact he, hf1, ?_, by rw [hf, hv.retr, h1.retr]; simp⟩
  unfold edFin
  rw [h1.corr]
  show blksOf [f] = _
  rw [← hf2]; rfl
theorem pairs_quote {en ti : ByteArray} {fs : List Fct} {ps : List (Int × Blk)} (h : Pairs en ti fs ps) {s : StF} (hs : FoldIs fs s) (i : Nat) (hi : i < ps.length) {b : Blk} (h1 : b.story = ps[i].1) (h2 : b.ref = ps[i].2.id) (lang : ByteArray) :
    quoS s lang b = (ps[i].2, []) := by
  obtain ⟨e, e1, e2, e3, e4⟩ := pairs_story h hs i hi
  unfold quoS
  rw [h1, if_neg (by rw [e1]; simp)]
  have : edFor (styOf s ps[i].1) lang = e := by
    unfold edFor findE
    rw [e1]
    by_cases q : e.lang = lang
    · rw [List.find?_cons_of_pos (by simpa using q)]; rfl
    · rw [List.find?_cons_of_neg (by simpa using q)]; rfl
  rw [this, e3, h2, List.find?_cons_of_pos (by simp)]
  show (if _ then _ else _) = _
  rw [e4]; rfl
theorem ring_circ {en ti : ByteArray} {fs : List Fct} {ps : List (Int × Blk)} (h : Pairs en ti fs ps) {s : StF} (hs : FoldIs fs s) (lang : ByteArray) (m : Nat) (hm : m ≤ ps.length)
    (hr : ∀ i (_ : i < m) (h2 : i < ps.length), ps[i].2.kind = 3 ∧ ∃ j, ∃ h3 : j < ps.length, j < m ∧ ps[i].2.story = ps[j].1 ∧ ps[i].2.ref = ps[j].2.id) :
    ∀ (n i : Nat) (_ : i < m) (h2 : i < ps.length) (b : Blk), b.kind = 3 → b.story = ps[i].1 → b.ref = ps[i].2.id → resGo s lang n b = tCircular
  | 0, _, _, _, b, hk, _, _ => resGo_circ s lang hk
  | n + 1, i, hi, h2, b, hk, hb1, hb2 => by
    have hq := pairs_quote h hs i h2 hb1 hb2 lang
    rw [resGo_step s lang n hk (by rw [hq]), hq]
    obtain ⟨k1, j, h3, h4, h5, h6⟩ := hr i hi h2
    exact ring_circ h hs lang m hm hr n j h4 h3 _ k1 h5 h6
theorem chain_end {en ti : ByteArray} {fs : List Fct} {ps : List (Int × Blk)} (h : Pairs en ti fs ps) {s : StF} (hs : FoldIs fs s) (lang : ByteArray) (m : Nat)
    (hr : ∀ i (_ : m ≤ i) (h2 : i + 1 < ps.length), ps[i].2.kind = 3 ∧ ps[i].2.story = ps[i + 1].1 ∧ ps[i].2.ref = ps[i + 1].2.id)
    (hl : ∀ h : ps.length - 1 < ps.length, ps[ps.length - 1].2.kind ≠ 3) :
    ∀ (n i : Nat) (_ : m ≤ i) (h2 : i < ps.length) (b : Blk), b.kind = 3 → b.story = ps[i].1 → b.ref = ps[i].2.id → resGo s lang n b = if ps.length - i ≤ n then shown s (ps[ps.length - 1]'(by omega)).2 else tCircular
  | 0, i, _, h2, b, hk, _, _ => by rw [if_neg (by omega)]; exact resGo_circ s lang hk
  | n + 1, i, hi, h2, b, hk, hb1, hb2 => by
    have hq := pairs_quote h hs i h2 hb1 hb2 lang
    rw [resGo_step s lang n hk (by rw [hq]), hq]
    by_cases hlast : i + 1 < ps.length
    · obtain ⟨k1, k2, k3⟩ := hr i hi hlast
      rw [chain_end h hs lang m hr hl n (i + 1) (by omega) hlast _ k1 k2 k3]
      by_cases q : ps.length - (i + 1) ≤ n
      · rw [if_pos q, if_pos (by omega)]
      · rw [if_neg q, if_neg (by omega)]
    · have e : i = ps.length - 1 := by omega
      subst e
      rw [if_pos (by omega)]
      exact resGo_done s lang n (hl h2)
end Go.Proofs.YtdkkhmjlamkgdaaGreatDoor.Mg
namespace Go.Proofs.YtdkkhmjlamkgdaaGreatDoor.Mg

def plainC (c : UInt8) : Bool := !decide (c = 46) && !decide (c = 33) && !decide (c = 63) && !(decide (65 ≤ c.toNat) && decide (c.toNat ≤ 90))
structure Sen (p : List UInt8) : Prop where
  ex : ∃ c q, p = c :: q ++ [46] ∧ c ≠ 32 ∧ (c :: q).all plainC = true
def bodyS (lead : List UInt8) : List (List UInt8) → List UInt8
  | [] => []
  | p :: r => lead ++ p ++ bodyS [32, 32] r
theorem bodyS_snoc : ∀ (ps : List (List UInt8)) (lead p : List UInt8), bodyS lead (ps ++ [p]) = bodyS lead ps ++ (if ps = [] then lead else [32, 32]) ++ p
  | [], lead, p => by simp [bodyS]
  | a :: r, lead, p => by
    show lead ++ a ++ bodyS [32, 32] (r ++ [p]) = _
    have e : (if r = [] then ([32, 32] : List UInt8) else [32, 32]) = [32, 32] := by split <;> rfl
    rw [bodyS_snoc r, e, if_neg (List.cons_ne_nil _ _)]
    show _ = lead ++ a ++ bodyS [32, 32] r ++ [32, 32] ++ p
    simp
theorem bAt_app (s : ByteArray) {A B : List UInt8} (h : s.data.toList = A ++ B) (j : Nat) : bAt s (A.length + j) = (B.getD j 0).toNat := by
  unfold bAt
  rw [h, List.getD_eq_getElem?_getD, List.getElem?_append_right (by omega), Nat.add_sub_cancel_left, ← List.getD_eq_getElem?_getD]
theorem toNat_ne {c d : UInt8} (h : c ≠ d) : c.toNat ≠ d.toNat := fun e => h (UInt8.toNat_inj.1 e)
theorem plainC_parts {c : UInt8} (h : plainC c = true) : c.toNat ≠ 46 ∧ c.toNat ≠ 33 ∧ c.toNat ≠ 63 ∧ ¬ (65 ≤ c.toNat ∧ c.toNat ≤ 90) := by
  unfold plainC at h
  simp only [Bool.and_eq_true, Bool.not_eq_true', decide_eq_false_iff_not, Bool.and_eq_false_iff] at h
  obtain ⟨⟨⟨h1, h2⟩, h3⟩, h4⟩ := h
  exact ⟨toNat_ne h1, toNat_ne h2, toNat_ne h3, by omega⟩
theorem skip (s : ByteArray) (start : Nat) : ∀ (n a : Nat), a + n ≤ s.size → (∀ j, j < n → sEnds s (a + j) = false) → sentGo s (s.size - a) start = sentGo s (s.size - (a + n)) start
  | 0, _, _, _ => rfl
  | n + 1, a, h, hf => by
    rw [sentGo_step s a start (by omega), if_neg (by have := hf 0 (by omega); rw [Nat.add_zero] at this; rw [this]; decide), skip s start n (a + 1) (by omega) (fun j hj => by have := hf (j + 1) (by omega); rwa [show a + (j + 1) = a + 1 + j by omega] at this)]
    congr 1
    omega
theorem trim_all (lead p : List UInt8) (hl : ∀ c ∈ lead, c = 32) (hp : Sen p) : Lib.trimB (lead ++ p) 32 = p := by
  obtain ⟨c, q, rfl, hc, _⟩ := hp.ex
  have hne : (lead ++ (c :: q ++ [46])).length ≠ 0 := by simp
  have e1 : Lib.trimRightB (lead ++ (c :: q ++ [46])) 32 = lead ++ (c :: q ++ [46]) := by
    rw [Lib.trimRightB_take _ 32 (lead ++ (c :: q ++ [46])).length (Nat.le_refl _) (fun j b hj hb => by rw [List.getElem?_eq_none hj] at hb; cases hb) (fun b _ hb => ?_), List.take_length]
    rw [show lead ++ (c :: q ++ [46]) = (lead ++ (c :: q)) ++ [46] by simp, List.length_append, List.length_singleton, Nat.add_sub_cancel, List.getElem?_append_right (Nat.le_refl _), Nat.sub_self] at hb
    injection hb with hb
    subst hb; decide
  unfold Lib.trimB
  rw [e1, Lib.trimLeftB_drop _ 32 lead.length (by simp) (fun j b hj hb => ?_) (fun b hb => ?_)]
  · exact List.drop_left
  · rw [List.getElem?_append_left hj] at hb
    exact hl b (List.mem_of_getElem? hb)
  · rw [List.getElem?_append_right (Nat.le_refl _), Nat.sub_self] at hb
    injection hb with hb
    subst hb; exact hc
theorem sents_body (s : ByteArray) : ∀ (ps : List (List UInt8)) (A lead : List UInt8), (∀ c ∈ lead, c = 32) → (∀ p ∈ ps, Sen p) → s.data.toList = A ++ bodyS lead ps → sentGo s (s.size - A.length) A.length = ps
  | [], A, lead, _, _, h => by
    have hs : s.size = A.length := by
      have := congrArg List.length h
      simp only [bodyS, List.append_nil, size_list] at this; exact this
    rw [hs, Nat.sub_self]
    unfold sentGo
    have : piece s A.length s.size = [] := by
      unfold piece
      rw [hs, extract_list, List.drop_take_self]; rfl
    rw [hs] at this
    rw [if_pos (by rw [hs]; exact this)]
  | p :: r, A, lead, hl, hp, h => by
    have hpS := hp p List.mem_cons_self
    obtain ⟨c, q, hpe, hc, hall⟩ := hpS.ex
    have h2 : s.data.toList = A ++ (lead ++ (c :: q) ++ ([46] ++ bodyS [32, 32] r)) := by
      rw [h]
      show A ++ (lead ++ p ++ bodyS [32, 32] r) = _
      rw [hpe]; simp
    have hsz : s.size = A.length + (lead.length + (q.length + 1)) + (1 + (bodyS [32, 32] r).length) := by
      have := congrArg List.length h2
      simp only [size_list, List.length_append, List.length_cons, List.length_nil] at this
      omega
    have hpl : ∀ j, j < lead.length + (q.length + 1) → plainC ((lead ++ (c :: q)).getD j 0) = true := fun j hj => by
      rw [List.getD_eq_getElem?_getD, List.getElem?_eq_getElem (by simpa using hj)]
      have hm := List.getElem_mem (l := lead ++ (c :: q)) (n := j) (by simpa using hj)
      show plainC ((lead ++ (c :: q))[j]'(by simpa using hj)) = true
      rcases List.mem_append.1 hm with h1 | h1
      · rw [hl _ h1]; decide
      · exact (List.all_eq_true.1 hall) _ h1
    have hat : ∀ j, j < lead.length + (q.length + 1) → bAt s (A.length + j) = ((lead ++ (c :: q)).getD j 0).toNat := fun j hj => by
      rw [bAt_app s h2 j, List.getD_eq_getElem?_getD, List.getElem?_append_left (by simpa using hj), ← List.getD_eq_getElem?_getD]
    have hno : ∀ j, j < lead.length + (q.length + 1) → sEnds s (A.length + j) = false := fun j hj => by
      obtain ⟨p1, p2, p3, _⟩ := plainC_parts (hpl j hj)
      have hb := hat j hj
      refine Bool.eq_false_iff.2 fun he => ?_
      have h9 := ((sEnds_iff s _).1 he).1
      rw [hb] at h9
      rcases h9 with ⟨h9, _⟩ | h9 | h9
      · exact p1 h9
      · exact p2 h9
      · exact p3 h9
    rw [skip s A.length (lead.length + (q.length + 1)) A.length (by omega) hno]
    have hend : A.length + (lead.length + (q.length + 1)) < s.size := by omega
    rw [sentGo_step s _ A.length hend]
    have h3 : s.data.toList = (A ++ (lead ++ (c :: q))) ++ ([46] ++ bodyS [32, 32] r) := by rw [h2]; simp
    have hl3 : (A ++ (lead ++ (c :: q))).length = A.length + (lead.length + (q.length + 1)) := by simp
    have hdot : bAt s (A.length + (lead.length + (q.length + 1))) = 46 := by
      have := bAt_app s h3 0
      rw [hl3] at this
      exact this
    have hinit : initB s (A.length + (lead.length + (q.length + 1))) = false := by
      have hprev := plainC_parts (hpl (lead.length + q.length) (by omega))
      have hpb := hat (lead.length + q.length) (by omega)
      obtain ⟨m, hm⟩ : ∃ m, A.length + (lead.length + (q.length + 1)) = m + 1 := ⟨A.length + (lead.length + q.length), by omega⟩
      have hm2 : A.length + (lead.length + q.length) = m := by omega
      rw [hm2] at hpb
      rw [hm]
      cases m with
      | zero => show decide _ = false; rw [hpb, decide_eq_false_iff_not]; exact hprev.2.2.2
      | succ m => show decide _ = false; rw [hpb, decide_eq_false_iff_not]; exact fun hh => hprev.2.2.2 hh.1
    have hnext : A.length + (lead.length + (q.length + 1)) + 1 = s.size ∨ bAt s (A.length + (lead.length + (q.length + 1)) + 1) = 32 := by
      cases r with
      | nil => left; rw [hsz]; simp [bodyS]
      | cons p2 r =>
        right
        have := bAt_app s h3 1
        rw [hl3] at this
        rw [this]; rfl
    rw [if_pos ((sEnds_iff s _).2 ⟨.inl ⟨hdot, hinit⟩, hnext⟩)]
    have h4 : s.data.toList = (A ++ lead ++ p) ++ bodyS [32, 32] r := by
      rw [h]
      show A ++ (lead ++ p ++ bodyS [32, 32] r) = _
      simp
    have hl4 : (A ++ lead ++ p).length = A.length + (lead.length + (q.length + 1)) + 1 := by rw [hpe]; simp; omega
    have hpc : piece s A.length (A.length + (lead.length + (q.length + 1)) + 1) = p := by
      unfold piece
      rw [extract_list, h4, ← hl4, List.take_left, List.append_assoc, List.drop_left]
      exact trim_all lead p hl hpS
    rw [hpc]
    have ih := sents_body s r (A ++ lead ++ p) [32, 32] (by simp) (fun x hx => hp x (List.mem_cons_of_mem _ hx)) h4
    rw [hl4] at ih
    rw [ih]
end Go.Proofs.YtdkkhmjlamkgdaaGreatDoor.Mg
namespace Go.Proofs.YtdkkhmjlamkgdaaGreatDoor.Mg

def fct0 : Fct := ⟨0, 0, 0, 0, str0, 0, 0, str0, str0, [], [], lab0, 0, 0, 0, str0, str0, 0, 0, 0⟩
def sEn : ByteArray := ⟨#[101, 110]⟩
def sFr : ByteArray := ⟨#[102, 114]⟩
def sA : ByteArray := ⟨#[97]⟩
def sB : ByteArray := ⟨#[98]⟩
def qPar (t : ByteArray) : Blk := ⟨5, 2, t, 0, 0, lab0⟩
def qQuote : Blk := ⟨9, 3, str0, 1, 5, lab0⟩
def qAgain : Blk := ⟨8, 3, str0, 2, 9, lab0⟩
def pubFct (id : Int) : Fct := { fct0 with kind := 3, story := id }
def revFct (id : Int) (lang title : ByteArray) (l : List Blk) : Fct := { fct0 with kind := 1, story := id, lang := lang, rev := 1, title := title, blocks := l }
def corFct (at_ : Int) (t : ByteArray) : Fct := { fct0 with kind := 4, story := 1, lang := sEn, block := 5, sentence := at_, text := t }
def qLate (t : ByteArray) (at_ : Int) (u : ByteArray) : List Fct := [revFct 1 sEn sA [qPar t], pubFct 1, revFct 2 sFr sB [qQuote, qAgain], pubFct 2, corFct at_ u]
def qEarly (t : ByteArray) (at_ : Int) (u : ByteArray) : List Fct := [corFct at_ u, revFct 1 sEn sA [qPar t], pubFct 1, revFct 2 sFr sB [qQuote, qAgain], pubFct 2]
structure OneE (g : StG) (c : List Corr) (f : Fct) : Prop where
  pub : g.pub.isSome = true
  taken : g.taken = false
  retr : g.retr = false
  corr : g.corr = c
  eds : ∃ e : EdG, e.lang = f.lang ∧ e.title = f.title ∧ e.revs = [f] ∧ g.eds = [e]
end Go.Proofs.YtdkkhmjlamkgdaaGreatDoor.Mg
namespace Go.Proofs.YtdkkhmjlamkgdaaGreatDoor.Mg

def lenS (ps : List (List UInt8)) : Nat := (ps.map fun p => p.length + 1).sum
theorem trimR_le (l : List UInt8) (c : UInt8) : (Lib.trimRightB l c).length ≤ l.length := by
  unfold Lib.trimRightB
  rw [List.length_reverse]
  have := (List.dropWhile_suffix (· == c) (l := l.reverse)).length_le
  rwa [List.length_reverse] at this
theorem trimB_le (l : List UInt8) (c : UInt8) : (Lib.trimB l c).length ≤ l.length := by
  unfold Lib.trimB Lib.trimLeftB
  have h1 := (List.dropWhile_suffix (· == c) (l := Lib.trimRightB l c)).length_le
  have h2 := trimR_le l c
  omega
theorem trimR_pre (l : List UInt8) (c : UInt8) : Lib.trimRightB l c <+: l := by
  unfold Lib.trimRightB
  have := List.dropWhile_suffix (· == c) (l := l.reverse)
  have h2 := List.reverse_prefix.2 this
  rwa [List.reverse_reverse] at h2
theorem trimB_lt (l : List UInt8) (c : UInt8) (h : l[0]? = some c) : (Lib.trimB l c).length + 1 ≤ l.length := by
  obtain ⟨m, hm⟩ := trimR_pre l c
  have h2 := trimR_le l c
  have hl : 0 < l.length := (List.getElem?_eq_some_iff.1 h).1
  unfold Lib.trimB Lib.trimLeftB
  cases hr : Lib.trimRightB l c with
  | nil => simp; omega
  | cons a r =>
    rw [hr] at hm h2
    have : a = c := by rw [← hm] at h; simpa using h
    subst this
    rw [List.dropWhile_cons, if_pos (by simp)]
    have h1 := (List.dropWhile_suffix (· == a) (l := r)).length_le
    simp only [List.length_cons] at h2
    omega
theorem piece_le (s : ByteArray) (a b : Nat) (h : b ≤ s.size) : (piece s a b).length ≤ b - a := by
  unfold piece
  refine Nat.le_trans (trimB_le _ _) ?_
  rw [extract_list, List.length_drop, List.length_take, size_list]; omega
theorem piece_lt (s : ByteArray) (a b : Nat) (h : b ≤ s.size) (hab : a < b) (hs : bAt s a = 32) : (piece s a b).length + 1 ≤ b - a := by
  unfold piece
  have hl : ((s.extract a b).data.toList).length = b - a := by rw [extract_list, List.length_drop, List.length_take, size_list]; omega
  rw [← hl]
  refine trimB_lt _ _ ?_
  rw [extract_list, List.getElem?_drop, Nat.add_zero, List.getElem?_take_of_lt hab]
  have h0 : a < s.size := by omega
  rw [list_get s a h0]
  rw [bAt_get s a h0] at hs
  exact congrArg some (UInt8.toNat_inj.1 hs)
theorem sentGo_len (s : ByteArray) : ∀ (n start : Nat), n ≤ s.size → start ≤ s.size - n → (start = s.size ∨ bAt s start = 32) → lenS (sentGo s n start) ≤ s.size - start
  | 0, start, _, h, hs => by
    unfold sentGo
    split
    · exact Nat.zero_le _
    · next hne =>
      show (piece s start s.size).length + 1 + 0 ≤ _
      rcases hs with hs | hs
      · subst hs
        exfalso
        apply hne
        have := piece_le s s.size s.size (Nat.le_refl _)
        exact List.eq_nil_of_length_eq_zero (by omega)
      · by_cases hlt : start < s.size
        · exact piece_lt s start s.size (Nat.le_refl _) hlt hs
        · exfalso
          apply hne
          have := piece_le s start s.size (Nat.le_refl _)
          exact List.eq_nil_of_length_eq_zero (by omega)
  | n + 1, start, hn, h, hs => by
    unfold sentGo
    by_cases he : sEnds s (s.size - (n + 1)) = true
    · rw [if_pos he]
      have h2 := ((sEnds_iff s _).1 he).2
      have ih := sentGo_len s n (s.size - (n + 1) + 1) (by omega) (by omega) h2
      show (piece s start (s.size - (n + 1) + 1)).length + 1 + lenS (sentGo s n (s.size - (n + 1) + 1)) ≤ _
      rcases hs with hs | hs
      · omega
      · have := piece_lt s start (s.size - (n + 1) + 1) (by omega) (by omega) hs
        omega
    · rw [if_neg he]
      exact sentGo_len s n start (by omega) (by omega) hs
theorem sentGo_len0 (s : ByteArray) : ∀ (n start : Nat), n ≤ s.size → start ≤ s.size - n → lenS (sentGo s n start) ≤ s.size - start + 1
  | 0, start, _, h => by
    unfold sentGo
    split
    · exact Nat.zero_le _
    · show (piece s start s.size).length + 1 + 0 ≤ _
      have := piece_le s start s.size (Nat.le_refl _)
      omega
  | n + 1, start, hn, h => by
    unfold sentGo
    by_cases he : sEnds s (s.size - (n + 1)) = true
    · rw [if_pos he]
      have h2 := ((sEnds_iff s _).1 he).2
      have ih := sentGo_len s n (s.size - (n + 1) + 1) (by omega) (by omega) h2
      show (piece s start (s.size - (n + 1) + 1)).length + 1 + lenS (sentGo s n (s.size - (n + 1) + 1)) ≤ _
      have := piece_le s start (s.size - (n + 1) + 1) (by omega)
      omega
    · rw [if_neg he]
      exact sentGo_len0 s n start (by omega) (by omega)
theorem sentF_len (s : ByteArray) : lenS (sentF s) ≤ s.size + 1 := sentGo_len0 s s.size 0 (Nat.le_refl _) (by omega)
theorem lenS_set : ∀ (ps : List (List UInt8)) (k : Nat) (u : List UInt8), lenS (ps.set k u) ≤ lenS ps + u.length
  | [], _, _ => by simp [lenS]
  | p :: r, 0, u => by
    show u.length + 1 + lenS r ≤ p.length + 1 + lenS r + u.length
    omega
  | p :: r, k + 1, u => by
    have := lenS_set r k u
    show p.length + 1 + lenS (r.set k u) ≤ p.length + 1 + lenS r + u.length
    omega
theorem joinB_len : ∀ (ps : List (List UInt8)), (joinB ps).length ≤ lenS ps - 1
  | [] => Nat.zero_le _
  | [a] => by
    show a.length ≤ a.length + 1 + 0 - 1
    omega
  | a :: b :: r => by
    have := joinB_len (b :: r)
    have h2 : 1 ≤ lenS (b :: r) := by show 1 ≤ b.length + 1 + lenS r; omega
    show (a ++ [32] ++ joinB (b :: r)).length ≤ a.length + 1 + lenS (b :: r) - 1
    simp only [List.length_append, List.length_cons, List.length_nil]
    omega
theorem corrected_len (t : ByteArray) (k : Nat) (u : List UInt8) : (joinB ((sentF t).set k u)).length ≤ t.size + u.length := by
  have h1 := joinB_len ((sentF t).set k u)
  have h2 := lenS_set (sentF t) k u
  have h3 := sentF_len t
  omega
theorem joinB_plain_len (t : ByteArray) : (joinB (sentF t)).length ≤ t.size := by
  have h1 := joinB_len (sentF t)
  have h3 := sentF_len t
  omega
theorem joinB_eq : ∀ ps : List (List UInt8), Lib.join ps [32] = joinB ps
  | [] => rfl
  | [a] => Lib.join_one a [32]
  | a :: b :: r => by
    rw [show joinB (a :: b :: r) = a ++ [32] ++ joinB (b :: r) from rfl, ← joinB_eq (b :: r), Lib.join_cons, Lib.join_cons]
    unfold Lib.joinTail
    simp
theorem applyB_size (c : Corr) (b : Blk) : (applyB c b).text.size ≤ b.text.size + c.text.size := by
  unfold applyB
  split
  · show (bs _).size ≤ _
    rw [bs_size]
    have := corrected_len b.text c.sentence.toNat c.text.data.toList
    rwa [size_list] at this
  · omega
theorem applyB_same (c : Corr) (b : Blk) : (applyB c b).id = b.id ∧ (applyB c b).kind = b.kind ∧ (applyB c b).lab = b.lab := by
  unfold applyB
  split <;> exact ⟨rfl, rfl, rfl⟩
theorem applyF_none : ∀ {l : List Blk} {c : Corr}, (∀ x ∈ l, x.id ≠ c.block) → applyF l c = l
  | [], _, _ => rfl
  | b :: l, c, h => by
    unfold applyF
    rw [if_neg (h b List.mem_cons_self), applyF_none (fun x hx => h x (List.mem_cons_of_mem _ hx))]
theorem applyF_at : ∀ {l : List Blk} {c : Corr} (k : Nat) (hk : k < l.length), l[k].id = c.block → (∀ j (hj : j < k), (l[j]'(by omega)).id ≠ c.block) → applyF l c = l.set k (applyB c l[k])
  | [], _, _, hk, _, _ => absurd hk (by simp)
  | b :: l, c, 0, _, h, _ => by
    unfold applyF
    rw [if_pos (by simpa using h)]; rfl
  | b :: l, c, k + 1, hk, h, hj => by
    unfold applyF
    rw [if_neg (by simpa using hj 0 (by omega)), applyF_at k (by simpa using hk) (by simpa using h) (fun j q => by simpa using hj (j + 1) (by omega))]
    rfl
theorem applyF_len : ∀ (l : List Blk) (c : Corr), (applyF l c).length = l.length
  | [], _ => rfl
  | b :: l, c => by
    unfold applyF
    split
    · rfl
    · rw [List.length_cons, applyF_len l c]; rfl
theorem applyF_all {p q : Blk → Prop} {c : Corr} (h1 : ∀ x, p x → q x) (h2 : ∀ x, p x → q (applyB c x)) : ∀ {l : List Blk}, (∀ x ∈ l, p x) → ∀ x ∈ applyF l c, q x
  | [], _, x, hx => by cases hx
  | b :: l, h, x, hx => by
    unfold applyF at hx
    split at hx
    · rcases List.mem_cons.1 hx with rfl | hx
      · exact h2 b (h b List.mem_cons_self)
      · exact h1 x (h x (List.mem_cons_of_mem _ hx))
    · rcases List.mem_cons.1 hx with rfl | hx
      · exact h1 x (h x List.mem_cons_self)
      · exact applyF_all h1 h2 (fun y hy => h y (List.mem_cons_of_mem _ hy)) x hx
end Go.Proofs.YtdkkhmjlamkgdaaGreatDoor.Mg
namespace Go.Proofs.YtdkkhmjlamkgdaaGreatDoor
open Go.RowKit Mg Go.Shelf Go.Maps

theorem own_set {w : World} {B : Nat} {e : TypeId} {sz g n m cap : Nat} {xs : List Value} (h : w.ownsRow B e sz (.slice (some ⟨g, 0, none⟩) n cap) m xs) (i : Nat) (u : Value) : (w.setCell ⟨g, i, none⟩ u).ownsRow B e sz (.slice (some ⟨g, 0, none⟩) n cap) m (xs.set i u) := by
  refine ⟨by rw [List.length_set]; exact h.1, ?_⟩
  rcases h.2 with ⟨hq, _⟩ | ⟨g', cap', cur, hv, hb, hgg, hn, hc, hs, ht⟩
  · cases hq
  · injection hv with hv hv2 hv3
    injection hv with hv
    injection hv with hv
    subst hv hv2 hv3
    refine .inr ⟨g, cap, cur.setIfInBounds i u, rfl, hb, ?_, hn, hc, by rw [Array.size_setIfInBounds]; exact hs, ?_⟩
    · rw [setCell_eq_setRow w g i cur e (0, 0) u hgg]
      exact setRow_heap _ _ _ _ _ _ hgg
    · rw [Array.toList_setIfInBounds, List.take_set, ht]
theorem BVals.setText {M : Addr → Option Value} {t : ByteArray} : ∀ {l : List Blk} {vs : List Value}, BVals M l vs → ∀ (k : Nat) (hk : k < l.length), BVals M (l.set k { l[k] with text := t }) (vs.set (k * 9 + 2) (.string t))
  | [], _, _, _, hk => absurd hk (by simp)
  | x :: l, _, ⟨a, cap, rest, h1, h2, h3⟩, 0, _ => by
    subst h2
    exact ⟨a, cap, rest, h1, rfl, h3⟩
  | x :: l, _, ⟨a, cap, rest, h1, h2, h3⟩, k + 1, hk => by
    subst h2
    refine ⟨a, cap, rest.set (k * 9 + 2) (.string t), h1, ?_, h3.setText k (by simpa using hk)⟩
    rw [List.set_append_right _ _ (by simp; omega)]
    congr 2
    simp; omega
theorem BRow.setText {w : World} {B g n cap : Nat} {l : List Blk} (h : BRow w B (.slice (some ⟨g, 0, none⟩) n cap) l) (k : Nat) (hk : k < l.length) (t : ByteArray) :
    BRow (w.setCell ⟨g, k * 9 + 2, none⟩ (.string t)) B (.slice (some ⟨g, 0, none⟩) n cap) (l.set k { l[k] with text := t }) := by
  obtain ⟨vs, h1, h2⟩ := h
  refine ⟨vs.set (k * 9 + 2) (.string t), by rw [List.length_set]; exact own_set h1 _ _, ?_⟩
  refine (h2.setText k hk).mono (memFr_mono ((Upd.refl (fun b => b = g) w).setCell (p := ⟨g, k * 9 + 2, none⟩) (.inl rfl) _) fun b _ hF => ⟨hF, fun e => hF (.inr (by rw [e]; rfl))⟩)
theorem BRow.same {w w' : World} {B : Nat} {v : Value} {l : List Blk} (h : BRow w B v l) (hb : Below w.heap.size w w') : BRow w' B v l :=
  h.kept (Upd.of_below hb) (fun _ hk => .inr hk)
theorem BRow.cell {w : World} {B : Nat} {v : Value} {l : List Blk} (h : BRow w B v l) (k : Nat) (hk : k < l.length) : ∃ g cap, v = .slice (some ⟨g, 0, none⟩) l.length cap ∧ B ≤ g ∧ g < w.heap.size ∧ l.length ≤ cap ∧ cap ≤ maxLen ∧ w.cell? ⟨g, k * 9 + 1, none⟩ = some (.int .i64 l[k].kind) ∧ w.cell? ⟨g, k * 9 + 2, none⟩ = some (.string l[k].text) ∧ w.frozen? ⟨g, k * 9 + 2, none⟩ = false := by
  obtain ⟨vs, h1, h2⟩ := h
  obtain ⟨a, cp, _, hv⟩ := h2.get k hk
  rcases h1.2 with ⟨_, hz⟩ | ⟨g, cap, cur, rfl, hb, hgg, hn, hc, hs, ht⟩
  · omega
  · have hcell : ∀ t, t < 9 → w.cell? ⟨g, k * 9 + t, none⟩ = (blkVals l[k] (.slice a l[k].lab.after.length cp))[t]? := fun t ht9 => by
      rw [rowcell hgg]
      have h5 : (cur.toList.take (l.length * 9))[k * 9 + t]? = vs[k * 9 + t]? := by rw [ht]
      rw [List.getElem?_take_of_lt (by omega)] at h5
      rw [← Array.getElem?_toList, h5]
      exact hv t ht9
    exact ⟨g, cap, rfl, hb, hlt hgg, hn, hc, hcell 1 (by omega), hcell 2 (by omega), rowfree hgg⟩
def BOK (x : Blk) : Prop := x.text.size ≤ maxLen ∧ okI x.kind ∧ okI x.id
def AppPost (B : Nat) (v : Value) (l : List Blk) (c : Corr) (w : World) (e : Ending) (w' : World) : Prop := e = .returned (.tuple #[]) ∧ BRow w' B v (applyF l c) ∧ Upd (fun k => v.ownBlock = some k) w w'
set_option maxRecDepth 100000 in
set_option maxHeartbeats 8000000 in
theorem apply_any {B : Nat} {v : Value} {l : List Blk} (w : World) (h : BRow w B v l) (hp : ∀ x ∈ l, BOK x) (ht : ∀ x ∈ l, x.text.size ≤ 1000000000) (c : Corr) (_hc : CorrOK c) (hc2 : c.text.size ≤ 1000000000) :
    Calls Tryz.prog 115 #[v, .agg (corrCells c)] w (AppPost B v l c w) := by
  obtain ⟨W1, hW1⟩ : ∃ W1, W1 = w.alloc (.cells (corrCells c) 69) := ⟨_, rfl⟩
  have hb1 : Below w.heap.size w W1 := by rw [hW1]; exact bel1 _ _
  have hc1 : W1.heap[w.heap.size]? = some (.cells (corrCells c) 69 (0, 0)) := by rw [hW1]; exact World.alloc_heap_new _ _
  have h1 := h.same hb1
  have cI := Lib.hid (indexFunc_any (h1.blks hp) (says_apply c w.heap.size) W1 (memFr_sees W1 _) hc1)
  have HW1 := Lib.hid hW1
  have HB1 := Lib.hid hb1
  have HC1 := Lib.hid hc1
  have H1 := Lib.hid h1
  have HT := Lib.hid ht
  clear hW1 hb1 hc1 h1 ht h hp
  go_enter Tryz.func115, Tryz.ntmps115
  go_upto_region 1 with fail
  rw [← HW1.out]
  go_wp2_with fail
  refine cI.out.mono ?_
  rintro e W2 ⟨i, rfl, hi, hb2⟩
  have HB2 := Lib.hid hb2
  have H2 := Lib.hid (H1.out.same hb2)
  have hC2 : W2.heap[w.heap.size]? = some (.cells (corrCells c) 69 (0, 0)) := (hb2.block _ (hlt HC1.out)).trans HC1.out
  have HC2 := Lib.hid hC2
  have HU2 : Hid (Upd (fun k => v.ownBlock = some k) w W2) := Lib.hid (((Upd.refl _ w).bel HB1.out).bel hb2)
  clear hb2 cI hC2 H1 HB1 HC1
  rcases hi with ⟨rfl, hno⟩ | ⟨k, rfl, hk, hyes, hbef⟩
  · have HP : Hid (AppPost B v l c w (.returned (.tuple #[])) W2) := Lib.hid ⟨rfl, by rw [applyF_none (fun x hx => by simpa using hno x hx)]; exact H2.out, HU2.out⟩
    clear hno
    go_wp2_with fail
    refine bodyPost_ret (results_none rfl _ _ _) rfl ?_
    exact HP.out
  · obtain ⟨g, cap, rfl, hgB, hgl, hc0, hc3, kk, kt, kf⟩ := H2.out.cell k hk
    have HAP : Hid (applyF l c = l.set k (applyB c l[k])) := Lib.hid (applyF_at k hk (by simpa using hyes) (fun j hj => by simpa using hbef j hj))
    have htx := HT.out _ (List.getElem_mem hk)
    have HX : Hid (∀ W3, Below W2.heap.size W2 W3 → applyB c l[k] = l[k] → AppPost B (.slice (some ⟨g, 0, none⟩) l.length cap) l c w (.returned (.tuple #[])) W3) := Lib.hid (fun W3 hb e => ⟨rfl, by rw [HAP.out, e, List.set_getElem_self]; exact H2.out.same hb, HU2.out.bel hb⟩)
    have HN : Hid (∀ t W3, applyB c l[k] = { l[k] with text := t } → Below W2.heap.size W2 W3 → AppPost B (.slice (some ⟨g, 0, none⟩) l.length cap) l c w (.returned (.tuple #[])) (W3.setCell ⟨g, k * 9 + 2, none⟩ (.string t))) := Lib.hid (fun t W3 e hb => ⟨rfl, by rw [HAP.out, e]; exact (H2.out.same hb).setText k hk t, (HU2.out.bel hb).setCell (p := ⟨g, k * 9 + 2, none⟩) (.inl rfl) _⟩)
    have k2 : W2.cell? ⟨w.heap.size, 2, none⟩ = some (.int .i64 c.sentence) := rowcell HC2.out
    have hcl : l.length ≤ 9223372036854775807 := by unfold maxLen at hc3; omega
    clear hyes hbef HAP
    generalize l[k] = x at *
    obtain ⟨xid, kd, xt, xs, xr, xl⟩ := x
    dsimp only at kk kt htx
    have hkd : (kd = 1 ∨ kd = 2 ∨ kd = 4) ∨ (((kd : Int) == 1) = false ∧ ((kd : Int) == 2) = false ∧ ((kd : Int) == 4) = false ∧ ¬ (kd = 1 ∨ kd = 2 ∨ kd = 4)) := by
      by_cases h : kd = 1 ∨ kd = 2 ∨ kd = 4
      · exact .inl h
      · exact .inr ⟨by simp; omega, by simp; omega, by simp; omega, h⟩
    rcases hkd with hkd | ⟨n1, n2, n4, hno⟩
    · have HKD := Lib.hid hkd
      have HXX : Hid (¬ (0 ≤ c.sentence ∧ c.sentence < (sentF xt).length) → ∀ W3, Below W2.heap.size W2 W3 → AppPost B (.slice (some ⟨g, 0, none⟩) l.length cap) l c w (.returned (.tuple #[])) W3) := Lib.hid (fun hn W3 hb => HX.out W3 hb (by
        unfold applyB
        rw [if_neg (fun q => hn ⟨q.2.1, q.2.2⟩)]))
      have HNN : Hid (∀ (m : Nat) W3, c.sentence = (m : Int) → m < (sentF xt).length → Below W2.heap.size W2 W3 → AppPost B (.slice (some ⟨g, 0, none⟩) l.length cap) l c w (.returned (.tuple #[])) (W3.setCell ⟨g, k * 9 + 2, none⟩ (.string (bs (joinB ((sentF xt).set m c.text.data.toList)))))) := Lib.hid (fun m W3 hm hlt hb => HN.out _ W3 (by
        unfold applyB
        rw [if_pos ⟨HKD.out, by omega, by show c.sentence < ((sentF xt).length : Int); omega⟩, hm]; rfl) hb)
      rcases hkd with rfl | rfl | rfl
      all_goals
        go_wp2_with fail
        refine (Sentences_any xt (by omega) _).mono ?_
        rintro e W3 ⟨sv, rfl, hsr, hb3⟩
        have hl := lrow_of hsr
        obtain ⟨sa, sc, hsv⟩ := lrow_shape hl
        subst hsv
        rw [List.length_map]
        rw [List.length_map] at hl
        have HLR := Lib.hid hl
        have HB3 := Lib.hid hb3
        have hC3 : W3.heap[w.heap.size]? = some (.cells (corrCells c) 69 (0, 0)) := (hb3.block _ (hlt HC2.out)).trans HC2.out
        have HC3 := Lib.hid hC3
        have c2 : W3.cell? ⟨w.heap.size, 2, none⟩ = some (.int .i64 c.sentence) := rowcell hC3
        have hsl : (sentF xt).length ≤ 2000000000 := by
          have h1 := sentF_len xt
          have h2 : (sentF xt).length ≤ lenS (sentF xt) := by
            generalize sentF xt = P
            induction P with
            | nil => exact Nat.zero_le _
            | cons a r ih => show r.length + 1 ≤ a.length + 1 + lenS r; omega
          omega
        by_cases hin : 0 ≤ c.sentence ∧ c.sentence < (sentF xt).length
        · obtain ⟨m, hm⟩ := Int.eq_ofNat_of_zero_le hin.1
          have hml : m < (sentF xt).length := by omega
          rw [hm] at c2
          have HM := Lib.hid hm
          have c3 : W3.cell? ⟨w.heap.size, 3, none⟩ = some (.string c.text) := rowcell hC3
          have hml2 : m < ((sentF xt).map bs).length := by rw [List.length_map]; exact hml
          have hml3 : m < (((sentF xt).map bs).map fun x => (#[.string x] : Array Value)).length := by rw [List.length_map, List.length_map]; exact hml
          obtain ⟨sg, sc', hsv, hsB, hsgl, _, hscm, hsc, hsf⟩ := GRow.at_ hl m hml3
          have hsv1 := hsv
          injection hsv1 with e1 e2 e3
          subst e1 e3
          have s0 : W3.cell? ⟨sg, m, none⟩ = some (.string (((sentF xt).map bs)[m]'hml2)) := by
            have := hsc 0 (by omega)
            rw [List.getElem_map] at this
            simpa using this
          have z0 : W3.frozen? ⟨sg, m, none⟩ = false := hsf m
          clear e2
          have HSB := Lib.hid hsB
          have HGL := Lib.hid hgl
          have hxl : (((sentF xt).map bs).set m c.text).length = (sentF xt).length := by rw [List.length_set, List.length_map]
          have HJ : Hid (∀ W4, W4 = W3.setCell ⟨sg, m, none⟩ (.string c.text) → Calls Tryz.prog 99 #[.slice (some ⟨sg, 0, none⟩) (sentF xt).length sc, .string ⟨#[32]⟩] W4 fun e w' => e = .returned (.string (bs (joinB ((sentF xt).set m c.text.data.toList)))) ∧ Below W4.heap.size W4 w') := Lib.hid (fun W4 hW4 => by
            have hset := GRow.set_ HLR.out m 0 hml3 (by omega) (u := .string c.text) rfl
            have hlx : LRow W4 W2.heap.size (.slice (some ⟨sg, 0, none⟩) (sentF xt).length sc) (((sentF xt).map bs).set m c.text) := by
              unfold LRow
              rw [List.map_set, hW4]
              rw [List.getElem_map] at hset
              have e : m * 1 + 0 = m := by omega
              rw [e] at hset
              exact hset
            have hcells : ∀ (j : Nat) (x : ByteArray), (((sentF xt).map bs).set m c.text)[j]? = some x → W4.cell? ⟨sg, 0 + j, none⟩ = some (.string x) := fun j x hj => by
              obtain ⟨hjl, rfl⟩ := List.getElem?_eq_some_iff.1 hj
              obtain ⟨g2, c2, e, _, hcell, _⟩ := lrow_get hlx j hjl
              injection e with e _ _
              injection e with e
              injection e with e
              subst e
              rw [Nat.zero_add]; exact hcell
            have hjoin : Lib.join ((((sentF xt).map bs).set m c.text).map (·.data.toList)) [32] = joinB ((sentF xt).set m c.text.data.toList) := by
              rw [joinB_eq, List.map_set, List.map_map]
              congr 2
              have : ((fun x : ByteArray => x.data.toList) ∘ bs) = id := funext fun l => bs_list l
              rw [this, List.map_id]
            have hjl := corrected_len xt m c.text.data.toList
            rw [size_list] at hjl
            have hgl4 : sg < W4.heap.size := by rw [hW4]; simpa [World.setCell] using hsgl
            have := Tryz.strings_Join sg 0 sc (((sentF xt).map bs).set m c.text) ⟨#[32]⟩ W4 hcells hgl4 (by rw [hxl]; omega) (by rw [hxl]; have := GRow.at_ HLR.out m hml3; obtain ⟨_, _, e, _, _, hle, _⟩ := this; injection e with _ _ e; rw [List.length_map, List.length_map] at hle; omega) (by
              show (Lib.join _ [32]).length ≤ _
              rw [hjoin]; omega)
            rw [hxl] at this
            refine this.mono fun e w' h => ?_
            have h1 := h.1
            have h2 : (⟨#[32]⟩ : ByteArray).data.toList = [32] := rfl
            rw [h2, hjoin] at h1
            exact ⟨h1, h.2⟩)
          have HZ : Hid (∀ W4, W4 = W3.setCell ⟨sg, m, none⟩ (.string c.text) → Below W2.heap.size W2 W4) := Lib.hid (fun W4 hW4 => by rw [hW4]; exact HB3.out.setCell (by show W2.heap.size ≤ sg; exact HSB.out) _)
          have HKT := Lib.hid kt
          have HKF := Lib.hid kf
          clear hb3 hC3 hsr hl hin k2 kk kt kf hm hsv hsc hsf hxl hsB hgl
          have cJ := Lib.hid (HJ.out _ rfl)
          have HB4 := Lib.hid (HZ.out _ rfl)
          clear HJ HZ
          go_wp2_with fail
          refine cJ.out.mono ?_
          rintro e W5 ⟨rfl, hb5⟩
          have hb25 : Below W2.heap.size W2 W5 := HB4.out.trans (hb5.mono HB4.out.size)
          have HB5 := Lib.hid hb25
          have t2 : W5.cell? ⟨g, k * 9 + 2, none⟩ = some (.string xt) := (hb25.cell (p := ⟨g, k * 9 + 2, none⟩) HGL.out).trans HKT.out
          have tf : W5.frozen? ⟨g, k * 9 + 2, none⟩ = false := (hb25.frozen (p := ⟨g, k * 9 + 2, none⟩) HGL.out).trans HKF.out
          have HF := Lib.hid (HNN.out m W5 HM.out hml hb25)
          clear hb5 hb25 cJ HB4
          go_wp2_with fail
          refine bodyPost_end (results_none rfl _ _ _) rfl ?_
          exact HF.out
        · have HF := Lib.hid (HXX.out hin W3 hb3)
          have hs2 : c.sentence < 0 ∨ (0 ≤ c.sentence ∧ ((sentF xt).length : Int) ≤ c.sentence) := by omega
          clear hb3 hC3 hsr hl hin k2 kk kt kf
          rcases hs2 with hs2 | ⟨hs2, hs3⟩
          · go_wp2_with fail
            refine bodyPost_end (results_none rfl _ _ _) rfl ?_
            exact HF.out
          · go_wp2_with fail
            refine bodyPost_end (results_none rfl _ _ _) rfl ?_
            exact HF.out
    · have HR := Lib.hid (HX.out W2 (Below.refl _ _) (by
        unfold applyB
        rw [if_neg (fun q => hno q.1)]))
      clear hno
      go_wp2_with fail
      refine bodyPost_end (results_none rfl _ _ _) rfl ?_
      exact HR.out
end Go.Proofs.YtdkkhmjlamkgdaaGreatDoor
namespace Go.Proofs.YtdkkhmjlamkgdaaGreatDoor.Mg

def GB (l : List Blk) : Prop := l.length ≤ 100 ∧ ∀ x ∈ l, x.text.size ≤ 1000 ∧ x.lab.after.length ≤ 1000
theorem GB.nil : GB [] := ⟨by simp, fun x h => by cases h⟩
theorem mergeF_in {X Y Z : List Blk} (h : (mergeF X Y Z).2.2 = 0) : ∀ x ∈ (mergeF X Y Z).1, x ∈ Y ∨ x ∈ Z := fun x hx => by
  obtain ⟨_, _, _, _, h2⟩ := mergeF_ok h
  rw [h2] at hx
  unfold Mg.merged at hx
  obtain ⟨i, _, hi⟩ := List.mem_filterMap.1 hx
  exact (pickAt_id hi).2
theorem GB.merged {X Y Z : List Blk} (hY : GB Y) (hZ : GB Z) (h : (mergeF X Y Z).2.2 = 0) : GB (mergeF X Y Z).1 := by
  obtain ⟨_, _, _, h1, h2⟩ := mergeF_ok h
  rw [h2]
  refine ⟨by have := h1.1; omega, fun x hx => ?_⟩
  unfold Mg.merged at hx
  obtain ⟨i, _, hi⟩ := List.mem_filterMap.1 hx
  rcases (pickAt_id hi).2 with h | h
  · exact hY.2 x h
  · exact hZ.2 x h
theorem GB.revised {l : List Fct} {now : List Blk} {f : Fct} (hn : GB now) (hf : GB f.blocks) : GB (revised l now f) := by
  unfold Mg.revised
  split
  · exact hf
  · split
    · exact hf
    · split
      · next h => exact GB.merged hn hf h
      · exact hf
theorem blksOf_good : ∀ (k : Nat) {l : List Fct}, (∀ f ∈ l, GB f.blocks) → GB (blksOf (l.take k))
  | 0, l, _ => by rw [List.take_zero]; exact GB.nil
  | k + 1, l, h => by
    by_cases hk : k < l.length
    · rw [List.take_succ_eq_append_getElem hk, blksOf_snoc]
      exact GB.revised (blksOf_good k h) (h _ (List.getElem_mem hk))
    · rw [List.take_of_length_le (by omega)]
      have := blksOf_good k h
      rwa [List.take_of_length_le (by omega)] at this
def GT (l : List Blk) (n : Nat) : Prop := l.length ≤ 100 ∧ ∀ x ∈ l, x.text.size ≤ 1000 + 1000 * n
theorem GT.step {l : List Blk} {n : Nat} {c : Corr} (h : GT l n) (hc : c.text.size ≤ 1000) : GT (applyF l c) (n + 1) := by
  refine ⟨by rw [applyF_len]; exact h.1, applyF_all (p := fun x => x.text.size ≤ 1000 + 1000 * n) (fun x hx => by omega) (fun x hx => by have := applyB_size c x; omega) h.2⟩
end Go.Proofs.YtdkkhmjlamkgdaaGreatDoor.Mg
namespace Go.Proofs.YtdkkhmjlamkgdaaGreatDoor
open Go.RowKit Mg Go.Shelf Go.Maps

noncomputable def memNo (W : World) (F : Nat → Prop) (a : Addr) : Option Value := open Classical in if F a.block then none else W.cell? a
theorem memNo_sees (W : World) (F : Nat → Prop) : Sees (memNo W F) W := fun a u h => by
  unfold memNo at h
  split at h
  · cases h
  · exact h
theorem memNo_of {W : World} {F : Nat → Prop} {a : Addr} {u : Value} (h : W.cell? a = some u) (hF : ¬ F a.block) : memNo W F a = some u := by unfold memNo; rw [if_neg hF]; exact h
theorem memNo_get {W : World} {F : Nat → Prop} {a : Addr} {u : Value} (h : memNo W F a = some u) : W.cell? a = some u ∧ ¬ F a.block := by
  unfold memNo at h
  split at h
  · cases h
  · next hF => exact ⟨h, hF⟩
theorem memNo_upd {W W' : World} {F H : Nat → Prop} (hu : Upd H W W') (h : ∀ k, k < W.heap.size → H k → F k) : ∀ a u, memNo W F a = some u → memNo W' F a = some u := fun a u e => by
  obtain ⟨h1, h2⟩ := memNo_get e
  exact memNo_of (hu.cell_some h1 fun hH => h2 (h _ (World.block_lt_of_cell? W a h1) hH)) h2
theorem memNo_bel {W W' : World} {F : Nat → Prop} (hb : Below W.heap.size W W') : ∀ a u, memNo W F a = some u → memNo W' F a = some u := fun a u e => by
  obtain ⟨h1, h2⟩ := memNo_get e
  exact memNo_of (sees_bel hb a u h1) h2
theorem memNo_fr {W : World} {F G : Nat → Prop} (h : ∀ k, F k → G k) : ∀ a u, memFr W G a = some u → memNo W F a = some u := fun a u e => by
  obtain ⟨_, h2, _⟩ := memFr_lt a u e
  exact memNo_of (memFr_sees W G a u e) (fun hF => h2 (h _ hF))
theorem sees_lt {mem : Addr → Option Value} {w : World} (h : Sees mem w) {a : Addr} {u : Value} (e : mem a = some u) : a.block < w.heap.size := World.block_lt_of_cell? w a (h a u e)
def GC (l : List Blk) (n : Nat) : Prop := GT l n ∧ ∀ x ∈ l, okI x.kind ∧ okI x.id ∧ x.lab.after.length ≤ 1000
def GD (l : List Blk) : Prop := l.length ≤ 100 ∧ ∀ x ∈ l, x.text.size ≤ 1000000000 ∧ okI x.kind ∧ okI x.id ∧ x.lab.after.length ≤ 1000
theorem GC.done {l : List Blk} {n : Nat} (h : GC l n) (hn : n ≤ 900000) : GD l := ⟨h.1.1, fun x hx => ⟨by have := h.1.2 x hx; omega, h.2 x hx⟩⟩
theorem GC.step {l : List Blk} {n : Nat} {c : Corr} (h : GC l n) (hc : c.text.size ≤ 1000) : GC (applyF l c) (n + 1) :=
  ⟨h.1.step hc, applyF_all (p := fun x => okI x.kind ∧ okI x.id ∧ x.lab.after.length ≤ 1000) (q := fun x => okI x.kind ∧ okI x.id ∧ x.lab.after.length ≤ 1000) (fun _ hx => hx) (fun x hx => by have := applyB_same c x; rw [this.1, this.2.1, this.2.2]; exact hx) h.2⟩
theorem GC.zero {l : List Blk} (h : GB l) (hk : ∀ x ∈ l, okI x.kind ∧ okI x.id) : GC l 0 := ⟨⟨h.1, fun x hx => by have := (h.2 x hx).1; omega⟩, fun x hx => ⟨(hk x hx).1, (hk x hx).2, (h.2 x hx).2⟩⟩
theorem GC.fold : ∀ (cs : List Corr) {l : List Blk} {n : Nat}, GC l n → (∀ c ∈ cs, c.text.size ≤ 1000) → GC (cs.foldl applyF l) (n + cs.length)
  | [], _, _, h, _ => h
  | c :: cs, _, n, h, hc => by
    have := GC.fold cs (h.step (hc c List.mem_cons_self)) (fun x hx => hc x (List.mem_cons_of_mem _ hx))
    rw [List.foldl_cons, List.length_cons, show n + (cs.length + 1) = n + 1 + cs.length by omega]
    exact this
theorem upd_row (W : World) (g : Nat) (cs : Array Value) : Upd (fun k => k = g) W (W.setRow g cs) := by
  have h := below_setRow (Below.refl g W) (Nat.le_refl _) cs
  exact ⟨h.os, h.tape, h.output, h.size, fun k _ hn => setRow_other _ _ _ _ hn⟩
def Scr (s k : Nat) : Prop := k = s ∨ k = s + 1
abbrev zEdn : Array Value := #[.string ⟨#[]⟩, .int .i64 0, .string ⟨#[]⟩, .slice none 0 0, .int .i64 0]
structure FinI (w : World) (revs : List Fct) (k : Nat) (v : Value) (wr : World) : Prop where
  low : Below w.heap.size w wr
  size : w.heap.size + 1 < wr.heap.size
  res : wr.heap[w.heap.size]? = some (.cells zEdn 39 (0, 0))
  map : ∃ n gN, n ≤ k ∧ KMap Tryz.prog 3 wr (w.heap.size + 1) n gN ∧ ∀ b, okI b → BlksM (memNo wr (Scr w.heap.size)) ((gN (.int .i64 b)).getD (.slice none 0 0)) (Mg.named (revs.take k) b)
  now : BlksM (memNo wr (Scr w.heap.size)) v (blksOf (revs.take k))
theorem FinI.start (w : World) (revs : List Fct) : FinI w revs 0 (.slice none 0 0) ((w.alloc (.cells zEdn 39)).alloc (.map #[] 0)) := by
  have hb : Below w.heap.size w ((w.alloc (.cells zEdn 39)).alloc (.map #[] 0)) := (bel1 w _).trans ((bel1 _ _).mono (bel1 w _).size)
  refine ⟨hb, by show w.heap.size + 1 < ((w.heap.push _).push _).size; rw [Array.size_push, Array.size_push]; omega, heap_new1 w _ _, ⟨0, fun _ => none, Nat.le_refl _, KMap.made _ _ ?_, fun b _ => ?_⟩, ?_⟩
  · have := World.alloc_heap_new (w.alloc (.cells zEdn 39)) (.map #[] 0)
    have e : (w.alloc (.cells zEdn 39)).heap.size = w.heap.size + 1 := by show (w.heap.push _).size = _; rw [Array.size_push]
    rw [e] at this
    exact this
  · rw [List.take_zero]; exact BlksM.nil _
  · rw [List.take_zero]; exact BlksM.nil _
theorem FinI.mem {mem : Addr → Option Value} {w wr : World} {revs : List Fct} {k : Nat} {v : Value} (h : FinI w revs k v wr) (hs : Sees mem w) : ∀ a u, mem a = some u → memNo wr (Scr w.heap.size) a = some u := fun a u e =>
  memNo_of (hs.bel h.low a u e) (fun hF => by have := sees_lt hs e; unfold Scr at hF; omega)
theorem FinI.keep {w wr wr' : World} {revs : List Fct} {k : Nat} {v : Value} (h : FinI w revs k v wr) (hb : Below wr.heap.size wr wr') : FinI w revs k v wr' := by
  obtain ⟨n, gN, h1, h2, h3⟩ := h.map
  have hz := h.size
  exact ⟨h.low.trans (hb.mono h.low.size), Nat.lt_of_lt_of_le h.size hb.size, (hb.block _ (by omega)).trans h.res, ⟨n, gN, h1, h2.bel hb, fun b hb2 => (h3 b hb2).mono (memNo_bel hb)⟩, h.now.mono (memNo_bel hb)⟩
theorem FinI.step {w wr wr' : World} {revs : List Fct} {k : Nat} {v v' bv : Value} (h : FinI w revs k v wr) (hk : k < revs.length) (hk2 : k ≤ 1000000) (hr : okI revs[k].rev) (hb : Below wr.heap.size wr wr')
    (hn : BlksM (memNo wr' (Scr w.heap.size)) v' (blksOf (revs.take (k + 1)))) (hf : BlksM (memNo wr' (Scr w.heap.size)) bv revs[k].blocks) :
    ∃ wq, (Instr.mapUpdate 161 (.map (some (w.heap.size + 1))) (.int .i64 revs[k].rev) bv).run Tryz.prog wr' = .ok () wq ∧ FinI w revs (k + 1) v' wq := by
  have h' := h.keep hb
  obtain ⟨n, gN, h1, h2, h3⟩ := h'.map
  obtain ⟨wq, r1, r2, hg⟩ := h2.store K_int Tryz.underlying161 (by unfold maxLen; omega) (key_int hr) bv
  refine ⟨wq, r1, ?_⟩
  have hu : Upd (fun b => b = w.heap.size + 1) wr' wq := (Upd.refl _ _).grown hg fun k e => .inl (by cases e; rfl)
  have hm : ∀ a u, memNo wr' (Scr w.heap.size) a = some u → memNo wq (Scr w.heap.size) a = some u := memNo_upd hu fun b _ e => .inr e
  have hz := h'.size
  refine ⟨?_, Nat.lt_of_lt_of_le h'.size hu.size, (hu.block _ (by omega) (by omega)).trans h'.res, ⟨n + 1, _, by omega, r2, fun b hb2 => ?_⟩, hn.mono hm⟩
  · exact h'.low.grown hg h'.low.size (fun k e => by cases e; omega)
  · rw [List.take_succ_eq_append_getElem hk, named_snoc]
    by_cases e : revs[k].rev = b
    · rw [if_pos e, if_pos (by rw [e])]
      exact hf.mono hm
    · rw [if_neg e, if_neg (fun q => by injection q with _ q; exact e q.symm)]
      exact (h3 b hb2).mono hm
end Go.Proofs.YtdkkhmjlamkgdaaGreatDoor

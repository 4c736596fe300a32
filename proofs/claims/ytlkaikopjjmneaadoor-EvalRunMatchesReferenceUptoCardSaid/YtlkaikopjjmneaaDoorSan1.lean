/-
  WHAT IS PROVED HERE: the fixed examples of the statements as they lie in memory, and the five evaluations of them. No condition.
-/
import Derived.Test.YtlkaikopjjmneaaDoorSan0
namespace Go.Proofs.YtlkaikopjjmneaaDoor
open Go.RowKit

/-- a node's cells -/
def nCells (kind : Int) (text name arg : ByteArray) (count : Int) (fv kv ev : Value) : List Value := [.int .i64 kind, .string text, .string name, .string arg, .int .i64 count, fv, kv, ev]
theorem nodeAt_of {mem : Addr → Option Value} {b o : Nat} {kind : Int} {text name arg : ByteArray} {count : Int} {filters : List ByteArray} {kids els : List Node} {fv kv ev : Value} (fb fo kb ko eb eo : Nat)
    (hc : ∀ j (h : j < 8), mem ⟨b, o + j, none⟩ = some ((nCells kind text name arg count fv kv ev)[j]'(by simpa [nCells] using h)))
    (hs : text.size ≤ big ∧ name.size ≤ big ∧ arg.size ≤ big ∧ filters.length ≤ 2097152) (h1 : SliceOf fv filters.length fb fo) (h2 : StrsAt mem filters fb fo)
    (h3 : SliceOf kv kids.length kb ko) (h4 : NodesAt mem kids kb ko) (h5 : SliceOf ev els.length eb eo) (h6 : NodesAt mem els eb eo) : NodeAt mem (.mk kind text name arg count filters kids els) b o := by
  unfold NodeAt
  exact ⟨⟨hc 0 (by omega), hc 1 (by omega), hc 2 (by omega), hc 3 (by omega), hc 4 (by omega)⟩, hs, ⟨fv, fb, fo, hc 5 (by omega), h1, h2⟩, ⟨kv, kb, ko, hc 6 (by omega), h3, h4⟩, ⟨ev, eb, eo, hc 7 (by omega), h5, h6⟩⟩
theorem nodesAt_cons {mem : Addr → Option Value} {n : Node} {r : List Node} {b o : Nat} (h : NodeAt mem n b o) (hr : NodesAt mem r b (o + 8)) : NodesAt mem (n :: r) b o := by
  unfold NodesAt; exact ⟨h, hr⟩
theorem nodesAt_nil {mem : Addr → Option Value} {b o : Nat} : NodesAt mem [] b o := by unfold NodesAt; trivial
theorem strsAt_nil {mem : Addr → Option Value} {b o : Nat} : StrsAt mem [] b o := by unfold StrsAt; trivial
theorem nilS : SliceOf (.slice none 0 0) 0 0 0 := SliceOf.nil 0 0
theorem litS (n c b : Nat) (h : n ≤ c) (hb : n ≤ big) : SliceOf (.slice (some ⟨b, 0, none⟩) n c) n b 0 := ⟨hb, _, _, rfl, h, fun _ => rfl⟩
/-- a cell of a block that is known whole, as the memory that is only read shows it -/
theorem mem_blk {W : World} {R b : Nat} {cs : Array Value} {t : TypeId} {fz : Nat × Nat} (hb : W.heap[b]? = some (.cells cs t fz)) (hne : b ≠ R) (j : Nat) : memOf W R ⟨b, j, none⟩ = cs[j]? := by
  unfold memOf
  rw [if_neg hne, blk_cell hb]

def sF (N : Nat) : Value := .slice (some ⟨N, 0, none⟩) 2 2
def sL (N : Nat) : Value := .slice (some ⟨N + 2, 0, none⟩) 1 1
def sS (N : Nat) : Value := .slice (some ⟨N + 4, 0, none⟩) 1 1
abbrev nilV : Value := .slice none 0 0
structure SaneMem (N : Nat) (W : World) : Prop where
  n2 : 2 < N
  size : N + 9 ≤ W.heap.size
  b0 : W.heap[N]? = some (.cells #[.int .i64 4, .string tTitle, .string tRain, .int .i64 2, .string tTitle, .string tVote] 55 (0, 0))
  b1 : W.heap[N + 1]? = some (.cells #[.int .i64 4, .int .i64 2] 3 (0, 0))
  b2 : W.heap[N + 2]? = some (.cells #[.int .i64 0, .string tLatest, .string tE, .slice (some ⟨N + 1, 0, none⟩) 2 2] 50 (0, 0))
  b3 : W.heap[N + 3]? = some (.cells (nCells 5 tE tX tE 0 nilV nilV nilV).toArray 52 (0, 0))
  b4 : W.heap[N + 4]? = some (.cells #[.string tX, .slice (some ⟨N + 3, 0, none⟩) 1 1] 63 (0, 0))
  b5 : W.heap[N + 5]? = some (.cells #[sF N, sL N, sS N] 27 (0, 0))
  b6 : W.heap[N + 6]? = some (.cells (nCells 2 tE tTitle tE 0 nilV nilV nilV).toArray 52 (0, 0))
  b7 : W.heap[N + 7]? = some (.cells #[.string ⟨#[117, 112, 112, 101, 114]⟩, .string ⟨#[102, 105, 114, 115, 116]⟩] 9 (0, 0))
  b8 : W.heap[N + 8]? = some (.cells (nCells 2 tE tTitle tE 0 (.slice (some ⟨N + 7, 0, none⟩) 2 2) nilV nilV).toArray 52 (0, 0))
  tab : Tab W
theorem SaneMem.upd {N : Nat} {W W' : World} (h : SaneMem N W) {G : Nat → Prop} (hu : Upd G W W') (hG : ∀ k, G k → N + 9 ≤ k) : SaneMem N W' := by
  have hs := h.size
  have hk : ∀ k, k < 9 → W'.heap[N + k]? = W.heap[N + k]? := fun k hk => hu.block _ (by omega) (fun g => by have := hG _ g; omega)
  exact ⟨h.n2, by have := hu.size; omega, (hk 0 (by omega)).trans h.b0, (hk 1 (by omega)).trans h.b1, (hk 2 (by omega)).trans h.b2, (hk 3 (by omega)).trans h.b3, (hk 4 (by omega)).trans h.b4, (hk 5 (by omega)).trans h.b5,
    (hk 6 (by omega)).trans h.b6, (hk 7 (by omega)).trans h.b7, (hk 8 (by omega)).trans h.b8, tab_upd h.tab hu (by have := h.n2; omega) (fun g => by have := hG _ g; omega)⟩
theorem nodesInc {W : World} {R b : Nat} (hb : W.heap[b]? = some (.cells (nCells 5 tE tX tE 0 nilV nilV nilV).toArray 52 (0, 0))) (hne : b ≠ R) : NodesAt (memOf W R) [nInc] b 0 := by
  refine nodesAt_cons (nodeAt_of 0 0 0 0 0 0 (fun j hj => ?_) ⟨by decide, by decide, by decide, by decide⟩ nilS strsAt_nil nilS nodesAt_nil nilS nodesAt_nil) nodesAt_nil
  rw [Nat.zero_add, mem_blk hb hne]
  rw [List.getElem?_toArray]
  exact List.getElem?_eq_getElem _
theorem SaneMem.dat {N : Nat} {W : World} (h : SaneMem N W) {R : Nat} (hR : N + 9 ≤ R) : DatAt (memOf W R) dSane (sF N) (sL N) (sS N) where
  f := by
    refine ⟨N, 0, litS 2 2 N (Nat.le_refl _) (by decide), ?_⟩
    have hb := h.b0
    have hc := mem_blk hb (show N ≠ R by omega)
    exact ⟨⟨hc 0, hc 1, hc 2, by decide⟩, ⟨hc 3, hc 4, hc 5, by decide⟩, trivial⟩
  l := by
    refine ⟨N + 2, 0, litS 1 1 (N + 2) (Nat.le_refl _) (by decide), ?_⟩
    have hc := mem_blk h.b2 (show N + 2 ≠ R by omega)
    have hd := mem_blk h.b1 (show N + 1 ≠ R by omega)
    refine ⟨⟨hc 0, hc 1, hc 2, _, hc 3, N + 1, 0, litS 2 2 (N + 1) (Nat.le_refl _) (by decide), fun j hj => ?_⟩, trivial⟩
    match j, hj with
    | 0, _ => exact hd 0
    | 1, _ => exact hd 1
  s := by
    refine ⟨N + 4, 0, litS 1 1 (N + 4) (Nat.le_refl _) (by decide), ?_⟩
    have hc := mem_blk h.b4 (show N + 4 ≠ R by omega)
    exact ⟨⟨hc 0, _, N + 3, 0, hc 1, litS 1 1 (N + 3) (Nat.le_refl _) (by decide), nodesInc h.b3 (by omega)⟩, trivial⟩

/-- what a call of Run on an example leaves -/
def SRun (res : List UInt8) (code : Int) (R : Nat) (W : World) (e : Ending) (w' : World) : Prop := e = .returned (.tuple #[.string (bs res), .int .i64 code]) ∧ Upd (fun k => k = R) W w'
theorem sane_call {N : Nat} {W : World} (h : SaneMem N W) {R : Nat} (hR : W.heap[R]? = some (.cells #[sF N, sL N, sS N, nilV] 37 (0, 0))) (hRN : N + 9 ≤ R) (l : List Node) (v : Value) (b o : Nat) (hl : SliceOf v l.length b o)
    (hn : NodesAt (memOf W R) l b o) (id : Int) (res : List UInt8) (code : Int) (hres : (runF (recOps dSane) l [] id).1 = (res, code)) :
    Calls Tryd.prog 16 #[v, .iface 29 (.pointer (some ⟨R, 0, none⟩)), .int .i64 id] W (SRun res code R W) := by
  refine (run_rec hR (h.dat hRN) h.tab (by have := h.n2; omega) l v b o hl hn id).mono ?_
  rintro e w' ⟨rfl, F', _, hu, _⟩
  refine ⟨?_, hu⟩
  rw [hres]
theorem sane_call1 {N : Nat} {W : World} (h : SaneMem N W) (b R : Nat) (hb : W.heap[b]? = some (.cells (nCells 1 ⟨#[97]⟩ tE tE 0 nilV nilV nilV ++ nCells 2 tE tTitle tE 0 (.slice (some ⟨N + 7, 0, none⟩) 2 2) nilV nilV).toArray 52 (0, 0)))
    (hR : W.heap[R]? = some (.cells #[sF N, sL N, sS N, nilV] 37 (0, 0))) (hRN : N + 9 ≤ R) (hne : b ≠ R) :
    Calls Tryd.prog 16 #[.slice (some ⟨b, 0, none⟩) 2 2, .iface 29 (.pointer (some ⟨R, 0, none⟩)), .int .i64 4] W (SRun [97, 82, 65, 73, 78, 46] 0 R W) := by
  refine sane_call h hR hRN [nA, nLoud] _ b 0 (litS 2 2 b (Nat.le_refl _) (by decide)) ?_ 4 _ _ san1
  have hc := mem_blk hb hne
  have h7 := mem_blk h.b7 (show N + 7 ≠ R by omega)
  refine nodesAt_cons (nodeAt_of 0 0 0 0 0 0 (fun j hj => ?_) ⟨by decide, by decide, by decide, by decide⟩ nilS strsAt_nil nilS nodesAt_nil nilS nodesAt_nil)
    (nodesAt_cons (nodeAt_of (N + 7) 0 0 0 0 0 (fun j hj => ?_) ⟨by decide, by decide, by decide, by decide⟩ (litS 2 2 (N + 7) (Nat.le_refl _) (by decide)) ⟨⟨h7 0, by decide⟩, ⟨h7 1, by decide⟩, trivial⟩ nilS nodesAt_nil nilS nodesAt_nil) nodesAt_nil)
  · rw [hc]
    match j, hj with
    | 0, _ => rfl
    | 1, _ => rfl
    | 2, _ => rfl
    | 3, _ => rfl
    | 4, _ => rfl
    | 5, _ => rfl
    | 6, _ => rfl
    | 7, _ => rfl
  · rw [hc]
    match j, hj with
    | 0, _ => rfl
    | 1, _ => rfl
    | 2, _ => rfl
    | 3, _ => rfl
    | 4, _ => rfl
    | 5, _ => rfl
    | 6, _ => rfl
    | 7, _ => rfl
theorem nodes_one {W : World} {R b : Nat} {kind : Int} {text name arg : ByteArray} {count : Int} {kids els : List Node} {kv ev : Value} (kb eb : Nat) (hb : W.heap[b]? = some (.cells (nCells kind text name arg count nilV kv ev).toArray 52 (0, 0))) (hne : b ≠ R)
    (hs : text.size ≤ big ∧ name.size ≤ big ∧ arg.size ≤ big) (h3 : SliceOf kv kids.length kb 0) (h4 : NodesAt (memOf W R) kids kb 0) (h5 : SliceOf ev els.length eb 0) (h6 : NodesAt (memOf W R) els eb 0) :
    NodesAt (memOf W R) [.mk kind text name arg count [] kids els] b 0 := by
  refine nodesAt_cons (nodeAt_of 0 0 kb 0 eb 0 (fun j hj => ?_) ⟨hs.1, hs.2.1, hs.2.2, Nat.zero_le _⟩ nilS strsAt_nil h3 h4 h5 h6) nodesAt_nil
  rw [Nat.zero_add, mem_blk hb hne]
  rw [List.getElem?_toArray]
  exact List.getElem?_eq_getElem _
theorem sane_call2 {N : Nat} {W : World} (h : SaneMem N W) (b1 b R : Nat) (hb : W.heap[b]? = some (.cells (nCells 3 tE tLatest tE 5 nilV (.slice (some ⟨b1, 0, none⟩) 2 2) nilV).toArray 52 (0, 0)))
    (hb1 : W.heap[b1]? = some (.cells (nCells 2 tE tTitle tE 0 nilV nilV nilV ++ nCells 1 ⟨#[59]⟩ tE tE 0 nilV nilV nilV).toArray 52 (0, 0)))
    (hR : W.heap[R]? = some (.cells #[sF N, sL N, sS N, nilV] 37 (0, 0))) (hRN : N + 9 ≤ R) (hne : b ≠ R) (hne1 : b1 ≠ R) :
    Calls Tryd.prog 16 #[.slice (some ⟨b, 0, none⟩) 1 1, .iface 29 (.pointer (some ⟨R, 0, none⟩)), .int .i64 0] W (SRun [114, 97, 105, 110, 46, 32, 109, 111, 114, 101, 59, 118, 111, 116, 101, 59] 0 R W) := by
  refine sane_call h hR hRN [nFor] _ b 0 (litS 1 1 b (Nat.le_refl _) (by decide)) ?_ 0 _ _ san2
  refine nodes_one b1 0 hb hne ⟨by decide, by decide, by decide⟩ (litS 2 2 b1 (Nat.le_refl _) (by decide)) ?_ nilS nodesAt_nil
  have hc := mem_blk hb1 hne1
  refine nodesAt_cons (nodeAt_of 0 0 0 0 0 0 (fun j hj => ?_) ⟨by decide, by decide, by decide, by decide⟩ nilS strsAt_nil nilS nodesAt_nil nilS nodesAt_nil)
    (nodesAt_cons (nodeAt_of 0 0 0 0 0 0 (fun j hj => ?_) ⟨by decide, by decide, by decide, by decide⟩ nilS strsAt_nil nilS nodesAt_nil nilS nodesAt_nil) nodesAt_nil)
  · rw [hc]
    match j, hj with
    | 0, _ => rfl
    | 1, _ => rfl
    | 2, _ => rfl
    | 3, _ => rfl
    | 4, _ => rfl
    | 5, _ => rfl
    | 6, _ => rfl
    | 7, _ => rfl
  · rw [hc]
    match j, hj with
    | 0, _ => rfl
    | 1, _ => rfl
    | 2, _ => rfl
    | 3, _ => rfl
    | 4, _ => rfl
    | 5, _ => rfl
    | 6, _ => rfl
    | 7, _ => rfl
theorem sane_call3 {N : Nat} {W : World} (h : SaneMem N W) (b1 b2 b R : Nat) (hb : W.heap[b]? = some (.cells (nCells 4 tE ⟨#[110, 111, 110, 101]⟩ tE 0 nilV (.slice (some ⟨b1, 0, none⟩) 1 1) (.slice (some ⟨b2, 0, none⟩) 1 1)).toArray 52 (0, 0)))
    (hb1 : W.heap[b1]? = some (.cells (nCells 2 tE tTitle tE 0 nilV nilV nilV).toArray 52 (0, 0)))
    (hb2 : W.heap[b2]? = some (.cells (nCells 1 ⟨#[110, 111]⟩ tE tE 0 nilV nilV nilV).toArray 52 (0, 0)))
    (hR : W.heap[R]? = some (.cells #[sF N, sL N, sS N, nilV] 37 (0, 0))) (hRN : N + 9 ≤ R) (hne : b ≠ R) (hne1 : b1 ≠ R) (hne2 : b2 ≠ R) :
    Calls Tryd.prog 16 #[.slice (some ⟨b, 0, none⟩) 1 1, .iface 29 (.pointer (some ⟨R, 0, none⟩)), .int .i64 0] W (SRun [110, 111] 0 R W) := by
  refine sane_call h hR hRN [nIf] _ b 0 (litS 1 1 b (Nat.le_refl _) (by decide)) ?_ 0 _ _ san3
  refine nodes_one b1 b2 hb hne ⟨by decide, by decide, by decide⟩ (litS 1 1 b1 (Nat.le_refl _) (by decide)) ?_ (litS 1 1 b2 (Nat.le_refl _) (by decide)) ?_
  · exact nodes_one 0 0 hb1 hne1 ⟨by decide, by decide, by decide⟩ nilS nodesAt_nil nilS nodesAt_nil
  · exact nodes_one 0 0 hb2 hne2 ⟨by decide, by decide, by decide⟩ nilS nodesAt_nil nilS nodesAt_nil
theorem sane_call4 {N : Nat} {W : World} (h : SaneMem N W) (b R : Nat) (hb : W.heap[b]? = some (.cells (nCells 2 tE tTitle tE 0 nilV nilV nilV).toArray 52 (0, 0)))
    (hR : W.heap[R]? = some (.cells #[sF N, sL N, sS N, nilV] 37 (0, 0))) (hRN : N + 9 ≤ R) (hne : b ≠ R) :
    Calls Tryd.prog 16 #[.slice (some ⟨b, 0, none⟩) 1 1, .iface 29 (.pointer (some ⟨R, 0, none⟩)), .int .i64 0] W (SRun [] 110 R W) :=
  sane_call h hR hRN [nTitle] _ b 0 (litS 1 1 b (Nat.le_refl _) (by decide)) (nodes_one 0 0 hb hne ⟨by decide, by decide, by decide⟩ nilS nodesAt_nil nilS nodesAt_nil) 0 _ _ san4
theorem sane_call5 {N : Nat} {W : World} (h : SaneMem N W) (b R : Nat) (hb : W.heap[b]? = some (.cells (nCells 5 tE tX tE 0 nilV nilV nilV).toArray 52 (0, 0)))
    (hR : W.heap[R]? = some (.cells #[sF N, sL N, sS N, nilV] 37 (0, 0))) (hRN : N + 9 ≤ R) (hne : b ≠ R) :
    Calls Tryd.prog 16 #[.slice (some ⟨b, 0, none⟩) 1 1, .iface 29 (.pointer (some ⟨R, 0, none⟩)), .int .i64 0] W (SRun [] 111 R W) :=
  sane_call h hR hRN [nInc] _ b 0 (litS 1 1 b (Nat.le_refl _) (by decide)) (nodesInc hb hne) 0 _ _ san5
end Go.Proofs.YtlkaikopjjmneaaDoor

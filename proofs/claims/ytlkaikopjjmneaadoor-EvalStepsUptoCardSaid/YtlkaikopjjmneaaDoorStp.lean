/-
  WHAT IS PROVED HERE: the walk of the statement EvalSteps: it returns true. Condition: strconv's table.
-/
import Derived.Test.YtlkaikopjjmneaaDoorPrp
import Derived.Test.YtlkaikopjjmneaaDoorPln3
import Derived.Deep.RegionHeld3
import Derived.OwnWalk
namespace Go.Proofs.YtlkaikopjjmneaaDoor
open Go.RowKit

def txtCells (c : ByteArray) : List Value := [.int .i64 1, .string c, .string ⟨#[]⟩, .string ⟨#[]⟩, .int .i64 0, .slice none 0 0, .slice none 0 0, .slice none 0 0]
theorem rep_nodes {mem : Addr → Option Value} {b : Nat} {c : ByteArray} (hc : c.size ≤ big) : ∀ (n o : Nat), (∀ q, q < n → ∀ j u, (txtCells c)[j]? = some u → mem ⟨b, o + q * 8 + j, none⟩ = some u) → NodesAt mem (List.replicate n (txt c)) b o
  | 0, _, _ => by rw [List.replicate_zero]; exact nodesAt_nil
  | n + 1, o, h => by
    rw [List.replicate_succ]
    refine nodesAt_cons (nodeAt_of 0 0 0 0 0 0 (fun j hj => ?_) ⟨hc, by decide, by decide, by decide⟩ nilS strsAt_nil nilS nodesAt_nil nilS nodesAt_nil) (rep_nodes hc n (o + 8) (fun q hq j u hj => ?_))
    · have := h 0 (by omega) j ((txtCells c)[j]'(by simpa [txtCells] using hj)) (List.getElem?_eq_getElem _)
      rw [Nat.zero_mul, Nat.add_zero] at this
      exact this
    · have := h (q + 1) (by omega) j u hj
      rwa [show o + (q + 1) * 8 + j = o + 8 + q * 8 + j by omega] at this
theorem upd_setCells {F : Nat → Prop} {a : World} {b : Nat} (hb : F b ∨ a.heap.size ≤ b) : ∀ (vs : List Value) (o : Nat) (w : World), Upd F a w → Upd F a (w.setCells b o vs)
  | [], _, _, h => h
  | v :: r, o, _, h => upd_setCells hb r (o + 1) _ (h.setCell (p := ⟨b, o, none⟩) hb v)
def tensC : Array Value := #[.int .i64 1, .int .i64 2, .int .i64 3, .int .i64 4, .int .i64 5, .int .i64 6, .int .i64 7, .int .i64 8, .int .i64 9, .int .i64 10]
def xCells (N n : Nat) : List Value := [.int .i64 3, .string ⟨#[]⟩, .string ⟨#[108]⟩, .string ⟨#[]⟩, .int .i64 10, .slice none 0 0, .slice (some ⟨N + 3, 0, none⟩) n n, .slice none 0 0]
/-- what the call has laid, k kids stored -/
structure StpMem (W : World) (N n k : Nat) (wr : World) : Prop where
  upd : Upd (fun _ => False) W wr
  wn : W.heap.size ≤ N
  b0 : wr.heap[N]? = some (.cells tensC 3 (0, 0))
  b1 : wr.heap[N + 1]? = some (.cells #[.int .i64 0, .string ⟨#[108]⟩, .string ⟨#[]⟩, .slice (some ⟨N, 0, none⟩) 10 10] 50 (0, 0))
  b2 : wr.heap[N + 2]? = some (.cells #[.slice none 0 0, .slice (some ⟨N + 1, 0, none⟩) 1 1, .slice none 0 0] 27 (0, 0))
  b4 : wr.heap[N + 4]? = some (.cells (xCells N n).toArray 52 (0, 0))
  some_ : ∀ j, j < n * 8 → ∃ u, wr.cell? ⟨N + 3, j, none⟩ = some u
  free : ∀ j, wr.frozen? ⟨N + 3, j, none⟩ = false
  kids : ∀ q, q < k → ∀ j u, (txtCells tXx)[j]? = some u → wr.cell? ⟨N + 3, q * 8 + j, none⟩ = some u
theorem StpMem.keep {W : World} {N n k : Nat} {wr w : World} {G : Nat → Prop} (h : StpMem W N n k wr) (hu : Upd G wr w) (hG : ∀ k, G k → N + 5 ≤ k) : StpMem W N n k w := by
  have h4 := blk_lt h.b4
  have hn : ∀ i, i < N + 5 → ¬ G i := fun i hi g => by have := hG i g; omega
  exact ⟨h.upd.trans hu (fun i g => .inr (by have := hG i g; have := h.wn; omega)), h.wn, (hu.block _ (blk_lt h.b0) (hn _ (by omega))).trans h.b0, (hu.block _ (blk_lt h.b1) (hn _ (by omega))).trans h.b1, (hu.block _ (blk_lt h.b2) (hn _ (by omega))).trans h.b2, (hu.block _ (blk_lt h.b4) (hn _ (by omega))).trans h.b4,
    fun j hj => by obtain ⟨u, hc⟩ := h.some_ j hj; exact ⟨u, hu.cell_some hc (hn _ (by show N + 3 < _; omega))⟩, fun j => (hu.frozen (p := ⟨N + 3, j, none⟩) (by show N + 3 < _; omega) (hn _ (by show N + 3 < _; omega))).trans (h.free j), fun q hq j u hj => hu.cell_some (h.kids q hq j u hj) (hn _ (by show N + 3 < _; omega))⟩
theorem StpMem.store {W : World} {N n k : Nat} {wr : World} (h : StpMem W N n k wr) (hk : k < n) : StpMem W N n (k + 1) (wr.setCells (N + 3) (k * 8) (txtCells tXx)) := by
  have hu : Upd (fun j => j = N + 3) wr (wr.setCells (N + 3) (k * 8) (txtCells tXx)) := upd_setCells (F := fun j => j = N + 3) (.inl rfl) _ _ _ (Upd.refl _ _)
  have hin := World.cell?_setCells_in (N + 3) (txtCells tXx) (k * 8) wr (fun j hj => by
    have hj8 : j < 8 := by simpa [txtCells] using hj
    obtain ⟨u, hc⟩ := h.some_ (k * 8 + j) (by omega)
    rw [hc]; rfl)
  have hout := World.cell?_setCells_out (N + 3) (txtCells tXx) (k * 8) wr
  have hl8 : (txtCells tXx).length = 8 := rfl
  refine ⟨upd_setCells (.inr (by have := h.wn; omega)) _ _ _ h.upd, h.wn, (hu.block _ (blk_lt h.b0) (by omega)).trans h.b0, (hu.block _ (blk_lt h.b1) (by omega)).trans h.b1, (hu.block _ (blk_lt h.b2) (by omega)).trans h.b2, (hu.block _ (blk_lt h.b4) (by omega)).trans h.b4,
    fun j hj => ?_, fun j => by rw [World.frozen?_setCells]; exact h.free j, fun q hq j u hj => ?_⟩
  · by_cases h1 : j < k * 8 ∨ k * 8 + 8 ≤ j
    · rw [hout _ (fun _ _ => by rw [hl8]; exact h1)]; exact h.some_ j hj
    · have := hin (j - k * 8) (by rw [hl8]; omega)
      rw [show k * 8 + (j - k * 8) = j by omega] at this
      exact ⟨_, this⟩
  · have hj8 : j < 8 := by have := (List.getElem?_eq_some_iff.1 hj).1; rwa [hl8] at this
    by_cases e : q = k
    · subst e
      have := hin j (by rw [hl8]; exact hj8)
      rw [this]
      rw [List.getElem?_eq_getElem (by rw [hl8]; exact hj8)] at hj
      exact hj
    · rw [hout _ (fun _ _ => by rw [hl8]; left; show q * 8 + j < k * 8; omega)]
      exact h.kids q (by omega) j u hj
theorem lit_node8 {w : World} (B : Nat) (hB : B ≤ w.heap.size) (c0 c1 c2 c3 c4 c5 c6 c7 : Value) : (w.alloc (.cells #[c0, c1, c2, c3, c4, c5, c6, c7] 52)).ownsRow B 52 8 (.slice (some ⟨w.heap.size, 0, none⟩) 1 1) 1 [c0, c1, c2, c3, c4, c5, c6, c7] :=
  ⟨rfl, .inr ⟨w.heap.size, 1, _, rfl, hB, World.alloc_heap_new w _, Nat.le_refl _, by unfold maxLen; omega, rfl, rfl⟩⟩
theorem flat_rep (l : List Value) (hl : l.length = 8) (j : Nat) (hj : j < 8) : ∀ (m q : Nat), q < m → ((List.replicate m l).flatten)[q * 8 + j]? = l[j]?
  | m + 1, 0, _ => by
    rw [List.replicate_succ, List.flatten_cons, Nat.zero_mul, Nat.zero_add, List.getElem?_append_left (by omega)]
  | m + 1, q + 1, h => by
    rw [List.replicate_succ, List.flatten_cons, List.getElem?_append_right (by omega), hl, show (q + 1) * 8 + j - 8 = q * 8 + j by omega]
    exact flat_rep l hl j hj m q (by omega)
theorem stp_nodes {W : World} {N n m : Nat} {w : World} (h : StpMem W N n n w) (hn : n ≤ 300) (hm : m ≤ 3000) {v : Value} (hr : w.ownsRow (N + 5) 52 8 v (1 + m) (xCells N n ++ (List.replicate m (txtCells tYy)).flatten)) :
    ∃ gb, SliceOf v (forNode n :: List.replicate m (txt tYy)).length gb 0 ∧ NodesAt (fun a => w.cell? a) (forNode n :: List.replicate m (txt tYy)) gb 0 := by
  obtain ⟨gb, gs, _, gc⟩ := slice_of_row hr (by unfold big; omega)
  have hx8 : (xCells N n).length = 8 := rfl
  refine ⟨gb, by rw [List.length_cons, List.length_replicate, Nat.add_comm]; exact gs, nodesAt_cons (nodeAt_of (fv := .slice none 0 0) (kv := .slice (some ⟨N + 3, 0, none⟩) n n) (ev := .slice none 0 0) 0 0 (N + 3) 0 0 0 (fun j hj => ?_) ⟨by decide, by decide, by decide, Nat.zero_le _⟩ nilS strsAt_nil ?_ ?_ nilS nodesAt_nil) (rep_nodes (by decide) m (0 + 8) (fun q hq j u hj => ?_))⟩
  · rw [Nat.zero_add]
    refine gc j _ ?_
    rw [List.getElem?_append_left (by rw [hx8]; exact hj)]
    exact List.getElem?_eq_getElem _
  · rw [List.length_replicate]; exact litS n n (N + 3) (Nat.le_refl _) (by unfold big; omega)
  · refine rep_nodes (by decide) n 0 (fun q hq j u hj => ?_)
    rw [Nat.zero_add]
    exact h.kids q hq j u hj
  · have hj8 : j < 8 := by have := (List.getElem?_eq_some_iff.1 hj).1; simpa [txtCells] using this
    refine gc _ u ?_
    rw [List.getElem?_append_right (by rw [hx8]; omega), hx8, show 0 + 8 + q * 8 + j - 8 = q * 8 + j by omega, flat_rep _ rfl j hj8 m q hq]
    exact hj
theorem stp_dat {W : World} {N n k : Nat} {w : World} (h : StpMem W N n k w) : DatAt (fun a => w.cell? a) dSteps (.slice none 0 0) (.slice (some ⟨N + 1, 0, none⟩) 1 1) (.slice none 0 0) where
  f := ⟨0, 0, nilS, trivial⟩
  l := by
    refine ⟨N + 1, 0, litS 1 1 (N + 1) (Nat.le_refl _) (by decide), ?_⟩
    refine ⟨⟨blk_cell h.b1 0, blk_cell h.b1 1, blk_cell h.b1 2, _, blk_cell h.b1 3, N, 0, litS 10 10 N (Nat.le_refl _) (by decide), fun j hj => ?_⟩, trivial⟩
    have hj' : j < 10 := hj
    show w.cell? _ = _
    rw [Nat.zero_add, blk_cell h.b0]
    have : j = 0 ∨ j = 1 ∨ j = 2 ∨ j = 3 ∨ j = 4 ∨ j = 5 ∨ j = 6 ∨ j = 7 ∨ j = 8 ∨ j = 9 := by omega
    rcases this with rfl | rfl | rfl | rfl | rfl | rfl | rfl | rfl | rfl | rfl <;> rfl
  s := ⟨0, 0, nilS, trivial⟩
set_option maxRecDepth 100000 in
set_option maxHeartbeats 1000000 in
theorem steps_walk (a b : Int) (W : World) (ht : Tab W) (h2 : 2 < W.heap.size) : Calls Tryd.prog 10 #[.int .i64 a, .int .i64 b] W fun e w' => e = .returned (.bool true) ∧ Upd (fun _ => False) W w' := by
  obtain ⟨i5, hi5, hz50, hz51, hz52⟩ := info_parts info52
  have HT := Lib.hid ht
  clear ht
  go_enter Tryd.func10, Tryd.ntmps10
  go_wp2_with fail
  refine (sane_any _ HT.out h2).mono ?_
  rintro e w1 ⟨rfl, hu1⟩
  have hsz1 := hu1.size
  go_upto_region 4 with fail
  have hmk : ∀ (n : Nat), n ≤ 300 → ∀ w : World, (Instr.makeSlice 22 (.int .i64 (n : Int)) (.int .i64 (n : Int))).run Tryd.prog w = .ok (.slice (some ⟨w.heap.size, 0, none⟩) n n) (w.alloc (.cells (madeCells (Value.cells (.agg #[.int .i64 0, .string ⟨#[]⟩, .string ⟨#[]⟩, .string ⟨#[]⟩, .int .i64 0, .slice none 0 0, .slice none 0 0, .slice none 0 0])) (n * 8)) 52)) := fun n hn w => by
    have := run_make (P := Tryd.prog) w 22 52 i5 _ Tryd.underlying22 hi5 hz50 .i64 .i64 n n (by omega) (Int.le_refl _) (by rw [hz52]; omega) (by omega)
    rw [hz51] at this
    simpa using this
  obtain ⟨n, hn, hn3⟩ : ∃ n : Nat, min (max a 0) 300 = (n : Int) ∧ n ≤ 300 := ⟨(min (max a 0) 300).toNat, by omega, by omega⟩
  obtain ⟨m, hm, hm3⟩ : ∃ m : Nat, min (max b 0) 3000 = (m : Int) ∧ m ≤ 3000 := ⟨(min (max b 0) 3000).toNat, by omega, by omega⟩
  rw [hn, hm]
  clear hn hm
  have hmk2 := hmk n hn3
  clear hmk
  go_wp2_with fail
  obtain ⟨wZ, HWZ⟩ := named (((((w1.alloc (.cells #[.int .i64 1, .int .i64 2, .int .i64 3, .int .i64 4, .int .i64 5, .int .i64 6, .int .i64 7, .int .i64 8, .int .i64 9, .int .i64 10] 3)).alloc (.cells #[.int .i64 0, .string ⟨#[108]⟩, .string ⟨#[]⟩, .slice (some ⟨w1.heap.size, 0, none⟩) 10 10] 50)).alloc (.cells #[.slice none 0 0, .slice (some ⟨w1.heap.size + 1, 0, none⟩) 1 1, .slice none 0 0] 27)).alloc (.cells (madeCells #[.int .i64 0, .string ⟨#[]⟩, .string ⟨#[]⟩, .string ⟨#[]⟩, .int .i64 0, .slice none 0 0, .slice none 0 0, .slice none 0 0] (n * 8)) 52)).alloc (.cells #[.int .i64 3, .string ⟨#[]⟩, .string ⟨#[108]⟩, .string ⟨#[]⟩, .int .i64 10, .slice none 0 0, .slice (some ⟨w1.heap.size + 1 + 1 + 1, 0, none⟩) n n, .slice none 0 0] 52))
  rw [← HWZ.out]
  have hst : StpMem W w1.heap.size n 0 wZ := by
    have hb3 : wZ.heap[w1.heap.size + 3]? = some (.cells (madeCells #[.int .i64 0, .string ⟨#[]⟩, .string ⟨#[]⟩, .string ⟨#[]⟩, .int .i64 0, .slice none 0 0, .slice none 0 0, .slice none 0 0] (n * 8)) 52 (0, 0)) := by
      rw [HWZ.out]; repeat (first | exact ag_new (by (try simp) <;> omega) | refine ag_old (by (try simp) <;> omega) ?_)
    refine ⟨by rw [HWZ.out]; exact (((((hu1.alloc _).alloc _).alloc _).alloc _).alloc _), hsz1, ?_, ?_, ?_, ?_, fun j hj => ?_, fun j => blk_free hb3 j, fun q hq => absurd hq (by omega)⟩
    · rw [HWZ.out]; repeat (first | exact ag_new (by (try simp) <;> omega) | refine ag_old (by (try simp) <;> omega) ?_)
    · rw [HWZ.out]; repeat (first | exact ag_new (by (try simp) <;> omega) | refine ag_old (by (try simp) <;> omega) ?_)
    · rw [HWZ.out]; repeat (first | exact ag_new (by (try simp) <;> omega) | refine ag_old (by (try simp) <;> omega) ?_)
    · rw [HWZ.out]; repeat (first | exact ag_new (by (try simp) <;> omega) | refine ag_old (by (try simp) <;> omega) ?_)
    · refine ⟨_, (blk_cell hb3 j).trans (Array.getElem?_eq_getElem ?_)⟩
      rw [size_madeCells]; exact hj
  go_loopw [8] (fun i wr => ∃ k : Nat, k ≤ n ∧ i = .int .i64 k ∧ Hid (StpMem W w1.heap.size n k wr)) (fun i _ => n - (intOf i).toNat)
  case atStart => exact ⟨0, Nat.zero_le _, rfl, Lib.hid hst⟩
  case round =>
    obtain ⟨k, hk, rfl, HK⟩ := hrel
    have k0 : wr.cell? ⟨w1.heap.size + 1 + 1 + 1 + 1, 6, none⟩ = some (.slice (some ⟨w1.heap.size + 1 + 1 + 1, 0, none⟩) n n) := blk_cell HK.out.b4 6
    have hl4 : w1.heap.size + 1 + 1 + 1 + 1 < wr.heap.size := blk_lt HK.out.b4
    by_cases hlt : k < n
    · obtain ⟨u0, c0⟩ := HK.out.some_ (k * 8) (by omega)
      obtain ⟨u1, c1⟩ := HK.out.some_ (k * 8 + 1) (by omega)
      obtain ⟨u2, c2⟩ := HK.out.some_ (k * 8 + 2) (by omega)
      obtain ⟨u3, c3⟩ := HK.out.some_ (k * 8 + 3) (by omega)
      obtain ⟨u4, c4⟩ := HK.out.some_ (k * 8 + 4) (by omega)
      obtain ⟨u5, c5⟩ := HK.out.some_ (k * 8 + 5) (by omega)
      obtain ⟨u6, c6⟩ := HK.out.some_ (k * 8 + 6) (by omega)
      obtain ⟨u7, c7⟩ := HK.out.some_ (k * 8 + 7) (by omega)
      have f0 := HK.out.free (k * 8)
      have f1 := HK.out.free (k * 8 + 1)
      have f2 := HK.out.free (k * 8 + 2)
      have f3 := HK.out.free (k * 8 + 3)
      have f4 := HK.out.free (k * 8 + 4)
      have f5 := HK.out.free (k * 8 + 5)
      have f6 := HK.out.free (k * 8 + 6)
      have f7 := HK.out.free (k * 8 + 7)
      change wr.cell? ⟨w1.heap.size + 1 + 1 + 1, _, none⟩ = _ at c0 c1 c2 c3 c4 c5 c6 c7
      change wr.frozen? ⟨w1.heap.size + 1 + 1 + 1, _, none⟩ = _ at f0 f1 f2 f3 f4 f5 f6 f7
      go_wp2_with fail
      go_roundw
      case rel => exact ⟨k + 1, by omega, by go_num, Lib.hid (HK.out.store hlt)⟩
      case measure => simp [intOf]; omega
    · have hkn : k = n := by omega
      subst hkn
      have d0 : wr.cell? ⟨w1.heap.size + 1 + 1 + 1 + 1, 0, none⟩ = some (.int .i64 3) := blk_cell HK.out.b4 0
      have d1 : wr.cell? ⟨w1.heap.size + 1 + 1 + 1 + 1, 1, none⟩ = some (.string ⟨#[]⟩) := blk_cell HK.out.b4 1
      have d2 : wr.cell? ⟨w1.heap.size + 1 + 1 + 1 + 1, 2, none⟩ = some (.string ⟨#[108]⟩) := blk_cell HK.out.b4 2
      have d3 : wr.cell? ⟨w1.heap.size + 1 + 1 + 1 + 1, 3, none⟩ = some (.string ⟨#[]⟩) := blk_cell HK.out.b4 3
      have d4 : wr.cell? ⟨w1.heap.size + 1 + 1 + 1 + 1, 4, none⟩ = some (.int .i64 10) := blk_cell HK.out.b4 4
      have d5 : wr.cell? ⟨w1.heap.size + 1 + 1 + 1 + 1, 5, none⟩ = some (.slice none 0 0) := blk_cell HK.out.b4 5
      have d7 : wr.cell? ⟨w1.heap.size + 1 + 1 + 1 + 1, 7, none⟩ = some (.slice none 0 0) := blk_cell HK.out.b4 7
      go_wp2_with fail
      have HKO := Lib.hid (And.intro (HK.out.keep (upd_box1 wr (.cells (xCells w1.heap.size k).toArray 52)) (fun _ f => f.elim)) (lit_node8 (w := wr) (w1.heap.size + 5) (by omega) (.int .i64 3) (.string ⟨#[]⟩) (.string ⟨#[108]⟩) (.string ⟨#[]⟩) (.int .i64 10) (.slice none 0 0) (.slice (some ⟨w1.heap.size + 3, 0, none⟩) k k) (.slice none 0 0)))
      clear d0 d1 d2 d3 d4 d5 d7 k0 hmk2
      obtain ⟨wo, rfl⟩ : ∃ wo : World, wo = wr := ⟨_, rfl⟩
      go_loopw [10, 9] (fun i v wq => ∃ (q : Nat) (va : Option Addr) (vc : Nat), q ≤ m ∧ i = .int .i64 q ∧ v = .slice va (1 + q) vc ∧ Hid (StpMem W w1.heap.size k k wq) ∧ Hid (wq.ownsRow (w1.heap.size + 5) 52 8 (.slice va (1 + q) vc) (1 + q) (xCells w1.heap.size k ++ (List.replicate q (txtCells tYy)).flatten))) (fun i _ _ => m - (intOf i).toNat)
      case atStart => exact ⟨0, _, 1, Nat.zero_le _, rfl, rfl, Lib.hid HKO.out.1, Lib.hid HKO.out.2⟩
      case round =>
        obtain ⟨q, va, vc, hq, rfl, rfl, HS, HR⟩ := hrel
        have hl4 : w1.heap.size + 1 + 1 + 1 + 1 < wr.heap.size := blk_lt HS.out.b4
        by_cases hlt2 : q < m
        · have HRA : Hid (∀ o, (wr.alloc o).ownsRow (w1.heap.size + 5) 52 8 (.slice va (1 + q) vc) (1 + q) (xCells w1.heap.size k ++ (List.replicate q (txtCells tYy)).flatten)) := Lib.hid (fun o => World.ownsRow.alloc HR.out o)
          have HNC : Hid (∀ (j : Nat) (u : Value), (txtCells tYy)[j]? = some u → (wr.alloc (.cells #[.int .i64 1, .string ⟨#[121]⟩, .string ⟨#[]⟩, .string ⟨#[]⟩, .int .i64 0, .slice none 0 0, .slice none 0 0, .slice none 0 0] 52)).cell? ((⟨wr.heap.size, 0, none⟩ : Addr).add j) = some u) := Lib.hid (fun j u hj => by
            rw [Addr.add_lit, Nat.zero_add, World.cell?_alloc_at _ _ _ _ (by simp)]
            simpa [txtCells, tYy] using hj)
          have HUG : Hid (∀ w3 o, (wr.alloc o).grownBy w3 (Value.slice va (1 + q) vc).ownBlock → StpMem W w1.heap.size k k w3) := Lib.hid (fun w3 o hg => HS.out.keep (G := fun i => w1.heap.size + 5 ≤ i) (((upd_box1 wr o).mono (fun _ f => f.elim)).grown hg (fun g e => .inl (World.ownsRow.lt HR.out g e).1)) (fun _ h => h))
          go_wp2_with (first | (at_builtin; go_must (refine wpList_app_own rfl _ _ 22 rfl (w1.heap.size + 5) 52 i5 _ 8 136 Tryd.underlying22 hi5 hz50 hz51 hz52 rfl (by decide) _ (1 + q) _ rfl (HRA.out _) ⟨wr.heap.size, 0, none⟩ 1 1 (txtCells tYy) rfl rfl HNC.out (by simp [txtCells, Value.oneCell']) (by unfold maxLen; omega) (by omega) (by simp; omega) ?_; intro v2 w2 g1 g2 g3; have HU := Lib.hid (HUG.out w2 _ g2); obtain ⟨g', cap', rfl⟩ := ownsRow_succ g1; have HG := Lib.hid g1; clear g1 g2 g3)))
          go_roundw
          case rel => exact ⟨q + 1, _, cap', by omega, by go_num, rfl, HU, Lib.hid (by have h := HG.out; rw [List.append_assoc] at h; rw [List.replicate_succ', List.flatten_append, List.flatten_cons, List.flatten_nil, List.append_nil]; exact h)⟩
          case measure => simp [intOf]; omega
        · have hqm : q = m := by omega
          subst hqm
          have e0 : wr.cell? ⟨w1.heap.size + 1 + 1, 0, none⟩ = some (.slice none 0 0) := blk_cell HS.out.b2 0
          have e1 : wr.cell? ⟨w1.heap.size + 1 + 1, 1, none⟩ = some (.slice (some ⟨w1.heap.size + 1, 0, none⟩) 1 1) := blk_cell HS.out.b2 1
          have e2 : wr.cell? ⟨w1.heap.size + 1 + 1, 2, none⟩ = some (.slice none 0 0) := blk_cell HS.out.b2 2
          go_wp2_with fail
          refine (source_any _ _ _ _).mono ?_
          rintro e w6 ⟨rfl, rfl⟩
          go_wp2_with fail
          obtain ⟨gb, s1, s2⟩ := stp_nodes HS.out hn3 hm3 HR.out
          have htq := tab_upd HT.out HS.out.upd h2 (fun f => f)
          rw [List.length_cons, List.length_replicate, Nat.add_comm] at s1
          refine (run_hid (W := wr) (R := wr.heap.size + 1) (((Upd.refl _ _).alloc _).alloc _) (stp_dat HS.out) htq (by omega) (ag_new (by simp)) (by omega) (forNode k :: List.replicate q (txt tYy)) _ gb 0 (by rw [List.length_cons, List.length_replicate, Nat.add_comm]; exact s1) s2 0).mono ?_
          rintro e w7 ⟨t, f, rfl, ht8, HR7⟩
          have hP := steps_plain k q
          obtain ⟨ht, hf, hu⟩ := HR7.out
          have HEND := Lib.hid (HS.out.upd.trans hu (fun _ f => f.elim))
          by_cases hgt : 2000 < 1 + 10 * k + q
          · have p := hP.2 hgt
            have hfin : f = 111 ∧ t = ⟨#[]⟩ := ⟨hf.trans (congrArg Prod.snd p), ht.trans (congrArg (fun x => bs x.1) p)⟩
            obtain ⟨rfl, rfl⟩ := hfin
            have hgt' : (2000 : Int) < 1 + 10 * (k : Int) + (q : Int) := by omega
            clear hP hf ht hu hgt e0 e1 e2 s1 s2 p htq
            go_wp2_with fail
            go_ret
            exact ⟨rfl, HEND.out⟩
          · obtain ⟨p1, p2⟩ := hP.1 (by omega)
            have hts : (t.size : Int) = 10 * (k : Int) + (q : Int) := by
              rw [ht, bs_size, p2]; omega
            have hf0 := hf.trans p1
            subst hf0
            have hb1 : ((t.size : Int) == 10 * (k : Int) + (q : Int)) = true := by simpa using hts
            have hgt' : ¬ (2000 : Int) < 1 + 10 * (k : Int) + (q : Int) := by omega
            clear hP hf ht hu hgt e0 e1 e2 s1 s2 p1 p2 htq hts
            go_wp2_with fail
            go_ret
            exact ⟨rfl, HEND.out⟩
end Go.Proofs.YtlkaikopjjmneaaDoor

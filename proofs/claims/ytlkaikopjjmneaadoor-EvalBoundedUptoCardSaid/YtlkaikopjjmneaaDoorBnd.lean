/-
  WHAT IS PROVED HERE: the walk of the statement EvalBounded: it returns true. Conditions: the arguments lie in memory; strconv's table.
-/
import Derived.Test.YtlkaikopjjmneaaDoorPrp
import Derived.Test.YtlkaikopjjmneaaDoorPln4
import Derived.Deep.RegionHeld3
import Derived.IntWalk
namespace Go.Proofs.YtlkaikopjjmneaaDoor
open Go.RowKit

theorem lit_own {w : World} {B : Nat} (hB : B + 1 ≤ w.heap.size) (c0 c1 c2 c3 : Value) : (w.alloc (.cells #[c0, c1, c2, c3] 50)).ownsRow (B + 1) 50 4 (.slice (some ⟨w.heap.size, 0, none⟩) 1 1) 1 [c0, c1, c2, c3] :=
  ⟨rfl, .inr ⟨w.heap.size, 1, _, rfl, hB, World.alloc_heap_new w _, Nat.le_refl _, by unfold maxLen; omega, rfl, rfl⟩⟩
theorem tens_at {w : World} {B N n : Nat} (hb : w.heap[N]? = some (.cells #[.int .i64 1, .int .i64 2, .int .i64 3, .int .i64 4, .int .i64 5, .int .i64 6, .int .i64 7, .int .i64 8, .int .i64 9, .int .i64 10] 3 (0, 0))) (hN : N ≠ B) (hn : n ≤ 10) :
    IntsM (memOf w B) (.slice (some ⟨N, 0, none⟩) n 10) (tens.take n) := by
  have hl : (tens.take n).length = n := by rw [List.length_take]; show min n 10 = n; omega
  refine ⟨N, 0, ⟨by rw [hl]; unfold big; omega, _, 10, by rw [hl], by rw [hl]; exact hn, fun _ => rfl⟩, fun j hj => ?_⟩
  rw [hl] at hj
  rw [List.getElem_take]
  refine memOf_of ?_ hN
  rw [Nat.zero_add, blk_cell hb]
  have : j = 0 ∨ j = 1 ∨ j = 2 ∨ j = 3 ∨ j = 4 ∨ j = 5 ∨ j = 6 ∨ j = 7 ∨ j = 8 ∨ j = 9 := by omega
  rcases this with rfl | rfl | rfl | rfl | rfl | rfl | rfl | rfl | rfl | rfl <;> rfl
theorem bnd_run {wI w : World} {R b b2 gb : Nat} {dF dL dS v2 : Value} {d : Dat} (hu : Upd (fun _ => False) wI w) (hd : DatAt (fun a => wI.cell? a) d dF dL dS) (ht : Tab wI) (h2 : 2 < wI.heap.size)
    (hR : w.heap[R]? = some (.cells #[dF, dL, dS, .slice none 0 0] 37 (0, 0))) (hRW : wI.heap.size ≤ R)
    (hb : w.heap[b]? = some (.cells (nCells 3 tE tOuter tE 10 nilV (.slice (some ⟨b2, 0, none⟩) 1 1) nilV).toArray 52 (0, 0))) (hb2 : w.heap[b2]? = some (.cells (nCells 3 tE tInner tE 10 nilV v2 nilV).toArray 52 (0, 0))) (hbR : b ≠ R) (hb2R : b2 ≠ R)
    (c : ByteArray) (l : List Node) (hv : SliceOf v2 (txt c :: l).length gb 0) (hk : NodesAt (fun a => wI.cell? a) (txt c :: l) gb 0) :
    Calls Tryd.prog 16 #[.slice (some ⟨b, 0, none⟩) 1 1, .iface 29 (.pointer (some ⟨R, 0, none⟩)), .int .i64 0] w fun e w' => ∃ t f, e = .returned (.tuple #[.string t, .int .i64 f]) ∧ t.size ≤ 8192 ∧ Hid (t = bs (runF (recOps d) [bndNode c l] [] 0).1.1 ∧ f = (runF (recOps d) [bndNode c l] [] 0).1.2 ∧ Upd (fun _ => False) wI w') := by
  refine (run_at hu hd ht h2 hR hRW [bndNode c l] _ b 0 (litS 1 1 b (Nat.le_refl _) (by decide)) ?_ 0).mono ?_
  · refine nodes_one2 b2 0 0 0 hb hbR ⟨by decide, by decide, by decide⟩ (litS 1 1 b2 (Nat.le_refl _) (by decide)) ?_ nilS nodesAt_nil
    exact nodes_one2 gb 0 0 0 hb2 hb2R ⟨by decide, by decide, by decide⟩ hv (hk.mono (fun _ _ h => mem_later hu hRW h)) nilS nodesAt_nil
  · rintro e w' ⟨rfl, hu2⟩
    exact ⟨_, _, rfl, by rw [bs_size]; exact (okay_run _ _ _ _).1, Lib.hid ⟨rfl, rfl, hu2⟩⟩
theorem lit_node {w : World} (B : Nat) (hB : B ≤ w.heap.size) (c0 c1 c2 c3 c4 c5 c6 c7 : Value) : (w.alloc (.cells #[c0, c1, c2, c3, c4, c5, c6, c7] 52)).ownsRow B 52 8 (.slice (some ⟨w.heap.size, 0, none⟩) 1 1) 1 [c0, c1, c2, c3, c4, c5, c6, c7] :=
  ⟨rfl, .inr ⟨w.heap.size, 1, _, rfl, hB, World.alloc_heap_new w _, Nat.le_refl _, by unfold maxLen; omega, rfl, rfl⟩⟩
/-- a text in front of nodes that are copied -/
theorem txt_front {w1 w3 : World} {c : ByteArray} {l : List Node} {xs : List Value} {v2 : Value} {lb lo B : Nat} (hl : l.length ≤ 1048576) (hc : c.size ≤ 300) (g1 : w3.ownsRow B 52 8 v2 (1 + l.length) ([.int .i64 1, .string c, .string ⟨#[]⟩, .string ⟨#[]⟩, .int .i64 0, .slice none 0 0, .slice none 0 0, .slice none 0 0] ++ xs))
    (hu : Upd (fun _ => False) w1 w3) (hn : NodesAt (fun a => w1.cell? a) l lb lo) (hx : ∀ j, j < l.length * 8 → xs[j]? = w1.cell? ⟨lb, lo + j, none⟩) :
    ∃ va vc gb, v2 = .slice va (1 + l.length) vc ∧ SliceOf v2 (txt c :: l).length gb 0 ∧ NodesAt (fun a => w3.cell? a) (txt c :: l) gb 0 := by
  obtain ⟨gb, gs, _, gc⟩ := slice_of_row g1 (by unfold big; omega)
  obtain ⟨va, vc, hv, _, _, _⟩ := gs.shape
  refine ⟨va, vc, gb, hv, by rw [List.length_cons, Nat.add_comm]; exact gs, nodesAt_cons (nodeAt_of 0 0 0 0 0 0 (fun j hj => ?_) ⟨by show c.size ≤ big; unfold big; omega, by decide, by decide, by decide⟩ nilS strsAt_nil nilS nodesAt_nil nilS nodesAt_nil) ?_⟩
  · rw [Nat.zero_add]
    refine gc j _ ?_
    rw [List.getElem?_append_left (by simpa using hj)]
    exact List.getElem?_eq_getElem _
  · refine (hn.mono (fun _ _ h => hu.cell_some h (fun f => f))).move (fun j hj => ?_)
    obtain ⟨u, h1, _⟩ := hn.cells j hj
    have h1' : w1.cell? ⟨lb, lo + j, none⟩ = some u := h1
    show w3.cell? _ = w3.cell? _
    rw [hu.cell_some h1' (fun f => f)]
    refine gc (0 + 8 + j) u ?_
    rw [List.getElem?_append_right (by simp only [List.length_cons, List.length_nil]; omega)]
    simp only [List.length_cons, List.length_nil]
    rw [show 0 + 8 + j - (0 + 1 + 1 + 1 + 1 + 1 + 1 + 1 + 1) = j by omega, hx j hj, h1']
set_option maxRecDepth 100000 in
set_option maxHeartbeats 1000000 in
theorem bounded_walk {W : World} (ht : Tab W) (h2 : 2 < W.heap.size) {dF dL dS : Value} {d : Dat} (hd : DatAt (fun a => W.cell? a) d dF dL dS) (hll : d.lists.length ≤ 1048576) (l : List Node) (lv : Value) (lb lo : Nat)
    (hl1 : SliceOf lv l.length lb lo) (hl2 : NodesAt (fun a => W.cell? a) l lb lo) (hln : l.length ≤ 1048576) (s : ByteArray) (hs : s.size ≤ big) (z : Int) :
    Calls Tryd.prog 9 #[lv, .agg #[dF, dL, dS], .string s, .int .i64 z] W fun e w' => e = .returned (.bool true) ∧ Upd (fun _ => False) W w' := by
  obtain ⟨la, lc, rfl, _, _, _⟩ := hl1.shape
  obtain ⟨qb, qo, hq1, hq2⟩ := hd.l
  obtain ⟨qa, qc, rfl, hqa, _, _⟩ := hq1.shape
  obtain ⟨W0, HW0⟩ := named (W.alloc (.cells #[dF, .slice qa d.lists.length qc, dS] 27))
  have hu0 : Upd (fun _ => False) W W0 := by rw [HW0.out]; exact upd_box1 _ _
  have hB : W0.heap[W.heap.size]? = some (.cells #[dF, .slice qa d.lists.length qc, dS] 27 (0, 0)) := by rw [HW0.out]; exact World.alloc_heap_new _ _
  have ht0 := tab_upd ht hu0 h2 (fun f => f)
  have h20 : 2 < W0.heap.size := by have := hu0.size; omega
  obtain ⟨i0, hi, hz0, hz1, hz2⟩ := info_parts info50
  have HT := Lib.hid ht
  have HT0 := Lib.hid ht0
  have HD := Lib.hid hd
  have HBB := Lib.hid hB
  have HQ := Lib.hid (And.intro hq1 hq2)
  have HL := Lib.hid (And.intro hl1 hl2)
  clear ht0 ht hd hl2 hl1 hB hq1 hq2 hqa
  go_enter Tryd.func9, Tryd.ntmps9
  go_wp2_with fail
  rw [← HW0.out]
  refine (sane_any _ HT0.out h20).mono ?_
  rintro e w1 ⟨rfl, hu1⟩
  have hsz1 := hu1.size
  go_upto_region 3 with fail
  have hn : ∃ n : Nat, wrap64 (1 + max 0 (z.tmod 10)) = (n : Int) ∧ 1 ≤ n ∧ n ≤ 10 := by
    have h1 : z.tmod 10 < 10 := Int.tmod_lt_of_pos z (by decide)
    rw [IntWalk.wrap64_in _ (by omega)]
    exact ⟨(1 + max 0 (z.tmod 10)).toNat, by omega, by omega, by omega⟩
  obtain ⟨n, hn, hn1, hn10⟩ := hn
  rw [hn]
  clear hn
  go_upto_region 4 with fail
  obtain ⟨wA, HWA⟩ := named (w1.alloc (.cells #[.int .i64 1, .int .i64 2, .int .i64 3, .int .i64 4, .int .i64 5, .int .i64 6, .int .i64 7, .int .i64 8, .int .i64 9, .int .i64 10] 3))
  have huA : Upd (fun _ => False) w1 wA := by rw [HWA.out]; exact upd_box1 _ _
  have hbA : wA.heap[w1.heap.size]? = some (.cells #[.int .i64 1, .int .i64 2, .int .i64 3, .int .i64 4, .int .i64 5, .int .i64 6, .int .i64 7, .int .i64 8, .int .i64 9, .int .i64 10] 3 (0, 0)) := by rw [HWA.out]; exact World.alloc_heap_new _ _
  rw [← HWA.out]
  have hu01 := hu0.trans hu1 (fun _ f => f.elim)
  have hL0 : LHold W W.heap.size dF dS d.lists qa d.lists.length qc wA :=
    LHold.start (hu01.trans huA (fun _ f => f.elim)) ((huA.block _ (by have := blk_lt HBB.out; omega) (fun f => f)).trans ((hu1.block _ (blk_lt HBB.out) (fun f => f)).trans HBB.out)) HQ.out.1 HQ.out.2
  have hi0 : IntsM (memOf wA W.heap.size) (.slice (some ⟨w1.heap.size, 0, none⟩) n 10) (tens.take n) :=
    tens_at hbA (by have := blk_lt HBB.out; omega) hn10
  clear hbA huA hu01
  obtain ⟨c0, c1, c2, f1, hlB⟩ := hL0.cells
  obtain ⟨xs, x1, x2, qb', qo', x3⟩ := hL0.reads (.cells #[.int .i64 0, .string tOuter, .string ⟨#[]⟩, .slice (some ⟨w1.heap.size, 0, none⟩) n 10] 50)
  have HX := Lib.hid (And.intro x1 (And.intro x2 x3))
  have HMK := Lib.hid (lit_own (w := wA) (B := W.heap.size) hlB (.int .i64 0) (.string tOuter) (.string ⟨#[]⟩) (.slice (some ⟨w1.heap.size, 0, none⟩) n 10))
  have HLI := Lib.hid (And.intro hL0 hi0)
  clear x1 x2 x3 hL0 hi0
  go_wp2_with (first | (at_builtin; go_must (refine wpList_append_any _ rfl (.tmp 26) (.tmp 28) 24 rfl (W.heap.size + 1) 50 i0 _ 4 64 Tryd.underlying24 hi hz0 hz1 hz2 rfl (by decide) _ 1 _ rfl HMK.out _ _ _ _ _ rfl HX.out.1 HX.out.2.1 (by unfold maxLen; omega) (by omega) (by simp; omega) ?_; intro v2 w2 g1 g2 g3; obtain ⟨va, vc, rfl, hb2, hu2, hL2⟩ := HLI.out.1.push (Nat.le_refl _) (by unfold big; omega) 0 tOuter ⟨#[]⟩ _ _ HLI.out.2 HX.out.2.2 g1 g2; have HG := Lib.hid (And.intro hu2 hL2); have kb0 := blk_cell hb2 0; have kb1 := blk_cell hb2 1; have kb2 := blk_cell hb2 2; have kf1 := blk_free hb2 1; have hlB2 := blk_lt hb2; clear g1 g2 g3 hb2 hu2 hL2)))
  have HI2 : Hid (IntsM (memOf (w2.setCell ⟨W.heap.size, 1, none⟩ (.slice va (1 + d.lists.length) vc)) W.heap.size) (.slice (some ⟨w1.heap.size, 0, none⟩) n 10) (tens.take n)) := Lib.hid (HLI.out.2.mono (fun _ _ h => memOf_upd HG.out.1 (fun _ e => e) h))
  clear kb0 kb1 kb2 kf1 c0 c1 c2 f1
  go_loopw [11] (fun i wr => ∃ (j : Nat) (qa' : Option Addr) (m' qc' : Nat), j ≤ n ∧ i = .int .i64 ((j : Int) + 1) ∧ Hid (LHold W W.heap.size dF dS (bndL (tens.take n) d.lists j) qa' m' qc' wr ∧ IntsM (memOf wr W.heap.size) (.slice (some ⟨w1.heap.size, 0, none⟩) n 10) (tens.take n))) (fun i _ => n + 1 - (intOf i).toNat)
  case atStart => exact ⟨0, va, _, vc, Nat.zero_le _, by go_num, Lib.hid ⟨HG.out.2, HI2.out⟩⟩
  case round =>
    obtain ⟨j, qa', m', qc', hj, rfl, HK⟩ := hrel
    have hm : m' = (bndL (tens.take n) d.lists j).length := HK.out.1.len
    have hm2 := bndL_length (tens.take n) d.lists j
    have hmb : m' ≤ 1048700 := by omega
    have HM' := Lib.hid (show (bndL (tens.take n) d.lists j).length + 1 ≤ big by unfold big; omega)
    obtain ⟨c0, c1, c2, f1, hlB'⟩ := HK.out.1.cells
    clear hm hm2
    by_cases hlt : j < n
    · have hle : ((j : Nat) : Int) + 1 ≤ (n : Int) := by omega
      obtain ⟨xs', x1, x2, qb'', qo'', x3⟩ := HK.out.1.reads (.cells #[.int .i64 ((j : Int) + 1), .string tInner, .string ⟨#[]⟩, .slice (some ⟨w1.heap.size, 0, none⟩) n 10] 50)
      have HX2 := Lib.hid (And.intro x1 (And.intro x2 x3))
      have HMK2 := Lib.hid (lit_own (w := wr) (B := W.heap.size) hlB' (.int .i64 ((j : Int) + 1)) (.string tInner) (.string ⟨#[]⟩) (.slice (some ⟨w1.heap.size, 0, none⟩) n 10))
      clear x1 x2 x3
      go_wp2_with (first | (at_builtin; go_must (refine wpList_append_any _ rfl (.tmp 39) (.tmp 41) 24 rfl (W.heap.size + 1) 50 i0 _ 4 64 Tryd.underlying24 hi hz0 hz1 hz2 rfl (by decide) _ 1 _ rfl HMK2.out _ _ _ _ _ rfl HX2.out.1 HX2.out.2.1 (by unfold maxLen; omega) (by omega) (by simp; omega) ?_; intro v2 w3 g1 g2 g3; obtain ⟨va3, vc3, rfl, hb2, hu2, hL2⟩ := HK.out.1.push (Nat.le_refl _) HM'.out ((j : Int) + 1) tInner ⟨#[]⟩ _ _ HK.out.2 HX2.out.2.2 g1 g2; have HG3 := Lib.hid (And.intro hu2 hL2); have kb0 := blk_cell hb2 0; have kb1 := blk_cell hb2 1; have kb2 := blk_cell hb2 2; have kf1 := blk_free hb2 1; have hlB2 := blk_lt hb2; clear g1 g2 g3 hb2 hu2 hL2)))
      go_roundw
      case rel => exact ⟨j + 1, va3, _, vc3, by omega, by go_num, Lib.hid ⟨HG3.out.2, HK.out.2.mono (fun _ _ h => memOf_upd HG3.out.1 (fun _ e => e) h)⟩⟩
      case measure => simp [intOf]; omega
    · have hjn : j = n := by omega
      subst hjn
      go_wp2_with fail
      refine (cut_any _ _ (by omega) (by unfold big at hs; omega) _).mono ?_
      rintro e w' ⟨rfl, rfl⟩
      have hcs := cut_size s 300
      change (s.extract 0 (min (s.size : Int) 300).toNat).size ≤ 300 at hcs
      generalize s.extract 0 (min (s.size : Int) 300).toNat = c at *
      obtain ⟨i5, hi5, hz50, hz51, hz52⟩ := info_parts info52
      have hur := HK.out.1.upd
      have hnl := HL.out.2.mono (fun _ _ h => hur.cell_some h (fun f => f))
      obtain ⟨_, xs', x1, x2, x3⟩ := reads_nodes (w := wr.alloc (.cells #[.int .i64 1, .string c, .string ⟨#[]⟩, .string ⟨#[]⟩, .int .i64 0, .slice none 0 0, .slice none 0 0, .slice none 0 0] 52)) HL.out.1 (hnl.mono (fun _ _ h => (upd_box1 wr _).cell_some h (fun f => f)))
      have x4 : ∀ q, q < l.length * 8 → xs'[q]? = wr.cell? ⟨lb, lo + q, none⟩ := fun q hq => by
        obtain ⟨u, h1, _⟩ := hnl.cells q hq
        have h1' : wr.cell? ⟨lb, lo + q, none⟩ = some u := h1
        rw [x2 q hq, h1']
        exact (upd_box1 wr _).cell_some h1' (fun f => f)
      have HX2 := Lib.hid (And.intro x1 (And.intro x3 (And.intro x4 hnl)))
      have HMK2 := Lib.hid (lit_node (w := wr) wr.heap.size (Nat.le_refl _) (.int .i64 1) (.string c) (.string ⟨#[]⟩) (.string ⟨#[]⟩) (.int .i64 0) (.slice none 0 0) (.slice none 0 0) (.slice none 0 0))
      have hur2 := (hur.size)
      clear x1 x2 x3 x4 hnl hur
      go_wp2_with (first | (at_builtin; go_must (refine wpList_append_any _ rfl (.tmp 48) (.tmp 49) 22 rfl wr.heap.size 52 i5 _ 8 136 Tryd.underlying22 hi5 hz50 hz51 hz52 rfl (by decide) _ 1 _ rfl HMK2.out _ _ _ _ _ rfl HX2.out.1 HX2.out.2.1 (by unfold maxLen; omega) (by omega) (by simp) ?_; intro v2 w3 g1 g2 g3; have hu3 : Upd (fun _ => False) wr w3 := (upd_box1 wr _).grown (row := some wr.heap.size) g2 (fun k e => .inr (by injection e with e; omega)); obtain ⟨va, vc, gb, rfl, hv1, hv2⟩ := txt_front hln hcs g1 hu3 HX2.out.2.2.2 HX2.out.2.2.1; have HG := Lib.hid (And.intro hu3 (And.intro hv1 hv2)); clear g1 g2 g3 hu3 hv1 hv2)))
      obtain ⟨wI, HWI⟩ := named (w3.alloc (.cells #[.int .i64 3, .string ⟨#[]⟩, .string ⟨#[105, 110, 110, 101, 114]⟩, .string ⟨#[]⟩, .int .i64 10, .slice none 0 0, .slice va (1 + l.length) vc, .slice none 0 0] 52))
      have huI : Upd (fun _ => False) w3 wI := by rw [HWI.out]; exact upd_box1 _ _
      have hbI : wI.heap[w3.heap.size]? = some (.cells #[.int .i64 3, .string ⟨#[]⟩, .string ⟨#[105, 110, 110, 101, 114]⟩, .string ⟨#[]⟩, .int .i64 10, .slice none 0 0, .slice va (1 + l.length) vc, .slice none 0 0] 52 (0, 0)) := by rw [HWI.out]; exact World.alloc_heap_new _ _
      have hLI := (HK.out.1.keep (HG.out.1)).keep huI
      have hdI := hLI.dat HD.out
      have htI := tab_upd HT.out hLI.upd h2 (fun f => f)
      have h2I : 2 < wI.heap.size := by have := hLI.upd.size; omega
      have hkI := HG.out.2.2.mono (fun _ _ h => huI.cell_some h (fun f => f))
      have hSt : ∀ W', Upd (fun _ => False) wI W' → (W'.cell? ⟨W.heap.size, 0, none⟩ = some dF ∧ W'.cell? ⟨W.heap.size, 1, none⟩ = some (.slice qa' m' qc') ∧ W'.cell? ⟨W.heap.size, 2, none⟩ = some dS) ∧
          (W'.cell? ⟨w3.heap.size, 0, none⟩ = some (.int .i64 3) ∧ W'.cell? ⟨w3.heap.size, 1, none⟩ = some (.string ⟨#[]⟩) ∧ W'.cell? ⟨w3.heap.size, 2, none⟩ = some (.string ⟨#[105, 110, 110, 101, 114]⟩) ∧ W'.cell? ⟨w3.heap.size, 3, none⟩ = some (.string ⟨#[]⟩) ∧ W'.cell? ⟨w3.heap.size, 4, none⟩ = some (.int .i64 10) ∧ W'.cell? ⟨w3.heap.size, 5, none⟩ = some (.slice none 0 0) ∧ W'.cell? ⟨w3.heap.size, 6, none⟩ = some (.slice va (1 + l.length) vc) ∧ W'.cell? ⟨w3.heap.size, 7, none⟩ = some (.slice none 0 0)) := fun W' hu => by
        obtain ⟨a0, a1, a2, _, _⟩ := (hLI.keep hu).cells
        have hb' := (hu.block _ (blk_lt hbI) (fun f => f)).trans hbI
        exact ⟨⟨a0, a1, a2⟩, blk_cell hb' 0, blk_cell hb' 1, blk_cell hb' 2, blk_cell hb' 3, blk_cell hb' 4, blk_cell hb' 5, blk_cell hb' 6, blk_cell hb' 7⟩
      obtain ⟨⟨a0, a1, a2⟩, b0, b1, b2, b3, b4, b5, b6, b7⟩ := hSt wI (Upd.refl _ _)
      have HST := Lib.hid hSt
      have HDI := Lib.hid (And.intro hdI (And.intro htI (And.intro hkI hLI)))
      clear hSt hdI htI hkI hLI huI hbI c0 c1 c2 f1
      rw [← HWI.out]
      go_region_held3 (fun W' => (W'.cell? ⟨W.heap.size, 0, none⟩ = some dF ∧ W'.cell? ⟨W.heap.size, 1, none⟩ = some (.slice qa' m' qc') ∧ W'.cell? ⟨W.heap.size, 2, none⟩ = some dS) ∧
          (W'.cell? ⟨w3.heap.size, 0, none⟩ = some (.int .i64 3) ∧ W'.cell? ⟨w3.heap.size, 1, none⟩ = some (.string ⟨#[]⟩) ∧ W'.cell? ⟨w3.heap.size, 2, none⟩ = some (.string ⟨#[105, 110, 110, 101, 114]⟩) ∧ W'.cell? ⟨w3.heap.size, 3, none⟩ = some (.string ⟨#[]⟩) ∧ W'.cell? ⟨w3.heap.size, 4, none⟩ = some (.int .i64 10) ∧ W'.cell? ⟨w3.heap.size, 5, none⟩ = some (.slice none 0 0) ∧ W'.cell? ⟨w3.heap.size, 6, none⟩ = some (.slice va (1 + l.length) vc) ∧ W'.cell? ⟨w3.heap.size, 7, none⟩ = some (.slice none 0 0))) (exact HST.out _ (by repeat (first | exact Upd.refl _ _ | exact HR.out.2.2 | apply Upd.alloc0 | apply Upd.drew0)))
        (first
          | (go_at_call 15; refine (source_any _ _ _ _).mono ?_; rintro e w' ⟨rfl, rfl⟩)
          | (go_at_call 16; go_must (refine (bnd_run (wI := wI) (by repeat (first | exact Upd.refl _ _ | apply Upd.alloc0 | apply Upd.drew0)) HDI.out.1 HDI.out.2.1 h2I (by repeat (first | exact ag_new (by (try simp) <;> omega) | refine ag_old (by (try simp) <;> omega) ?_ | refine ag_drew ?_)) (by (try simp) <;> omega) (by repeat (first | exact ag_new (by (try simp) <;> omega) | refine ag_old (by (try simp) <;> omega) ?_ | refine ag_drew ?_)) (by repeat (first | exact ag_new (by (try simp) <;> omega) | refine ag_old (by (try simp) <;> omega) ?_ | refine ag_drew ?_)) (by (try simp) <;> omega) (by (try simp) <;> omega) c l HG.out.2.1 HDI.out.2.2.1).mono ?_); rintro e w' ⟨t, f, rfl, ht8, HR⟩))
      all_goals
        have hm1 : 0 ≤ ((j : Nat) : Int) * (j : Int) ∧ ((j : Nat) : Int) * (j : Int) ≤ 100 := by
          have : j * j ≤ 10 * 10 := Nat.mul_le_mul hn10 hn10
          refine ⟨by exact Int.mul_nonneg (by omega) (by omega), ?_⟩
          have h : ((j * j : Nat) : Int) ≤ 100 := by omega
          rwa [Int.natCast_mul] at h
        have hm2 : 0 ≤ ((j : Nat) : Int) * (j : Int) * ((c.size : Nat) : Int) ∧ ((j : Nat) : Int) * (j : Int) * ((c.size : Nat) : Int) ≤ 30000 := by
          have h1 : j * j ≤ 10 * 10 := Nat.mul_le_mul hn10 hn10
          have h2 : j * j * c.size ≤ 100 * 300 := Nat.mul_le_mul h1 hcs
          refine ⟨Int.mul_nonneg hm1.1 (by omega), ?_⟩
          have h : ((j * j * c.size : Nat) : Int) ≤ 30000 := by omega
          rwa [Int.natCast_mul, Int.natCast_mul] at h
        have hP := bnd_plain d j hn1 hn10 c hcs
        have hQ := okay_run (recOps { d with lists := bndL (tens.take j) d.lists j }) [bndNode c l] [] 0
        have hE : ((j * (j * c.size) : Nat) : Int) = ((j : Nat) : Int) * (j : Int) * ((c.size : Nat) : Int) := by rw [Int.natCast_mul, Int.natCast_mul, Int.mul_assoc]
        obtain ⟨ht, hf, hu⟩ := HR.out
        have hend : Upd (fun _ => False) W _ := HDI.out.2.2.2.upd.trans hu (fun _ f => f.elim)
        have HEND := Lib.hid hend
        have hor : f = 0 ∨ (t = ⟨#[]⟩ ∧ (f = 110 ∨ f = 111)) := by
          rw [ht, hf]
          rcases hQ.2.1 with h | h | h
          · exact .inl h
          · exact .inr ⟨by rw [hQ.2.2 (by omega)]; rfl, .inl h⟩
          · exact .inr ⟨by rw [hQ.2.2 (by omega)]; rfl, .inr h⟩
        have HOR := Lib.hid hor
        have HE := Lib.hid hE
        have HTF := Lib.hid (And.intro ht hf)
        have HPP := Lib.hid hP
        clear hP hQ hE ht hf hu hend hor a0 a1 a2 b0 b1 b2 b3 b4 b5 b6 b7
        obtain ⟨hm1a, hm1b⟩ := hm1
        obtain ⟨hm2a, hm2b⟩ := hm2
        by_cases hl0 : l = []
        · subst hl0
          by_cases hw : ((j : Nat) : Int) * (j : Int) * ((c.size : Nat) : Int) ≤ 8192
          · have hfin : f = 0 ∧ (t.size : Int) = ((j : Nat) : Int) * (j : Int) * ((c.size : Nat) : Int) := by
              obtain ⟨p1, p2⟩ := HPP.out.1 (by have := HE.out; omega)
              refine ⟨HTF.out.2.trans p1, ?_⟩
              rw [← HE.out, HTF.out.1, bs_size]
              exact congrArg Int.ofNat p2
            obtain ⟨rfl, hts⟩ := hfin
            have hb1 : ((t.size : Int) == ((j : Nat) : Int) * (j : Int) * ((c.size : Nat) : Int)) = true := by simpa using hts
            have hb2 : decide (((j : Nat) : Int) * (j : Int) * ((c.size : Nat) : Int) ≤ 8192) = true := by simpa using hw
            clear hts hw
            go_wp2_with fail
            go_ret
            exact ⟨rfl, HEND.out⟩
          · have hfin : f = 111 ∧ t = ⟨#[]⟩ := by
              have p := HPP.out.2 (by have := HE.out; omega)
              exact ⟨HTF.out.2.trans (congrArg Prod.snd p), HTF.out.1.trans (congrArg (fun x => bs x.1) p)⟩
            obtain ⟨rfl, rfl⟩ := hfin
            have hb2 : decide (((j : Nat) : Int) * (j : Int) * ((c.size : Nat) : Int) ≤ 8192) = false := by simpa using hw
            clear hw
            go_wp2_with fail
            go_ret
            exact ⟨rfl, HEND.out⟩
        · have hlz : ((l.length : Int) == 0) = false := by
            cases l with
            | nil => exact absurd rfl hl0
            | cons _ _ => simp; omega
          have ht8' : decide ((t.size : Int) ≤ 8192) = true := by simp; omega
          rcases HOR.out with rfl | ⟨rfl, rfl | rfl⟩
          all_goals
            clear hl0
            go_wp2_with fail
            go_ret
            exact ⟨rfl, HEND.out⟩
end Go.Proofs.YtlkaikopjjmneaaDoor

/-
  WHAT IS PROVED HERE: the walk of the statement EvalLoop: it returns true. Conditions: the arguments lie in memory; strconv's table.
-/
import Derived.Test.YtlkaikopjjmneaaDoorPrp
import Derived.Deep.RegionHeld3
namespace Go.Proofs.YtlkaikopjjmneaaDoor
open Go.RowKit

def tLoop : ByteArray := ⟨#[108, 111, 111, 112]⟩
def tArg : ByteArray := ⟨#[97, 114, 103]⟩
theorem loop_list (d : Dat) (ids : List Int) (h : ids.length ≤ 10) : listA { d with lists := (3, tLoop, tArg, ids) :: d.lists } 3 tLoop tArg 10 = ids := by
  unfold listA
  simp only [List.take_succ_cons, List.find?_cons, decide_true, Bool.and_self, Option.map_some, Option.getD_some]
  rw [List.take_of_length_le (by simp; omega), List.take_of_length_le (by omega)]

def okB (ops : Ops (List ACall)) (kids : List Node) (l : List Int) : Bool := l.all fun i => (runF ops kids [] i).1.2 == 0
theorem okB_iff (ops : Ops (List ACall)) (kids : List Node) (l : List Int) : okB ops kids l = true ↔ idsOk ops kids [] l := by
  unfold okB idsOk
  rw [List.all_eq_true]
  simp
theorem okB_snoc (ops : Ops (List ACall)) (kids : List Node) (l : List Int) (i : Int) : okB ops kids (l ++ [i]) = (okB ops kids l && ((runF ops kids [] i).1.2 == 0)) := by
  unfold okB
  rw [List.all_append]
  simp
theorem idsOut_snoc (ops : Ops (List ACall)) (kids : List Node) (l : List Int) (i : Int) : idsOut ops kids [] (l ++ [i]) = idsOut ops kids [] l ++ (runF ops kids [] i).1.1 := by
  unfold idsOut
  rw [List.flatMap_append]
  simp
theorem idsOut_len (ops : Ops (List ACall)) (kids : List Node) : ∀ l : List Int, (idsOut ops kids [] l).length ≤ 8192 * l.length
  | [] => Nat.zero_le _
  | i :: r => by
    have h1 := idsOut_len ops kids r
    have h2 := (okay_run ops kids [] i).1
    unfold idsOut at *
    rw [List.flatMap_cons, List.length_append, List.length_cons]
    omega
set_option maxRecDepth 100000 in
set_option maxHeartbeats 4000000 in
theorem loop_walk {W : World} (ht : Tab W) (h2 : 2 < W.heap.size) {dF dL dS : Value} {d : Dat} (hd : DatAt (fun a => W.cell? a) d dF dL dS) (hll : d.lists.length ≤ 1048576) (l m : List Node) (lv mv : Value) (lb lo mb mo : Nat)
    (hl1 : SliceOf lv l.length lb lo) (hl2 : NodesAt (fun a => W.cell? a) l lb lo) (hm1 : SliceOf mv m.length mb mo) (hm2 : NodesAt (fun a => W.cell? a) m mb mo) (ids : List Int) {iv : Value} (hids : IntsM (fun a => W.cell? a) iv ids) :
    Calls Tryd.prog 6 #[lv, mv, .agg #[dF, dL, dS], iv] W fun e w' => e = .returned (.bool true) ∧ Upd (fun _ => False) W w' := by
  obtain ⟨la, lc, rfl, _, _, _⟩ := hl1.shape
  obtain ⟨ma, mc, rfl, _, _, _⟩ := hm1.shape
  obtain ⟨qb, qo, hq1, hq2⟩ := hd.l
  obtain ⟨qa, qc, rfl, hqa, _, _⟩ := hq1.shape
  obtain ⟨ib, io, hi1, hi2⟩ := hids
  obtain ⟨ia, ic, rfl, hia, hib, hicap⟩ := hi1.shape
  obtain ⟨W0, HW0⟩ := named (W.alloc (.cells #[dF, .slice qa d.lists.length qc, dS] 27))
  have hu0 : Upd (fun _ => False) W W0 := by rw [HW0.out]; exact upd_box1 _ _
  have hB : W0.heap[W.heap.size]? = some (.cells #[dF, .slice qa d.lists.length qc, dS] 27 (0, 0)) := by rw [HW0.out]; exact World.alloc_heap_new _ _
  have ht0 := tab_upd ht hu0 h2 (fun f => f)
  have h20 : 2 < W0.heap.size := by have := hu0.size; omega
  obtain ⟨i0, hi, hz0, hz1, hz2⟩ := info_parts info50
  have hidl : ids.length ≤ 1099511627776 := hib
  have HT := Lib.hid ht
  have HT0 := Lib.hid ht0
  have HD := Lib.hid hd
  have HBB := Lib.hid hB
  have HQ := Lib.hid (And.intro hq1 hq2)
  have HI := Lib.hid (And.intro hi2 (And.intro hia hi1))
  have HL := Lib.hid (And.intro hl1 hl2)
  have HM := Lib.hid (And.intro hm1 hm2)
  clear ht0 ht hd hl2 hm2 hl1 hm1 hB hq1 hq2 hqa hi1 hi2 hia hib
  go_enter Tryd.func6, Tryd.ntmps6
  go_wp2_with fail
  rw [← HW0.out]
  refine (sane_any _ HT0.out h20).mono ?_
  rintro e w1 ⟨rfl, hu1⟩
  have hsz1 := hu1.size
  go_upto_region 3 with fail
  generalize hn : (min (ids.length : Int) 10).toNat = n
  have HN : Hid (n = (ids.take 10).length) := Lib.hid (by rw [← hn, List.length_take]; omega)
  have hn10 : n ≤ 10 := by omega
  clear hn
  have hu1a : ∀ o, Upd (fun _ => False) W0 (w1.alloc o) := fun o => hu1.alloc o
  have huW : ∀ o, Upd (fun _ => False) W (w1.alloc o) := fun o => hu0.trans (hu1a o) (fun _ f => f.elim)
  have hX : ∀ o, ∃ xs : List Value, Reads (w1.alloc o) (w1.alloc o).heap.size 4 qa d.lists.length xs ∧ (∀ j, j < d.lists.length * 4 → xs[j]? = W.cell? ⟨qb, qo + j, none⟩) ∧ ∀ u ∈ xs, u.oneCell' = true := fun o => by
    obtain ⟨_, xs, x1, x2, x3⟩ := reads_gen (w := w1.alloc o) (size := 4) (by decide) HQ.out.1 (fun j hj => by
      obtain ⟨u, h1, h2⟩ := HQ.out.2.cells j hj
      exact ⟨u, (huW o).cell_some h1 (fun f => f), h2⟩)
    refine ⟨xs, x1, fun j hj => ?_, x3⟩
    obtain ⟨u, h1, _⟩ := HQ.out.2.cells j hj
    have h1' : W.cell? ⟨qb, qo + j, none⟩ = some u := h1
    rw [x2 j hj, h1']
    exact (huW o).cell_some h1 (fun f => f)
  obtain ⟨xs, hx⟩ := hX (.cells #[.int .i64 3, .string tLoop, .string tArg, .slice ia n ic] 50)
  have HX := Lib.hid hx
  have HMK : Hid ((w1.alloc (.cells #[.int .i64 3, .string tLoop, .string tArg, .slice ia n ic] 50)).ownsRow W0.heap.size 50 4 (.slice (some ⟨w1.heap.size, 0, none⟩) 1 1) 1 [.int .i64 3, .string tLoop, .string tArg, .slice ia n ic]) :=
    Lib.hid ⟨rfl, .inr ⟨w1.heap.size, 1, _, rfl, hsz1, World.alloc_heap_new w1 _, Nat.le_refl _, by unfold maxLen; omega, rfl, rfl⟩⟩
  have h2arg : ∀ (v2 : Value) (w2 : World), w2.ownsRow W0.heap.size 50 4 v2 (1 + d.lists.length) ([.int .i64 3, .string tLoop, .string tArg, .slice ia n ic] ++ xs) → (w1.alloc (.cells #[.int .i64 3, .string tLoop, .string tArg, .slice ia n ic] 50)).grownBy w2 (some w1.heap.size) →
      Upd (fun _ => False) W0 w2 ∧ (w2.heap[W.heap.size]? = some (.cells #[dF, .slice qa d.lists.length qc, dS] 27 (0, 0))) ∧ ∃ va vc, v2 = .slice va (1 + d.lists.length) vc := by
    intro v2 w2 g1 g2
    have hu2 := (hu1a _).grown g2 (fun k e => .inr (by injection e with e; omega))
    refine ⟨hu2, (hu2.block _ (blk_lt HBB.out) (fun f => f)).trans HBB.out, ?_⟩
    rcases g1.2 with ⟨h1, h2⟩ | ⟨g, cap, cur, h1, _⟩
    · omega
    · exact ⟨_, cap, h1⟩
  have H2A := Lib.hid h2arg
  clear hX hx h2arg
  have hb1 := (hu1.block _ (blk_lt HBB.out) (fun f => f)).trans HBB.out
  have kz1 : w1.cell? ⟨W.heap.size, 1, none⟩ = some (.slice qa d.lists.length qc) := blk_cell hb1 1
  have hlz := blk_lt hb1
  clear hb1
  go_wp2_with (first | (at_builtin; go_must (refine wpList_append_any _ rfl (.tmp 27) (.tmp 29) 24 rfl W0.heap.size 50 i0 _ 4 64 Tryd.underlying24 hi hz0 hz1 hz2 rfl (by decide) _ 1 _ rfl HMK.out _ _ _ _ _ rfl HX.out.1 HX.out.2.2 (by unfold maxLen; omega) (by omega) (by simp; omega) ?_; intro v2 w2 g1 g2 g3; obtain ⟨hu2, hb2, va, vc, rfl⟩ := H2A.out v2 w2 g1 g2; have HG := Lib.hid (And.intro g1 (And.intro hb2 (And.intro g2 g3))); have kb0 := blk_cell hb2 0; have kb1 := blk_cell hb2 1; have kb2 := blk_cell hb2 2; have kf1 := blk_free hb2 1; have hlB := blk_lt hb2; clear g1 g2 g3 hb2)))
  have huB : Upd (fun _ => False) W (w2.setCell ⟨W.heap.size, 1, none⟩ (.slice va (1 + d.lists.length) vc)) := (hu0.trans hu2 (fun _ f => f.elim)).setCell (.inr (Nat.le_refl _)) _
  have hbB := heap_setCell_same w2 W.heap.size 1 _ _ (.slice va (1 + d.lists.length) vc) HG.out.2.1
  have hszB : (w2.setCell ⟨W.heap.size, 1, none⟩ (.slice va (1 + d.lists.length) vc)).heap.size = w2.heap.size := by simp [World.setCell]
  have hints : IntsM (fun a => (w2.setCell ⟨W.heap.size, 1, none⟩ (.slice va (1 + d.lists.length) vc)).cell? a) (.slice ia n ic) (ids.take 10) := by
    obtain ⟨i1, i2, i3⟩ := HI.out
    refine ⟨ib, io, ⟨by rw [← HN.out]; unfold big; omega, ia, ic, by rw [HN.out], by have hnl : n ≤ ids.length := (by rw [HN.out, List.length_take]; omega); rw [← HN.out]; have := i3.2; obtain ⟨_, _, e, hc, _⟩ := this; injection e with _ _ e3; omega, fun h0 => i2 (by rw [List.length_take] at h0; omega)⟩, fun j hj => ?_⟩
    rw [List.length_take] at hj
    rw [List.getElem_take]
    exact huB.cell_some (i1 j (by omega)) (fun f => f)
  have hdB : DatAt (fun a => (w2.setCell ⟨W.heap.size, 1, none⟩ (.slice va (1 + d.lists.length) vc)).cell? a) { d with lists := (3, tLoop, tArg, ids.take 10) :: d.lists } dF (.slice va (1 + d.lists.length) vc) dS := by
    obtain ⟨hf0, _, hs0⟩ := HD.out.mono (fun _ _ h => huB.cell_some h (fun f => f))
    have hrow := ownsRow_upd HG.out.1 ((Upd.refl (fun j => j = W.heap.size) w2).setCell (p := ⟨W.heap.size, 1, none⟩) (.inl rfl) (.slice va (1 + d.lists.length) vc)) (fun j hj e => by have := (World.ownsRow.lt HG.out.1 j hj).1; have := blk_lt HBB.out; omega)
    refine ⟨hf0, ?_, hs0⟩
    rcases hrow.2 with ⟨_, h0⟩ | ⟨g, cap, cur, hv, _, _, hcap, _, _, _⟩
    · omega
    have hcell : ∀ j u, ([.int .i64 3, .string tLoop, .string tArg, .slice ia n ic] ++ xs)[j]? = some u → (w2.setCell ⟨W.heap.size, 1, none⟩ (.slice va (1 + d.lists.length) vc)).cell? ⟨g, 0 + j, none⟩ = some u := fun j u hj => by
      have := World.ownsRow.cells hrow (g := g) (by rw [hv]; rfl) j u hj
      rwa [Addr.add_lit] at this
    refine ⟨g, 0, ⟨by simp only [List.length_cons]; unfold big; omega, _, cap, by rw [hv]; simp only [List.length_cons]; rw [Nat.add_comm], by simp only [List.length_cons]; omega, fun _ => rfl⟩, ?_⟩
    show ListsAt _ (_ :: _) _ _
    unfold ListsAt
    refine ⟨⟨hcell 0 _ rfl, hcell 1 _ rfl, hcell 2 _ rfl, _, hcell 3 _ rfl, hints⟩, ?_⟩
    have hl0 : ListsAt (fun a => (w2.setCell ⟨W.heap.size, 1, none⟩ (.slice va (1 + d.lists.length) vc)).cell? a) d.lists qb qo := HQ.out.2.mono (fun _ _ h => huB.cell_some h (fun f => f))
    refine hl0.move (fun j hj => ?_)
    obtain ⟨u, h1, _⟩ := HQ.out.2.cells j hj
    have h1' : W.cell? ⟨qb, qo + j, none⟩ = some u := h1
    have h2' := huB.cell_some h1' (fun f => f)
    show World.cell? _ _ = World.cell? _ _
    rw [h2']
    have := hcell (4 + j) u (by rw [List.getElem?_append_right (by simp)]; simp only [List.length_cons, List.length_nil]; rw [show 4 + j - (0 + 1 + 1 + 1 + 1) = j by omega, HX.out.2.1 j hj, h1'])
    rwa [← Nat.add_assoc] at this
  have htB := tab_upd HT.out huB h2 (fun f => f)
  have hlB2 : NodesAt (fun a => (w2.setCell ⟨W.heap.size, 1, none⟩ (.slice va (1 + d.lists.length) vc)).cell? a) l lb lo := HL.out.2.mono (fun _ _ h => huB.cell_some h (fun f => f))
  have hmB2 : NodesAt (fun a => (w2.setCell ⟨W.heap.size, 1, none⟩ (.slice va (1 + d.lists.length) vc)).cell? a) m mb mo := HM.out.2.mono (fun _ _ h => huB.cell_some h (fun f => f))
  have HE := Lib.hid (And.intro huB (And.intro hbB (And.intro hdB (And.intro htB (And.intro hlB2 (And.intro hmB2 hints))))))
  clear huB hbB hdB htB hlB2 hmB2 hints
  go_wp2_with fail
  refine (source_any _ _ _ _).mono ?_
  rintro e w4 ⟨rfl, rfl⟩
  go_wp2_with fail
  obtain ⟨huB, hbB, hdB, htB, hlB2, hmB2, hints⟩ := HE.out
  have h2B : 2 < (w2.setCell ⟨W.heap.size, 1, none⟩ (.slice va (1 + d.lists.length) vc)).heap.size := by rw [hszB]; omega
  refine (run_at (W := w2.setCell ⟨W.heap.size, 1, none⟩ (.slice va (1 + d.lists.length) vc)) (R := w2.heap.size + 2) (by repeat (first | exact Upd.refl _ _ | apply Upd.alloc0)) hdB htB h2B (by repeat (first | exact ag_new (by (try simp) <;> omega) | refine ag_old (by (try simp) <;> omega) ?_)) (by rw [hszB]; omega) [.mk 3 ⟨#[]⟩ tLoop tArg 10 [] l m] _ w2.heap.size 0 (litS 1 1 w2.heap.size (Nat.le_refl _) (by decide))
    (nodes_one2 lb lo mb mo (by repeat (first | exact ag_new (by (try simp) <;> omega) | refine ag_old (by (try simp) <;> omega) ?_)) (by omega) ⟨by decide, by decide, by decide⟩ HL.out.1 ?_ HM.out.1 ?_) 3).mono ?_
  · exact hlB2.mono (fun _ _ h => mem_later (by repeat (first | exact Upd.refl _ _ | apply Upd.alloc0)) (by rw [hszB]; omega) h)
  · exact hmB2.mono (fun _ _ h => mem_later (by repeat (first | exact Upd.refl _ _ | apply Upd.alloc0)) (by rw [hszB]; omega) h)
  rintro e w5 ⟨rfl, hu5⟩
  clear HE
  generalize w2.setCell ⟨W.heap.size, 1, none⟩ (.slice va (1 + d.lists.length) vc) = WB at *
  have hpl := loop_plain l (h := rec_plain { d with lists := (3, tLoop, tArg, ids.take 10) :: d.lists }) (src := []) m tLoop tArg 10 3 (ids.take 10) (loop_list d _ (by rw [List.length_take]; omega)) _ rfl
  generalize hd' : ({ d with lists := (3, tLoop, tArg, ids.take 10) :: d.lists } : Dat) = d' at *
  have hra := (okay_run (recOps d') [.mk 3 ⟨#[]⟩ tLoop tArg 10 [] l m] [] 3).1
  generalize runF (recOps d') [.mk 3 ⟨#[]⟩ tLoop tArg 10 [] l m] [] 3 = r1 at *
  obtain ⟨⟨ra, rb⟩, rs⟩ := r1
  generalize hids : ids.take 10 = ids' at *
  have hcell : ∀ k (h : k < ids'.length), WB.cell? ⟨ib, io + k, none⟩ = some (.int .i64 ids'[k]) ∧ ia = some ⟨ib, io, none⟩ := fun k h => by
    obtain ⟨i1, i2, i3⟩ := HI.out
    have hkl : k < ids.length := by rw [← hids, List.length_take] at h; omega
    refine ⟨?_, i2 (by omega)⟩
    have := huB.cell_some (i1 k hkl) (fun f => f)
    rw [this]
    subst hids
    rw [List.getElem_take]
  have HC := Lib.hid hcell
  have hpl2 : (rb = 0 → (if ids' = [] then (runF (recOps d') m [] 3).1.2 = 0 else idsOk (recOps d') l [] ids') ∧ bs ra = bs (if ids' = [] then (runF (recOps d') m [] 3).1.1 else idsOut (recOps d') l [] ids')) ∧
      (rb ≠ 0 → bs ra = ⟨#[]⟩ ∧ (¬ (if ids' = [] then (runF (recOps d') m [] 3).1.2 = 0 else idsOk (recOps d') l [] ids') ∨ rb = 111)) :=
    ⟨fun h => ⟨(hpl.1 h).1, congrArg bs (hpl.1 h).2⟩, fun h => ⟨(congrArg bs (hpl.2 h).1 : bs ra = bs []), (hpl.2 h).2⟩⟩
  generalize bs ra = S at *
  have HPL := Lib.hid hpl2
  clear hpl2
  have HDB := Lib.hid (And.intro hdB (And.intro htB (And.intro hlB2 (And.intro hmB2 (And.intro hbB huB)))))
  have HU5 := Lib.hid hu5
  have hs5 := hu5.size
  have hSt : ∀ W', Upd (fun _ => False) WB W' → W'.cell? ⟨W.heap.size, 0, none⟩ = some dF ∧ W'.cell? ⟨W.heap.size, 1, none⟩ = some (.slice va (1 + d.lists.length) vc) ∧ W'.cell? ⟨W.heap.size, 2, none⟩ = some dS := fun W' hu => by
    have hb' := (hu.block _ (blk_lt hbB) (fun f => f)).trans hbB
    exact ⟨blk_cell hb' 0, blk_cell hb' 1, blk_cell hb' 2⟩
  have HST := Lib.hid hSt
  clear hpl hdB htB hlB2 hmB2 hints hbB huB hu5 kb0 kb1 kb2 kf1 HG H2A HMK HX hcell hSt hids hd'
  go_wp2_with fail
  go_loopw [14, 12, 13] (fun i want ok wr => ∃ (k : Nat) (ws : ByteArray) (okv : Bool), k ≤ n ∧ i = .int .i64 k ∧ want = .string ws ∧ ok = .bool okv ∧ ws.size ≤ 8192 * k ∧ Hid (ws = bs (idsOut (recOps d') l [] (ids'.take k)) ∧ okv = okB (recOps d') l (ids'.take k) ∧ Upd (fun _ => False) WB wr)) (fun i _ _ _ => n - (intOf i).toNat)
  case atStart => exact ⟨0, ⟨#[]⟩, true, Nat.zero_le _, rfl, rfl, rfl, Nat.zero_le _, Lib.hid ⟨rfl, rfl, HU5.out⟩⟩
  case round =>
    obtain ⟨k, ws, okv, hk, rfl, rfl, rfl, hws, HK⟩ := hrel
    by_cases hlt : k < n
    · have hk' : k < ids'.length := by rw [← HN.out]; exact hlt
      obtain ⟨_, hia⟩ := HC.out k hk'
      subst hia
      have hTS : ∀ W', Upd (fun _ => False) WB W' → (W'.cell? ⟨W.heap.size, 0, none⟩ = some dF ∧ W'.cell? ⟨W.heap.size, 1, none⟩ = some (.slice va (1 + d.lists.length) vc) ∧ W'.cell? ⟨W.heap.size, 2, none⟩ = some dS) ∧ W'.cell? ⟨ib, io + k, none⟩ = some (.int .i64 ids'[k]) := fun W' hu =>
        ⟨HST.out W' hu, hu.cell_some (HC.out k hk').1 (fun f => f)⟩
      obtain ⟨⟨c0, c1, c2⟩, c3⟩ := hTS wr HK.out.2.2
      have HTS := Lib.hid hTS
      have hsn : ids'.take (k + 1) = ids'.take k ++ [ids'[k]] := by rw [List.take_succ_eq_append_getElem hk']
      have HSN := Lib.hid hsn
      generalize ids'[k] = x at *
      clear hTS hsn
      go_wp2_with fail
      go_region_held3 (fun W' => (W'.cell? ⟨W.heap.size, 0, none⟩ = some dF ∧ W'.cell? ⟨W.heap.size, 1, none⟩ = some (.slice va (1 + d.lists.length) vc) ∧ W'.cell? ⟨W.heap.size, 2, none⟩ = some dS) ∧ W'.cell? ⟨ib, io + k, none⟩ = some (.int .i64 x)) (exact HTS.out _ (by repeat (first | exact HK.out.2.2 | exact HR.out.2.2 | apply Upd.alloc0 | apply Upd.drew0)))
        (first
          | (go_at_call 15; refine (source_any _ _ _ _).mono ?_; rintro e w' ⟨rfl, rfl⟩)
          | (go_at_call 16; go_must (refine (run_hid (W := WB) (by repeat (first | exact HK.out.2.2 | apply Upd.alloc0 | apply Upd.drew0)) HDB.out.1 HDB.out.2.1 h2B (by repeat (first | exact ag_new (by (try simp) <;> omega) | refine ag_old (by (try simp) <;> omega) ?_ | refine ag_drew ?_)) (by have := HK.out.2.2.size; (try simp) <;> omega) l _ lb lo HL.out.1 HDB.out.2.2.1 _).mono ?_); rintro e w' ⟨t, f, rfl, ht8, HR⟩))
      clear c0 c1 c2 c3
      have hsz : (ws ++ t).size ≤ 8192 * (k + 1) := by rw [ByteArray.size_append]; omega
      have hrel' : (ws ++ t) = bs (idsOut (recOps d') l [] (ids'.take (k + 1))) ∧ (okv && (f == 0)) = okB (recOps d') l (ids'.take (k + 1)) := by
        rw [HSN.out, okB_snoc, idsOut_snoc, bs_append, ← HK.out.1, ← HK.out.2.1, ← HR.out.1, ← HR.out.2.1]
        exact ⟨rfl, rfl⟩
      have HRL := Lib.hid (And.intro hsz hrel')
      clear hsz hrel'
      cases okv with
      | false =>
        go_wp2_with fail
        go_roundw
        case rel => exact ⟨k + 1, ws ++ t, false, by omega, by go_num, rfl, rfl, HRL.out.1, Lib.hid ⟨HRL.out.2.1, HRL.out.2.2, (by repeat (first | exact HR.out.2.2 | apply Upd.alloc0 | apply Upd.drew0))⟩⟩
        case measure => simp [intOf]; omega
      | true =>
        go_wp2_with fail
        go_roundw
        case rel => exact ⟨k + 1, ws ++ t, (f == 0), by omega, by go_num, rfl, rfl, HRL.out.1, Lib.hid ⟨HRL.out.2.1, by have := HRL.out.2.2; simpa using this, (by repeat (first | exact HR.out.2.2 | apply Upd.alloc0 | apply Upd.drew0))⟩⟩
        case measure => simp [intOf]; omega
    · have hkn : k = n := by omega
      have htk : ids'.take k = ids' := by rw [hkn, HN.out, List.take_length]
      obtain ⟨hw, hok, hur⟩ := HK.out
      rw [htk] at hw hok
      obtain ⟨c0, c1, c2⟩ := HST.out wr hur
      have hbr := (hur.block _ (blk_lt HDB.out.2.2.2.2.1) (fun f => f)).trans HDB.out.2.2.2.2.1
      have hendr : Upd (fun _ => False) W wr := HDB.out.2.2.2.2.2.trans hur (fun _ f => f.elim)
      have HUR := Lib.hid (And.intro hur hendr)
      have hsr := hur.size
      have HW := Lib.hid hw
      have HOK := Lib.hid hok
      clear hw hok hur hbr hendr htk HK
      subst hkn
      by_cases hn0 : k = 0
      · have hnil : ids' = [] := List.eq_nil_of_length_eq_zero (by rw [← HN.out]; exact hn0)
        have hP := HPL.out
        simp only [if_pos hnil] at hP
        have HP := Lib.hid hP
        clear hP HPL
        subst hn0
        go_wp2_with fail
        refine (source_any _ _ _ _).mono ?_
        rintro e w6 ⟨rfl, rfl⟩
        go_wp2_with fail
        refine (run_hid (W := WB) (R := wr.heap.size + 1) ((HUR.out.1.alloc _).alloc _) HDB.out.1 HDB.out.2.1 h2B (ag_new (by simp)) (by omega) m _ mb mo HM.out.1 HDB.out.2.2.2.1 3).mono ?_
        rintro e w7 ⟨t, f, rfl, ht8, HR⟩
        have hend : Upd (fun _ => False) W w7 := HDB.out.2.2.2.2.2.trans HR.out.2.2 (fun _ f => f.elim)
        have HEND := Lib.hid hend
        have HQ2 : Hid ((rb = 0 → f = 0 ∧ S = t) ∧ (rb ≠ 0 → S = ⟨#[]⟩ ∧ (¬ f = 0 ∨ rb = 111))) := Lib.hid (by
          obtain ⟨h1, h2, _⟩ := HR.out
          obtain ⟨p1, p2⟩ := HP.out
          rw [← h2] at p1 p2
          rw [← h1] at p1
          exact ⟨p1, p2⟩)
        clear hend HP c0 c1 c2
        by_cases h0 : rb = 0
        · obtain ⟨rfl, rfl⟩ := HQ2.out.1 h0
          subst h0
          go_wp2_with fail
          go_ret
          exact ⟨rfl, HEND.out⟩
        · obtain ⟨rfl, hor⟩ := HQ2.out.2 h0
          have e1 : (rb != 0) = true := by simpa using h0
          by_cases hf : f = 0
          · have e4 : (rb == 111) = true := by
              rcases hor with h | h
              · exact absurd hf h
              · simpa using h
            clear h0 hor HQ2
            subst hf
            go_wp2_with fail
            go_ret
            exact ⟨rfl, HEND.out⟩
          · have e2 : (f == 0) = false := by simpa using hf
            clear h0 hor HQ2 hf
            go_wp2_with fail
            go_ret
            exact ⟨rfl, HEND.out⟩
      · have hnnil : ¬ ids' = [] := fun h => hn0 (by rw [HN.out, h]; rfl)
        have hP := HPL.out
        simp only [if_neg hnnil] at hP
        rw [← okB_iff, ← HOK.out, ← HW.out] at hP
        have HP := Lib.hid hP
        have hz : ((k : Int) == 0) = false := by simp; omega
        clear hP HPL hnnil
        by_cases h0 : rb = 0
        · obtain ⟨rfl, rfl⟩ := HP.out.1 h0
          subst h0
          go_wp2_with fail
          go_ret
          exact ⟨rfl, HUR.out.2⟩
        · obtain ⟨rfl, hor⟩ := HP.out.2 h0
          have e1 : (rb != 0) = true := by simpa using h0
          cases okv with
          | false =>
            clear h0 hor HP
            go_wp2_with fail
            go_ret
            exact ⟨rfl, HUR.out.2⟩
          | true =>
            have e4 : (rb == 111) = true := by
              rcases hor with h | h
              · exact absurd rfl h
              · simpa using h
            clear h0 hor HP
            go_wp2_with fail
            go_ret
            exact ⟨rfl, HUR.out.2⟩
end Go.Proofs.YtlkaikopjjmneaaDoor

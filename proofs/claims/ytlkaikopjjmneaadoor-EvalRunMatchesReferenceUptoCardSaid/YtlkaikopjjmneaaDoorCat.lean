/-
  WHAT IS PROVED HERE: the walk of the statement EvalConcatenation: it returns true. Conditions: the arguments lie in memory; strconv's table.
-/
import Derived.Test.YtlkaikopjjmneaaDoorLaw0
import Derived.Outline
import Derived.Deep.DeepMust
namespace Go.Proofs.YtlkaikopjjmneaaDoor
open Go.RowKit

theorem info52 : (Tryd.prog.info? 52).map (fun i => (i.zero, i.size, i.bytes)) = some (some (.agg #[.int .i64 0, .string ⟨#[]⟩, .string ⟨#[]⟩, .string ⟨#[]⟩, .int .i64 0, .slice none 0 0, .slice none 0 0, .slice none 0 0]), 8, 136) := by kernel_rfl
theorem evD_append {S : Type} (ops : Ops S) (d : Nat) (id : Int) (m : List Node) : ∀ (l : List Node) (st : St S), evD ops d (l ++ m) id st = andThen (evD ops d l id st) (evD ops d m id)
  | [], st => by rw [evD_eq ops d, evList, ← evD_eq]; rfl
  | n :: r, st => by
    rw [List.cons_append, evD_cons, evD_cons]
    by_cases h : 2000 ≤ st.steps
    · rw [if_pos h, if_pos h]; rfl
    · rw [if_neg h, if_neg h]
      generalize evNode ops (incF ops d) n id { st with steps := st.steps + 1 } = x
      by_cases h0 : x.1 = 0
      · rw [if_pos h0, if_pos h0]; exact evD_append ops d id m r x.2
      · rw [if_neg h0, if_neg h0]; unfold andThen; rw [if_neg h0]
theorem conc_plain {S : Type} {ops : Ops S} (h : Plain ops) (l m : List Node) (src : S) (id : Int) :
    ((runF ops (l ++ m) src id).1.2 = 0 → (runF ops l src id).1.2 = 0 ∧ (runF ops m src id).1.2 = 0 ∧ (runF ops (l ++ m) src id).1.1 = (runF ops l src id).1.1 ++ (runF ops m src id).1.1) ∧
    ((runF ops (l ++ m) src id).1.2 ≠ 0 → (runF ops (l ++ m) src id).1.1 = [] ∧ ((runF ops l src id).1.2 ≠ 0 ∨ (runF ops m src id).1.2 ≠ 0 ∨ (runF ops (l ++ m) src id).1.2 = 111)) := by
  have hs := sim_start h m id src (evD ops 3 l id { out := [], steps := 0, src := src }).2
  generalize hM : runF ops m src id = M at *
  unfold runF
  rw [evD_append]
  unfold andThen
  generalize evD ops 3 l id { out := [], steps := 0, src := src } = x at *
  by_cases h0 : x.1 = 0
  · simp only [h0, if_true]
    generalize evD ops 3 m id x.2 = y at *
    by_cases h1 : y.1 = 0
    · simp only [h1, if_true]
      rcases hs with hs | ⟨k1, k2⟩
      · rw [h1] at hs; exact absurd hs (by decide)
      · exact ⟨fun _ => ⟨trivial, k1.symm.trans h1, k2 h1⟩, fun z => absurd rfl z⟩
    · simp only [if_neg h1]
      refine ⟨fun z => absurd z h1, fun _ => ⟨trivial, ?_⟩⟩
      rcases hs with hs | ⟨k1, k2⟩
      · exact .inr (.inr hs)
      · exact .inr (.inl (by rw [← k1]; exact h1))
  · simp only [if_neg h0]
    exact ⟨fun z => absurd z h0, fun _ => ⟨trivial, .inl h0⟩⟩
theorem bs_append (a b : List UInt8) : bs (a ++ b) = bs a ++ bs b := by
  apply str_ext
  rw [append_list, bs_list, bs_list, bs_list]
theorem slice_of_row {w : World} {B n : Nat} {v : Value} {xs : List Value} (h : w.ownsRow B 52 8 v n xs) (hn : n ≤ big) : ∃ b, SliceOf v n b 0 ∧ (0 < n → v.ownBlock = some b) ∧ ∀ j u, xs[j]? = some u → w.cell? ⟨b, j, none⟩ = some u := by
  have hlen := h.1
  rcases h.2 with ⟨rfl, h0⟩ | ⟨g, cap, cur, rfl, hb, hg, hc, _, _, _⟩
  · subst h0
    refine ⟨0, nilS, fun h => absurd h (by omega), fun j u hj => ?_⟩
    have : xs = [] := List.eq_nil_of_length_eq_zero (by omega)
    subst this; simp at hj
  · refine ⟨g, ⟨hn, _, cap, rfl, hc, fun _ => rfl⟩, fun _ => rfl, fun j u hj => ?_⟩
    have := World.ownsRow.cells h (g := g) rfl j u hj
    rwa [Addr.add_lit, Nat.zero_add] at this

set_option maxRecDepth 100000 in
set_option maxHeartbeats 4000000 in
theorem conc_walk {W : World} (ht : Tab W) (h2 : 2 < W.heap.size) {dF dL dS : Value} {d : Dat} (hd : DatAt (fun a => W.cell? a) d dF dL dS) (l m : List Node) (lv mv : Value) (lb lo mb mo : Nat)
    (hl1 : SliceOf lv l.length lb lo) (hl2 : NodesAt (fun a => W.cell? a) l lb lo) (hm1 : SliceOf mv m.length mb mo) (hm2 : NodesAt (fun a => W.cell? a) m mb mo) (id : Int) (hll : l.length ≤ 1048576) (hml : m.length ≤ 1048576) :
    Calls Tryd.prog 5 #[lv, mv, .agg #[dF, dL, dS], .int .i64 id] W fun e w' => e = .returned (.bool true) ∧ Upd (fun _ => False) W w' := by
  obtain ⟨la, lc, rfl, _, _, _⟩ := hl1.shape
  obtain ⟨ma, mc, rfl, _, _, _⟩ := hm1.shape
  obtain ⟨W0, HW0⟩ := named (W.alloc (.cells #[dF, dL, dS] 27))
  have hu0 : Upd (fun _ => False) W W0 := by rw [HW0.out]; exact upd_box1 _ _
  have hB : W0.heap[W.heap.size]? = some (.cells #[dF, dL, dS] 27 (0, 0)) := by rw [HW0.out]; exact World.alloc_heap_new _ _
  have ht0 := tab_upd ht hu0 h2 (fun f => f)
  have h20 : 2 < W0.heap.size := by have := hu0.size; omega
  have hlift : ∀ a v, W.cell? a = some v → W0.cell? a = some v := fun a v h => hu0.cell_some h (fun f => f)
  have hd0 : DatAt (fun a => W0.cell? a) d dF dL dS := hd.mono hlift
  have hl20 : NodesAt (fun a => W0.cell? a) l lb lo := hl2.mono hlift
  have hm20 : NodesAt (fun a => W0.cell? a) m mb mo := hm2.mono hlift
  obtain ⟨i0, hi, hz0, hz1, hz2⟩ := info_parts info52
  have HT := Lib.hid ht0
  have HD := Lib.hid hd0
  have HBB := Lib.hid hB
  have HL := Lib.hid (And.intro hl1 hl20)
  have HM := Lib.hid (And.intro hm1 hm20)
  clear ht0 ht hd hd0 hl2 hl20 hm2 hm20 hl1 hm1 hlift hB
  go_enter Tryd.func5, Tryd.ntmps5
  go_wp2_with fail
  rw [← HW0.out]
  refine (sane_any _ HT.out h20).mono ?_
  rintro e w1 ⟨rfl, hu1⟩
  have hsz1 := hu1.size
  have HMK : Hid ((w1.alloc (.cells #[] 52)).ownsRow w1.heap.size 52 8 (.slice (some ⟨w1.heap.size, 0, none⟩) 0 0) 0 []) := Lib.hid ⟨rfl, .inr ⟨w1.heap.size, 0, #[], rfl, Nat.le_refl _, World.alloc_heap_new w1 _, Nat.le_refl _, Nat.zero_le _, rfl, rfl⟩⟩
  have hu1a : Upd (fun _ => False) W0 (w1.alloc (.cells #[] 52)) := hu1.alloc _
  obtain ⟨_, xs, hx1, hx2, hx3⟩ := reads_nodes HL.out.1 (HL.out.2.mono (fun _ _ h => hu1a.cell_some h (fun f => f)))
  have HX := Lib.hid (And.intro hx1 (And.intro hx2 hx3))
  clear hx1 hx2 hx3
  have h1arg : ∀ (v2 : Value) (w2 : World), w2.ownsRow w1.heap.size 52 8 v2 (0 + l.length) ([] ++ xs) → (w1.alloc (.cells #[] 52)).grownBy w2 (some w1.heap.size) → (v2.ownBlock = some w1.heap.size ∨ v2.ownBlock = some (w1.alloc (.cells #[] 52)).heap.size) →
      Upd (fun _ => False) W0 w2 ∧ (∀ k, v2.ownBlock = some k → W0.heap.size ≤ k) ∧ w1.heap.size ≤ w2.heap.size ∧ ∃ ys, Reads w2 w2.heap.size 8 ma m.length ys ∧ (∀ j, j < m.length * 8 → ys[j]? = w2.cell? ⟨mb, mo + j, none⟩) ∧ ∀ u ∈ ys, u.oneCell' = true := by
    intro v2 w2 g1 g2 g3
    have hu2 := hu1a.grown g2 (fun k e => .inr (by injection e with e; omega))
    refine ⟨hu2, fun k hk => ?_, by have := g2.size; simp at this; omega, ?_⟩
    · rcases g3 with e | e
      · rw [hk] at e; injection e with e; omega
      · rw [hk] at e; injection e with e; simp at e; omega
    · obtain ⟨_, ys, y1, y2, y3⟩ := reads_nodes HM.out.1 (HM.out.2.mono (fun _ _ h => hu2.cell_some h (fun f => f)))
      exact ⟨ys, y1, y2, y3⟩
  have h2arg : ∀ (v2 v3 : Value) (w2 w3 : World) (ys : List Value), Upd (fun _ => False) W0 w2 → (∀ k, v2.ownBlock = some k → W0.heap.size ≤ k) → w3.ownsRow w1.heap.size 52 8 v3 (0 + l.length + m.length) (([] ++ xs) ++ ys) → w2.grownBy w3 v2.ownBlock →
      Upd (fun _ => False) W0 w3 ∧ (w3.cell? ⟨W.heap.size, 0, none⟩ = some dF ∧ w3.cell? ⟨W.heap.size, 1, none⟩ = some dL ∧ w3.cell? ⟨W.heap.size, 2, none⟩ = some dS) ∧ W.heap.size < w3.heap.size ∧ (∃ va vc, v3 = .slice va (0 + l.length + m.length) vc) ∧
      ∃ gb, SliceOf v3 (0 + l.length + m.length) gb 0 ∧ (∀ k, v3.ownBlock = some k → W0.heap.size ≤ k ∧ k < w3.heap.size) ∧ (0 < 0 + l.length + m.length → v3.ownBlock = some gb) ∧ ∀ j u, (([] ++ xs) ++ ys)[j]? = some u → w3.cell? ⟨gb, j, none⟩ = some u := by
    intro v2 v3 w2 w3 ys q1 q2 g1 g2
    have hu3 : Upd (fun _ => False) W0 w3 := q1.grown g2 (fun k e => .inr (q2 k e))
    obtain ⟨gb, gs, go, gc⟩ := slice_of_row g1 (by unfold big; omega)
    obtain ⟨va, vc, hv, _, _, _⟩ := gs.shape
    have hb3 := (hu3.block _ (blk_lt HBB.out) (fun f => f)).trans HBB.out
    exact ⟨hu3, ⟨blk_cell hb3 0, blk_cell hb3 1, blk_cell hb3 2⟩, blk_lt hb3, ⟨va, vc, hv⟩, gb, gs, fun k hk => by have := World.ownsRow.lt g1 k hk; omega, go, gc⟩
  have H2A := Lib.hid h2arg
  have H1A := Lib.hid h1arg
  clear h1arg h2arg
  go_wp2_with (first
    | (at_builtin; refine wpList_append_any _ rfl (.tmp 18) (.tmp 19) 22 rfl w1.heap.size 52 i0 _ 8 136 Tryd.underlying22 hi hz0 hz1 hz2 rfl (by decide) _ 0 [] rfl HMK.out _ _ _ _ _ rfl HX.out.1 HX.out.2.2 (by unfold maxLen; omega) (by omega) (by simp) ?_; intro v2 w2 g1 g2 g3; obtain ⟨q1, q2, q3, ys, y1, y2⟩ := H1A.out v2 w2 g1 g2 g3; have HG := Lib.hid (And.intro g1 (And.intro q2 (And.intro y1 y2))); clear g1 g2 g3 q2 y1 y2)
    | (at_builtin; go_must (refine wpList_append_any _ rfl (.tmp 20) (.tmp 21) 22 rfl w1.heap.size 52 i0 _ 8 136 Tryd.underlying22 hi hz0 hz1 hz2 rfl (by decide) _ (0 + l.length) _ rfl HG.out.1 _ _ _ _ _ rfl HG.out.2.2.1 HG.out.2.2.2.2 (by unfold maxLen; omega) (by omega) q3 ?_); intro v3 w3 g1 g2 g3; obtain ⟨hu3, ⟨k0, k1, k2⟩, hlt3, ⟨va, vc, rfl⟩, gb, gs⟩ := H2A.out v2 v3 w2 w3 ys q1 HG.out.2.1 g1 g2; have HS := Lib.hid gs; clear g1 g2 g3 gs))
  refine (source_any _ _ _ _).mono ?_
  rintro e w4 ⟨rfl, rfl⟩
  have hu4 : Upd (fun _ => False) W0 ((w3.alloc (.cells #[dF, dL, dS] 27)).alloc (.cells #[dF, dL, dS, .slice none 0 0] 37)) := (hu3.alloc _).alloc _
  have hR4 : ((w3.alloc (.cells #[dF, dL, dS] 27)).alloc (.cells #[dF, dL, dS, .slice none 0 0] 37)).heap[w3.heap.size + 1]? = some (.cells #[dF, dL, dS, .slice none 0 0] 37 (0, 0)) := ag_new (by simp)
  have hs3 := hu3.size
  have hn4 : NodesAt (memOf ((w3.alloc (.cells #[dF, dL, dS] 27)).alloc (.cells #[dF, dL, dS, .slice none 0 0] 37)) (w3.heap.size + 1)) (l ++ m) gb 0 := by
    obtain ⟨gs, gown, gpos, gc⟩ := HS.out
    have hW0 : ∀ a v, W0.cell? a = some v → memOf ((w3.alloc (.cells #[dF, dL, dS] 27)).alloc (.cells #[dF, dL, dS, .slice none 0 0] 37)) (w3.heap.size + 1) a = some v := fun a v h => mem_later hu4 (by omega) h
    have hxl : ([] ++ xs).length = l.length * 8 := HX.out.1.1
    have hyl : ys.length = m.length * 8 := HG.out.2.2.1.1
    have hnew : ∀ j u, (([] ++ xs) ++ ys)[j]? = some u → memOf ((w3.alloc (.cells #[dF, dL, dS] 27)).alloc (.cells #[dF, dL, dS, .slice none 0 0] 37)) (w3.heap.size + 1) ⟨gb, j, none⟩ = some u := fun j u hj => by
      have hjl := (List.getElem?_eq_some_iff.1 hj).1
      rw [List.length_append, hxl, hyl] at hjl
      have hg := (gown gb (gpos (by omega))).2
      refine memOf_of ?_ (by show gb ≠ _; omega)
      have hu34 : Upd (fun _ => False) w3 ((w3.alloc (.cells #[dF, dL, dS] 27)).alloc (.cells #[dF, dL, dS, .slice none 0 0] 37)) := ((Upd.refl _ _).alloc _).alloc _
      exact hu34.cell_some (gc j u hj) (fun f => f)
    refine NodesAt.append ((HL.out.2.mono hW0).move (fun j hj => ?_)) ((HM.out.2.mono hW0).move (fun j hj => ?_))
    · obtain ⟨u, h1, _⟩ := HL.out.2.cells j hj
      rw [hW0 _ _ h1, Nat.zero_add]
      refine hnew j u ?_
      rw [List.getElem?_append_left (by omega), List.nil_append, HX.out.2.1 j hj]
      exact hu1a.cell_some h1 (fun f => f)
    · obtain ⟨u, h1, _⟩ := HM.out.2.cells j hj
      rw [hW0 _ _ h1, Nat.zero_add]
      refine hnew _ u ?_
      rw [List.getElem?_append_right (by omega), hxl, show l.length * 8 + j - l.length * 8 = j by omega, HG.out.2.2.2.1 j hj]
      exact q1.cell_some h1 (fun f => f)
  have hsl4 : SliceOf (.slice va (l.length + m.length) vc) (l ++ m).length gb 0 := by
    have := HS.out.1
    rw [Nat.zero_add] at this
    rw [List.length_append]
    exact this
  have HN := Lib.hid (And.intro hsl4 (And.intro hn4 (And.intro hu4 hR4)))
  clear hsl4 hn4 hu4 hR4
  go_wp2_with fail
  go_must (refine (run_at HN.out.2.2.1 HD.out HT.out h20 HN.out.2.2.2 (by omega) (l ++ m) _ gb 0 HN.out.1 HN.out.2.1 id).mono ?_)
  rintro e w5 ⟨rfl, hu5⟩
  generalize hS : bs (runF (recOps d) (l ++ m) [] id).1.1 = S
  generalize he : (runF (recOps d) (l ++ m) [] id).1.2 = ec
  have HSE := Lib.hid (And.intro hS he)
  have hb5 := (hu5.block _ (blk_lt HBB.out) (fun f => f)).trans HBB.out
  have k50 : w5.cell? ⟨W.heap.size, 0, none⟩ = some dF := blk_cell hb5 0
  have k51 : w5.cell? ⟨W.heap.size, 1, none⟩ = some dL := blk_cell hb5 1
  have k52 : w5.cell? ⟨W.heap.size, 2, none⟩ = some dS := blk_cell hb5 2
  clear hS he k0 k1 k2 hb5
  go_wp2_with fail
  refine (source_any _ _ _ _).mono ?_
  rintro e w6 ⟨rfl, rfl⟩
  go_wp2_with fail
  have hu6 : Upd (fun _ => False) W0 ((w5.alloc (.cells #[dF, dL, dS] 27)).alloc (.cells #[dF, dL, dS, .slice none 0 0] 37)) := (hu5.alloc _).alloc _
  have hs5 := hu5.size
  refine (run_arg hu6 HD.out HT.out h20 (ag_new (by simp)) (by omega) l _ lb lo HL.out.1 HL.out.2 id).mono ?_
  rintro e w7 ⟨rfl, hu7⟩
  generalize hS : bs (runF (recOps d) l [] id).1.1 = T
  generalize he : (runF (recOps d) l [] id).1.2 = fc
  have HTF := Lib.hid (And.intro hS he)
  have hb7 := (hu7.block _ (blk_lt HBB.out) (fun f => f)).trans HBB.out
  have k70 : w7.cell? ⟨W.heap.size, 0, none⟩ = some dF := blk_cell hb7 0
  have k71 : w7.cell? ⟨W.heap.size, 1, none⟩ = some dL := blk_cell hb7 1
  have k72 : w7.cell? ⟨W.heap.size, 2, none⟩ = some dS := blk_cell hb7 2
  clear hS he k50 k51 k52 hb7 hu6
  go_wp2_with fail
  refine (source_any _ _ _ _).mono ?_
  rintro e w8 ⟨rfl, rfl⟩
  go_wp2_with fail
  have hu8 : Upd (fun _ => False) W0 ((w7.alloc (.cells #[dF, dL, dS] 27)).alloc (.cells #[dF, dL, dS, .slice none 0 0] 37)) := (hu7.alloc _).alloc _
  have hs7 := hu7.size
  refine (run_arg hu8 HD.out HT.out h20 (ag_new (by simp)) (by omega) m _ mb mo HM.out.1 HM.out.2 id).mono ?_
  rintro e w9 ⟨rfl, hu9⟩
  generalize hS : bs (runF (recOps d) m [] id).1.1 = U
  generalize he : (runF (recOps d) m [] id).1.2 = gc
  have HPL : Hid ((ec = 0 → fc = 0 ∧ gc = 0 ∧ S = T ++ U) ∧ (ec ≠ 0 → S = ⟨#[]⟩ ∧ (fc ≠ 0 ∨ gc ≠ 0 ∨ ec = 111))) := Lib.hid (by
    obtain ⟨p1, p2⟩ := conc_plain (rec_plain d) l m [] id
    obtain ⟨a1, a2⟩ := HSE.out
    obtain ⟨b1, b2⟩ := HTF.out
    rw [a2, b2, he] at p1 p2
    refine ⟨fun h => ?_, fun h => ?_⟩
    · obtain ⟨q1, q2, q3⟩ := p1 h
      exact ⟨q1, q2, by rw [← a1, ← b1, ← hS, q3, bs_append]⟩
    · obtain ⟨q1, q2⟩ := p2 h
      exact ⟨by rw [← a1, q1]; rfl, q2⟩)
  have hT : T.size ≤ 8192 := by rw [← HTF.out.1, bs_size]; exact (okay_run _ _ _ _).1
  have hU : U.size ≤ 8192 := by rw [← hS, bs_size]; exact (okay_run _ _ _ _).1
  have hend : Upd (fun _ => False) W w9 := hu0.trans hu9 (fun _ f => f.elim)
  clear hS he k70 k71 k72 hu8 HSE HTF HN
  by_cases h0 : ec = 0
  · subst h0
    obtain ⟨rfl, rfl, rfl⟩ := HPL.out.1 rfl
    go_wp2_with fail
    go_ret
    exact ⟨rfl, hend⟩
  · obtain ⟨rfl, hor⟩ := HPL.out.2 h0
    have e1 : (ec != 0) = true := by simpa using h0
    by_cases hf : fc = 0
    · by_cases hg : gc = 0
      · have e2 : (fc != 0) = false := by simpa using hf
        have e3 : (gc != 0) = false := by simpa using hg
        have e4 : (ec == 111) = true := by
          rcases hor with h | h | h
          · exact absurd hf h
          · exact absurd hg h
          · simpa using h
        clear h0 hf hg hor
        go_wp2_with fail
        go_ret
        exact ⟨rfl, hend⟩
      · have e2 : (fc != 0) = false := by simpa using hf
        have e3 : (gc != 0) = true := by simpa using hg
        clear h0 hf hg hor
        go_wp2_with fail
        go_ret
        exact ⟨rfl, hend⟩
    · have e2 : (fc != 0) = true := by simpa using hf
      clear h0 hf hor
      go_wp2_with fail
      go_ret
      exact ⟨rfl, hend⟩
end Go.Proofs.YtlkaikopjjmneaaDoor

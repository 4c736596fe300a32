/-
  WHAT IS PROVED HERE: a law returns true and leaves its arguments as they were, for all arguments (16 texts joined). Conditions: those of the card.
-/
import Derived.Test.YtgbihmafmmeicaaGreatDoorBn5
import Derived.Laws.MakeOwn
/-
  WHAT IS PROVED HERE: the reference's Same at two equal facts, SameList at two equal lists: true. No condition but that the facts lie in memory.
-/
namespace Go.Proofs.YtgbihmafmmeicaaGreatDoor
open Go.RowKit Mg Go.Shelf

set_option maxRecDepth 100000 in
set_option maxHeartbeats 8000000 in
theorem rsame_any {mem : Addr → Option Value} (e1 e2 : FctE) (h1 : e1.ok mem) (h2 : e2.ok mem) (he : e1.f = e2.f) (w : World) (hs : Sees mem w) :
    Calls Tryz.prog 41 #[.agg e1.cells, .agg e2.cells] w fun e w' => e = .returned (.bool true) ∧ Below w.heap.size w w' := by
  obtain ⟨f, ta, tc, ba, bc, aa, ac⟩ := e1
  obtain ⟨f', ta2, tc2, ba2, bc2, aa2, ac2⟩ := e2
  obtain rfl : f = f' := he
  have hp : Parts mem f (.slice ta f.topics.length tc) (.slice ba f.blocks.length bc) (.slice aa f.lab.after.length ac) := h1.parts
  have hq : Parts mem f (.slice ta2 f.topics.length tc2) (.slice ba2 f.blocks.length bc2) (.slice aa2 f.lab.after.length ac2) := h2.parts
  have HS := Lib.hid hs
  obtain ⟨ta', tc', tb, tq, et, htc, htm, hta, hts, htt⟩ := hp.1.open_ (w := w) hs
  obtain ⟨ta2', tc2', tb2, tq2, et2, htc2, htm2, hta2, hts2, htt2⟩ := hq.1.open_ (w := w) hs
  injection et with et1 et2' et3
  subst et1 et3
  injection et2 with eu1 eu2 eu3
  subst eu1 eu3
  have H2 : Hid (∀ W, Sees mem W → Calls Tryz.prog 56 #[.slice ba f.blocks.length bc, .slice ba2 f.blocks.length bc2] W fun e w' => e = .returned (.bool true) ∧ Below W.heap.size W w') := Lib.hid fun W hW => by
    have h := sameListR_any hp.2.1 hq.2.1 W hW
    rwa [decide_eq_true rfl] at h
  have H3 : Hid (∀ W, Sees mem W → Calls Tryz.prog 26 #[.agg (labCells f.lab (.slice aa f.lab.after.length ac)), .agg (labCells f.lab (.slice aa2 f.lab.after.length ac2))] W fun e w' => e = .returned (.bool true) ∧ Below W.heap.size W w') := Lib.hid fun W hW => by
    have h := labSameR_any f.lab f.lab _ _ hp.2.2 hq.2.2 W hW
    rwa [decide_eq_true rfl] at h
  have HTA := Lib.hid (And.intro hta hta2)
  have HTT := Lib.hid (And.intro htt htt2)
  have htl : (f.topics.length : Int) ≤ 9223372036854775807 := by unfold maxLen at htm; omega
  have HN1 := Lib.hid (heap_new1 w (.cells (⟨f, ta, tc, ba, bc, aa, ac⟩ : FctE).cells 45) (.cells (⟨f, ta2, tc2, ba2, bc2, aa2, ac2⟩ : FctE).cells 45))
  have HN2 := Lib.hid (heap_new2 w (.cells (⟨f, ta, tc, ba, bc, aa, ac⟩ : FctE).cells 45) (.cells (⟨f, ta2, tc2, ba2, bc2, aa2, ac2⟩ : FctE).cells 45))
  have HB : Hid (Below w.heap.size w ((w.alloc (.cells (⟨f, ta, tc, ba, bc, aa, ac⟩ : FctE).cells 45)).alloc (.cells (⟨f, ta2, tc2, ba2, bc2, aa2, ac2⟩ : FctE).cells 45))) := Lib.hid (((Below.refl _ w).alloc (Nat.le_refl _) _).alloc (by simp) _)
  clear hp hq hs h1 h2 hta hta2 htt htt2 htc htm htc2 htm2 hts hts2 et2' eu2
  go_enter Tryz.func41, Tryz.ntmps41
  go_upto_region 1 with fail
  generalize hW1 : World.alloc (World.alloc w _) _ = W1 at *
  clear hW1
  have d9 : W1.cell? ⟨w.heap.size, 9, none⟩ = some (.slice ta f.topics.length tc) := blk_cell HN1.out 9
  have k9 : W1.cell? ⟨w.heap.size + 1, 9, none⟩ = some (.slice ta2 f.topics.length tc2) := blk_cell HN2.out 9
  go_wp2_with fail
  clear d9 k9
  go_loopw [5] (fun i wr => ∃ k : Nat, k ≤ f.topics.length ∧ i = .int .i64 k ∧ Below W1.heap.size W1 wr) (fun i _ => f.topics.length - (intOf i).toNat)
  case atStart => exact ⟨0, Nat.zero_le _, rfl, Below.refl _ _⟩
  case round =>
    obtain ⟨k, hk, rfl, hb⟩ := hrel
    obtain ⟨wo, rfl⟩ : ∃ wo, wo = wr := ⟨_, rfl⟩
    have hg1 := (hb.block _ (Go.Proofs.YtgbihmafmmeicaaGreatDoor.hlt HN1.out)).trans HN1.out
    have hg2 := (hb.block _ (Go.Proofs.YtgbihmafmmeicaaGreatDoor.hlt HN2.out)).trans HN2.out
    have HBW := Lib.hid hb
    have HG := Lib.hid (And.intro hg1 hg2)
    have d9 : wo.cell? ⟨w.heap.size, 9, none⟩ = some (.slice ta f.topics.length tc) := blk_cell hg1 9
    have k9 : wo.cell? ⟨w.heap.size + 1, 9, none⟩ = some (.slice ta2 f.topics.length tc2) := blk_cell hg2 9
    by_cases hlt : k < f.topics.length
    · obtain rfl := HTA.out.1 (by omega)
      obtain rfl := HTA.out.2 (by omega)
      have hbw := HB.out.trans (hb.mono HB.out.size)
      have c1 := (hbw.cell (World.block_lt_of_cell? _ _ (HTT.out.1 k hlt))).trans (HTT.out.1 k hlt)
      have c2 := (hbw.cell (World.block_lt_of_cell? _ _ (HTT.out.2 k hlt))).trans (HTT.out.2 k hlt)
      have hkl : (k : Int) < f.topics.length := by omega
      generalize f.topics[k] = s at c1 c2
      have HSS : Hid (wo.drew.cell? ⟨w.heap.size, 9, none⟩ = some (.slice (some ⟨tb, tq, none⟩) f.topics.length tc) ∧ wo.drew.cell? ⟨w.heap.size + 1, 9, none⟩ = some (.slice (some ⟨tb2, tq2, none⟩) f.topics.length tc2) ∧ wo.drew.cell? ⟨tb, tq + k, none⟩ = some (.string s) ∧ wo.drew.cell? ⟨tb2, tq2 + k, none⟩ = some (.string s)) := Lib.hid ⟨d9, k9, c1, c2⟩
      clear hb hg1 hg2 hbw c1 c2
      go_upto_region 6 with fail
      clear d9 k9
      refine wp_mix [mT, mT, mT, mT, mT, mT, mT, mT, mT, mT, mF] 1000 (fun W2 => W2.cell? ⟨w.heap.size, 9, none⟩ = some (.slice (some ⟨tb, tq, none⟩) f.topics.length tc) ∧ W2.cell? ⟨w.heap.size + 1, 9, none⟩ = some (.slice (some ⟨tb2, tq2, none⟩) f.topics.length tc2) ∧ W2.cell? ⟨tb, tq + k, none⟩ = some (.string s) ∧ W2.cell? ⟨tb2, tq2 + k, none⟩ = some (.string s)) (by kernel_rfl) (by kernel_rfl) HSS.out ?_
      refine wpMix_take (.pointer (some ⟨w.heap.size, 9, none⟩)) (fun _ _ _ _ h => h) HSS.out (by rfl) (fun W2 hW => by go_simp) ?_
      simp only [Act.put, List.setIfInBounds_toArray, List.set_cons_zero, List.set_cons_succ]
      refine wpMix_take (.slice (some ⟨tb, tq, none⟩) f.topics.length tc) (fun _ _ _ _ h => h) HSS.out (by rfl) (fun W2 hW => by have q0 := hW.1; go_simp) ?_
      simp only [Act.put, List.setIfInBounds_toArray, List.set_cons_zero, List.set_cons_succ]
      refine wpMix_take (.int .i64 k) (fun _ _ _ _ h => h) HSS.out (by rfl) (fun W2 hW => by go_simp) ?_
      simp only [Act.put, List.setIfInBounds_toArray, List.set_cons_zero, List.set_cons_succ]
      refine wpMix_take (.pointer (some ⟨tb, tq + k, none⟩)) (fun _ _ _ _ h => h) HSS.out (by rfl) (fun W2 hW => by go_simp) ?_
      simp only [Act.put, List.setIfInBounds_toArray, List.set_cons_zero, List.set_cons_succ]
      refine wpMix_take (.string s) (fun _ _ _ _ h => h) HSS.out (by rfl) (fun W2 hW => by have q0 := hW.2.2.1; go_simp) ?_
      simp only [Act.put, List.setIfInBounds_toArray, List.set_cons_zero, List.set_cons_succ]
      refine wpMix_take (.pointer (some ⟨w.heap.size + 1, 9, none⟩)) (fun _ _ _ _ h => h) HSS.out (by rfl) (fun W2 hW => by go_simp) ?_
      simp only [Act.put, List.setIfInBounds_toArray, List.set_cons_zero, List.set_cons_succ]
      refine wpMix_take (.slice (some ⟨tb2, tq2, none⟩) f.topics.length tc2) (fun _ _ _ _ h => h) HSS.out (by rfl) (fun W2 hW => by have q0 := hW.2.1; go_simp) ?_
      simp only [Act.put, List.setIfInBounds_toArray, List.set_cons_zero, List.set_cons_succ]
      refine wpMix_take (.int .i64 k) (fun _ _ _ _ h => h) HSS.out (by rfl) (fun W2 hW => by go_simp) ?_
      simp only [Act.put, List.setIfInBounds_toArray, List.set_cons_zero, List.set_cons_succ]
      refine wpMix_take (.pointer (some ⟨tb2, tq2 + k, none⟩)) (fun _ _ _ _ h => h) HSS.out (by rfl) (fun W2 hW => by go_simp) ?_
      simp only [Act.put, List.setIfInBounds_toArray, List.set_cons_zero, List.set_cons_succ]
      refine wpMix_take (.string s) (fun _ _ _ _ h => h) HSS.out (by rfl) (fun W2 hW => by have q0 := hW.2.2.2; go_simp) ?_
      simp only [Act.put, List.setIfInBounds_toArray, List.set_cons_zero, List.set_cons_succ]
      refine wpMix_step (fun K hK => ?_); go_simp; refine hK _ _ HSS.out ?_; clear hK K
      refine wpMix_nil ?_
      go_wp2_with fail
      go_roundw
      case rel => exact ⟨k + 1, by omega, by go_num, HBW.out.drew⟩
      case measure => simp [intOf]; omega
    · have HBw := Lib.hid (HB.out.trans (hb.mono HB.out.size))
      clear hb hg1 hg2
      go_upto_region 8 with fail
      have d10 : wo.cell? ⟨w.heap.size, 10, none⟩ = some (.slice ba f.blocks.length bc) := blk_cell HG.out.1 10
      have k10 : wo.cell? ⟨w.heap.size + 1, 10, none⟩ = some (.slice ba2 f.blocks.length bc2) := blk_cell HG.out.2 10
      clear d9 k9 hk hlt
      go_wp2_with fail
      refine (H2.out _ (HS.out.bel HBw.out)).mono ?_
      rintro e w2 ⟨rfl, hb⟩
      clear d10 k10
      have hg1 := (hb.block _ (Go.Proofs.YtgbihmafmmeicaaGreatDoor.hlt HG.out.1)).trans HG.out.1
      have hg2 := (hb.block _ (Go.Proofs.YtgbihmafmmeicaaGreatDoor.hlt HG.out.2)).trans HG.out.2
      have HG2 := Lib.hid (And.intro hg1 hg2)
      have HB2 := Lib.hid (HBw.out.trans (hb.mono HBw.out.size))
      have d11 : w2.cell? ⟨w.heap.size, 11, none⟩ = some (.int .i64 f.lab.till) := blk_cell hg1 11
      have d12 : w2.cell? ⟨w.heap.size, 12, none⟩ = some (.slice aa f.lab.after.length ac) := blk_cell hg1 12
      have d13 : w2.cell? ⟨w.heap.size, 13, none⟩ = some (.int .i64 f.lab.appr) := blk_cell hg1 13
      have d14 : w2.cell? ⟨w.heap.size, 14, none⟩ = some (.int .i64 f.lab.denied) := blk_cell hg1 14
      have k11 : w2.cell? ⟨w.heap.size + 1, 11, none⟩ = some (.int .i64 f.lab.till) := blk_cell hg2 11
      have k12 : w2.cell? ⟨w.heap.size + 1, 12, none⟩ = some (.slice aa2 f.lab.after.length ac2) := blk_cell hg2 12
      have k13 : w2.cell? ⟨w.heap.size + 1, 13, none⟩ = some (.int .i64 f.lab.appr) := blk_cell hg2 13
      have k14 : w2.cell? ⟨w.heap.size + 1, 14, none⟩ = some (.int .i64 f.lab.denied) := blk_cell hg2 14
      clear hb hg1 hg2 HG HBw
      go_wp2_with fail
      refine (H3.out _ (HS.out.bel HB2.out)).mono ?_
      rintro e w3 ⟨rfl, hb⟩
      clear d11 d12 d13 d14 k11 k12 k13 k14
      have hg1 := (hb.block _ (Go.Proofs.YtgbihmafmmeicaaGreatDoor.hlt HG2.out.1)).trans HG2.out.1
      have hg2 := (hb.block _ (Go.Proofs.YtgbihmafmmeicaaGreatDoor.hlt HG2.out.2)).trans HG2.out.2
      have HB3 := Lib.hid (HB2.out.trans (hb.mono HB2.out.size))
      have d0 : w3.cell? ⟨w.heap.size, 0, none⟩ = some (.int .i64 f.n) := blk_cell hg1 0
      have k0 : w3.cell? ⟨w.heap.size + 1, 0, none⟩ = some (.int .i64 f.n) := blk_cell hg2 0
      have d1 : w3.cell? ⟨w.heap.size, 1, none⟩ = some (.int .i64 f.time) := blk_cell hg1 1
      have k1 : w3.cell? ⟨w.heap.size + 1, 1, none⟩ = some (.int .i64 f.time) := blk_cell hg2 1
      have d2 : w3.cell? ⟨w.heap.size, 2, none⟩ = some (.int .i64 f.kind) := blk_cell hg1 2
      have k2 : w3.cell? ⟨w.heap.size + 1, 2, none⟩ = some (.int .i64 f.kind) := blk_cell hg2 2
      have d3 : w3.cell? ⟨w.heap.size, 3, none⟩ = some (.int .i64 f.story) := blk_cell hg1 3
      have k3 : w3.cell? ⟨w.heap.size + 1, 3, none⟩ = some (.int .i64 f.story) := blk_cell hg2 3
      have d4 : w3.cell? ⟨w.heap.size, 4, none⟩ = some (.string f.lang) := blk_cell hg1 4
      have k4 : w3.cell? ⟨w.heap.size + 1, 4, none⟩ = some (.string f.lang) := blk_cell hg2 4
      have d5 : w3.cell? ⟨w.heap.size, 5, none⟩ = some (.int .i64 f.rev) := blk_cell hg1 5
      have k5 : w3.cell? ⟨w.heap.size + 1, 5, none⟩ = some (.int .i64 f.rev) := blk_cell hg2 5
      have d6 : w3.cell? ⟨w.heap.size, 6, none⟩ = some (.int .i64 f.base) := blk_cell hg1 6
      have k6 : w3.cell? ⟨w.heap.size + 1, 6, none⟩ = some (.int .i64 f.base) := blk_cell hg2 6
      have d7 : w3.cell? ⟨w.heap.size, 7, none⟩ = some (.string f.title) := blk_cell hg1 7
      have k7 : w3.cell? ⟨w.heap.size + 1, 7, none⟩ = some (.string f.title) := blk_cell hg2 7
      have d8 : w3.cell? ⟨w.heap.size, 8, none⟩ = some (.string f.author) := blk_cell hg1 8
      have k8 : w3.cell? ⟨w.heap.size + 1, 8, none⟩ = some (.string f.author) := blk_cell hg2 8
      have d15 : w3.cell? ⟨w.heap.size, 15, none⟩ = some (.int .i64 f.editor) := blk_cell hg1 15
      have k15 : w3.cell? ⟨w.heap.size + 1, 15, none⟩ = some (.int .i64 f.editor) := blk_cell hg2 15
      have d16 : w3.cell? ⟨w.heap.size, 16, none⟩ = some (.int .i64 f.block) := blk_cell hg1 16
      have k16 : w3.cell? ⟨w.heap.size + 1, 16, none⟩ = some (.int .i64 f.block) := blk_cell hg2 16
      have d17 : w3.cell? ⟨w.heap.size, 17, none⟩ = some (.int .i64 f.sentence) := blk_cell hg1 17
      have k17 : w3.cell? ⟨w.heap.size + 1, 17, none⟩ = some (.int .i64 f.sentence) := blk_cell hg2 17
      have d18 : w3.cell? ⟨w.heap.size, 18, none⟩ = some (.string f.text) := blk_cell hg1 18
      have k18 : w3.cell? ⟨w.heap.size + 1, 18, none⟩ = some (.string f.text) := blk_cell hg2 18
      have d19 : w3.cell? ⟨w.heap.size, 19, none⟩ = some (.string f.name) := blk_cell hg1 19
      have k19 : w3.cell? ⟨w.heap.size + 1, 19, none⟩ = some (.string f.name) := blk_cell hg2 19
      have d20 : w3.cell? ⟨w.heap.size, 20, none⟩ = some (.int .i64 f.partner) := blk_cell hg1 20
      have k20 : w3.cell? ⟨w.heap.size + 1, 20, none⟩ = some (.int .i64 f.partner) := blk_cell hg2 20
      have d21 : w3.cell? ⟨w.heap.size, 21, none⟩ = some (.int .i64 f.cls) := blk_cell hg1 21
      have k21 : w3.cell? ⟨w.heap.size + 1, 21, none⟩ = some (.int .i64 f.cls) := blk_cell hg2 21
      have d22 : w3.cell? ⟨w.heap.size, 22, none⟩ = some (.int .i64 f.till) := blk_cell hg1 22
      have k22 : w3.cell? ⟨w.heap.size + 1, 22, none⟩ = some (.int .i64 f.till) := blk_cell hg2 22
      clear hb hg1 hg2 HG2 HB2 H2 H3 HS HB HTA HTT HN1 HN2
      go_wp2_with fail
      go_ret
      exact ⟨rfl, HB3.out⟩
set_option maxRecDepth 100000 in
set_option maxHeartbeats 2000000 in
theorem rsameList_any {mem : Addr → Option Value} (v1 v2 : Value) (es1 es2 : List FctE) (h1 : EsM mem v1 es1) (h2 : EsM mem v2 es2) (he : es1.map FctE.f = es2.map FctE.f) (w : World) (hs : Sees mem w) :
    Calls Tryz.prog 23 #[v1, v2] w fun e w' => e = .returned (.bool true) ∧ Below w.heap.size w w' := by
  obtain ⟨a1, c1, b1, o1, rfl, hm1, ha1, he1⟩ := h1.open_
  obtain ⟨a2, c2, b2, o2, rfl, hm2, ha2, he2⟩ := h2.open_
  unfold maxLen at hm1 hm2
  have hlen : es1.length = es2.length := by have := congrArg List.length he; rwa [List.length_map, List.length_map] at this
  have HLEN := Lib.hid hlen
  have HS := Lib.hid hs
  have HA1 := Lib.hid ha1
  have HA2 := Lib.hid ha2
  have HE1 := Lib.hid he1
  have HE2 := Lib.hid he2
  have HF : Hid (∀ k (h1 : k < es1.length) (h2 : k < es2.length), es1[k].f = es2[k].f) := Lib.hid (fun k h1 h2 => by
    have e1 : (es1.map FctE.f)[k]? = (es2.map FctE.f)[k]? := by rw [he]
    rw [List.getElem?_map, List.getElem?_map, List.getElem?_eq_getElem h1, List.getElem?_eq_getElem h2] at e1
    simpa using e1)
  have hl1 : (es1.length : Int) ≤ 9223372036854775807 := by omega
  rw [show (Value.slice a2 es2.length c2) = .slice a2 es1.length c2 by rw [hlen]]
  clear hs ha1 ha2 he1 he2 h1 h2 hm1 hm2 hlen he
  go_enter Tryz.func23, Tryz.ntmps23
  go_wp2_with fail
  go_loopw [5] (fun i wr => ∃ k : Nat, k ≤ es1.length ∧ i = .int .i64 k ∧ Below w.heap.size w wr) (fun i _ => es1.length - (intOf i).toNat)
  case atStart => exact ⟨0, Nat.zero_le _, rfl, Below.refl _ _⟩
  case round =>
    obtain ⟨k, hk, rfl, hb⟩ := hrel
    obtain ⟨wo, rfl⟩ : ∃ wo, wo = wr := ⟨_, rfl⟩
    by_cases hlt : k < es1.length
    · obtain rfl := HA1.out (by omega)
      obtain rfl := HA2.out (by have := HLEN.out; omega)
      have hlt2 : k < es2.length := by have := HLEN.out; omega
      obtain ⟨hok1, hat1⟩ := HE1.out k hlt
      obtain ⟨hok2, hat2⟩ := HE2.out k hlt2
      have hsw := HS.out.bel hb
      have HAT1 : Hid (es1[k].at (fun p => wo.cell? p) b1 (o1 + k * 23)) := Lib.hid (fun j u hj => hsw _ _ (hat1 j u hj))
      have HAT2 : Hid (es2[k].at (fun p => wo.cell? p) b2 (o2 + k * 23)) := Lib.hid (fun j u hj => hsw _ _ (hat2 j u hj))
      have HC := Lib.hid (rsame_any es1[k] es2[k] hok1 hok2 (HF.out k hlt hlt2) wo.drew hsw)
      have HB := Lib.hid hb
      clear hok1 hat1 hok2 hat2 hsw hb
      generalize es1[k] = x at *
      generalize es2[k] = y at *
      clear hlt2
      have HSS : Hid (x.at (fun p => wo.drew.cell? p) b1 (o1 + k * 23) ∧ y.at (fun p => wo.drew.cell? p) b2 (o2 + k * 23)) := Lib.hid ⟨HAT1.out, HAT2.out⟩
      go_upto_region 6 with fail
      refine wp_mix [mT, mT, mT, mT, mT, mT, mT, mT, mF, mF] 1000 (fun W2 => x.at (fun p => W2.cell? p) b1 (o1 + k * 23) ∧ y.at (fun p => W2.cell? p) b2 (o2 + k * 23)) (by kernel_rfl) (by kernel_rfl) HSS.out ?_
      refine wpMix_take (.slice (some ⟨b1, o1, none⟩) es1.length c1) (fun _ _ _ _ h => h) HSS.out (by rfl) (fun W2 hW => by go_simp) ?_
      simp only [Act.put, List.setIfInBounds_toArray, List.set_cons_zero, List.set_cons_succ]
      refine wpMix_take (.int .i64 k) (fun _ _ _ _ h => h) HSS.out (by rfl) (fun W2 hW => by go_simp) ?_
      simp only [Act.put, List.setIfInBounds_toArray, List.set_cons_zero, List.set_cons_succ]
      refine wpMix_take (.pointer (some ⟨b1, o1 + k * 23, none⟩)) (fun _ _ _ _ h => h) HSS.out (by rfl) (fun W2 hW => by go_simp) ?_
      simp only [Act.put, List.setIfInBounds_toArray, List.set_cons_zero, List.set_cons_succ]
      refine wpMix_take (.agg x.cells) (fun _ _ _ _ h => h) HSS.out (by rfl) (fun W2 hW => exec_fct_mid _ rfl (by simp [Act.eval]) hW.1) ?_
      simp only [Act.put, List.setIfInBounds_toArray, List.set_cons_zero, List.set_cons_succ]
      refine wpMix_take (.slice (some ⟨b2, o2, none⟩) es1.length c2) (fun _ _ _ _ h => h) HSS.out (by rfl) (fun W2 hW => by go_simp) ?_
      simp only [Act.put, List.setIfInBounds_toArray, List.set_cons_zero, List.set_cons_succ]
      refine wpMix_take (.int .i64 k) (fun _ _ _ _ h => h) HSS.out (by rfl) (fun W2 hW => by go_simp) ?_
      simp only [Act.put, List.setIfInBounds_toArray, List.set_cons_zero, List.set_cons_succ]
      refine wpMix_take (.pointer (some ⟨b2, o2 + k * 23, none⟩)) (fun _ _ _ _ h => h) HSS.out (by rfl) (fun W2 hW => by go_simp) ?_
      simp only [Act.put, List.setIfInBounds_toArray, List.set_cons_zero, List.set_cons_succ]
      refine wpMix_take (.agg y.cells) (fun _ _ _ _ h => h) HSS.out (by rfl) (fun W2 hW => exec_fct_mid _ rfl (by simp [Act.eval]) hW.2) ?_
      simp only [Act.put, List.setIfInBounds_toArray, List.set_cons_zero, List.set_cons_succ]
      refine wpMix_step (fun K hK => ?_)
      go_simp
      refine (HC.out.mono ?_)
      rintro e w3 ⟨rfl, hb3⟩
      dsimp only
      have HB3 : Hid (Below w.heap.size w w3) := Lib.hid (HB.out.drew.trans (hb3.mono HB.out.size))
      have HSS3 : Hid (x.at (fun p => w3.cell? p) b1 (o1 + k * 23) ∧ y.at (fun p => w3.cell? p) b2 (o2 + k * 23)) := Lib.hid ⟨fun j u hj => sees_bel hb3 _ _ (HSS.out.1 j u hj), fun j u hj => sees_bel hb3 _ _ (HSS.out.2 j u hj)⟩
      refine hK _ _ HSS3.out ?_
      clear hK K hb3
      refine wpMix_step (fun K hK => ?_); go_simp; refine hK _ _ HSS3.out ?_; clear hK K
      refine wpMix_nil ?_
      go_wp2_with fail
      go_roundw
      case rel => exact ⟨k + 1, by omega, by go_num, HB3.out⟩
      case measure => simp [intOf]; omega
    · obtain rfl : k = es1.length := by omega
      have HB := Lib.hid hb
      clear hb
      go_wp2_with fail
      go_ret
      exact ⟨rfl, HB.out⟩
end Go.Proofs.YtgbihmafmmeicaaGreatDoor
/-
  WHAT IS PROVED HERE: the walks of the reference's isText, isSource, areTopics. Condition: strings are within Go's.
-/
namespace Go.Proofs.YtgbihmafmmeicaaGreatDoor
open Go.RowKit Mg Go.Shelf

theorem isText5_any (s : ByteArray) (w : World) (hs : s.size ≤ maxLen) : Calls Tryz.prog 60 #[.string s] w fun e w' => e = .returned (.bool (fullOK s)) ∧ w = w' := by
  have c1 := Lib.hid (isTextR_any s w hs)
  by_cases hem : s.data.toList = []
  · have q1 := lang_t s hem
    have HZ : Hid (fullOK s = false) := Lib.hid (by
      unfold fullOK
      have : s.size = 0 := by
        have := congrArg List.length hem
        simpa using this
      rw [this]; rfl)
    clear hem hs
    go_enter Tryz.func60, Tryz.ntmps60
    go_wp2_with fail
    go_ret
    exact ⟨by rw [HZ.out]; rfl, rfl⟩
  · have q1 := lang_f s hem
    have q2 : (!s.toList.isEmpty) = true := by rw [q1]; rfl
    have HZ : Hid (fullOK s = textOK s) := Lib.hid (by
      unfold fullOK
      have : 1 ≤ s.size := by
        rcases Nat.eq_zero_or_pos s.size with h | h
        · exfalso
          apply hem
          apply List.eq_nil_of_length_eq_zero
          simpa using h
        · exact h
      rw [decide_eq_true this]; rfl)
    clear hem hs
    generalize textOK s = q at c1 HZ
    go_enter Tryz.func60, Tryz.ntmps60
    go_wp2_with fail
    refine c1.out.mono ?_
    rintro e w' ⟨rfl, rfl⟩
    cases q
    all_goals
      go_wp2_with fail
      go_ret
      exact ⟨by rw [HZ.out]; rfl, rfl⟩
theorem all_take5 {p : UInt8 → Bool} {l : List UInt8} {k : Nat} (hk : k < l.length) (h : (l.take k).all p = true) : (l.take (k + 1)).all p = p l[k] := by
  rw [List.take_succ_eq_append_getElem hk, List.all_append, h]; simp
theorem all_bad5 {p : UInt8 → Bool} {l : List UInt8} {k : Nat} (hk : k < l.length) (h : p l[k] = false) : l.all p = false := by
  rw [List.all_eq_false]
  exact ⟨l[k], List.getElem_mem hk, by rw [h]; decide⟩
set_option maxHeartbeats 1000000 in
theorem isSource5_any (s : ByteArray) (w : World) (hs : s.size ≤ maxLen) : Calls Tryz.prog 63 #[.string s] w fun e w' => e = .returned (.bool (srcOK s)) ∧ w = w' := by
  unfold maxLen at hs
  have hl : s.data.toList.length = s.size := by simp
  have HL := Lib.hid hl
  clear hl
  go_enter Tryz.func63, Tryz.ntmps63
  go_wp2_with fail
  go_loop [3] (fun i => ∃ k : Nat, k ≤ s.size ∧ i = .int .i64 k ∧ Hid ((s.data.toList.take k).all srcByte = true)) (fun i => s.size - (intOf i).toNat)
  case atStart => exact ⟨0, Nat.zero_le _, rfl, Lib.hid rfl⟩
  case round =>
    obtain ⟨k, hk, rfl, hu⟩ := hrel
    by_cases hlt : k < s.size
    · have hk2 : k < s.data.toList.length := by rw [HL.out]; exact hlt
      have HN := Lib.hid (all_take5 hk2 hu.out)
      have HF := Lib.hid (fun h => all_bad5 (p := srcByte) hk2 h)
      have HE : Hid (s.data.toList[k] = s[k]) := Lib.hid (by simp; rfl)
      have HB : Hid (srcByte s[k] = (decide (s[k].toNat = 10) || (decide (32 ≤ s[k].toNat) && decide (s[k].toNat ≤ 126)))) := Lib.hid rfl
      clear hu
      by_cases h10 : s[k].toNat = 10
      · have HT : Hid ((s.data.toList.take (k + 1)).all srcByte = true) := Lib.hid (by rw [HN.out, HE.out, HB.out, h10]; rfl)
        have b10 : ((s[k].toNat : Nat) : Int) = 10 := by omega
        clear h10
        go_wp2_with fail
        go_round
        case rel => exact ⟨k + 1, by omega, by go_num, HT⟩
        case measure => simp [intOf]; omega
      · have b10 : ((((s[k].toNat : Nat) : Int)) != 10) = true := by simpa using (fun h => h10 (by omega))
        by_cases h32 : s[k].toNat < 32
        · have HSF : Hid (srcOK s = false) := Lib.hid (by unfold srcOK; rw [HF.out (by rw [HE.out, HB.out]; simp; omega)]; simp)
          have b32 : ((s[k].toNat : Nat) : Int) < 32 := by omega
          clear h10 h32
          go_wp2_with fail
          go_ret
          exact ⟨by rw [HSF.out]; rfl, rfl⟩
        · have b32 : ¬ ((s[k].toNat : Nat) : Int) < 32 := by omega
          by_cases h126 : s[k].toNat ≤ 126
          · have HT : Hid ((s.data.toList.take (k + 1)).all srcByte = true) := Lib.hid (by rw [HN.out, HE.out, HB.out]; simp; omega)
            have b126 : ¬ 126 < ((s[k].toNat : Nat) : Int) := by omega
            clear h10 h32 h126
            go_wp2_with fail
            go_round
            case rel => exact ⟨k + 1, by omega, by go_num, HT⟩
            case measure => simp [intOf]; omega
          · have HSF : Hid (srcOK s = false) := Lib.hid (by unfold srcOK; rw [HF.out (by rw [HE.out, HB.out]; simp; omega)]; simp)
            have b126 : 126 < ((s[k].toNat : Nat) : Int) := by omega
            clear h10 h32 h126
            go_wp2_with fail
            go_ret
            exact ⟨by rw [HSF.out]; rfl, rfl⟩
    · obtain rfl : k = s.size := by omega
      have HU : Hid (srcOK s = decide ((s.size : Int) ≤ 1000)) := Lib.hid (by
        have h := hu.out
        rw [← HL.out, List.take_length] at h
        unfold srcOK
        rw [h, Bool.and_true]
        exact decide_eq_decide.2 (by omega))
      clear hu
      by_cases h1 : s.size ≤ 1000
      · have b1 : (s.size : Int) ≤ 1000 := by omega
        have HV : Hid (srcOK s = true) := Lib.hid (by rw [HU.out]; exact decide_eq_true b1)
        clear h1
        go_wp2_with fail
        go_ret
        exact ⟨by rw [HV.out]; rfl, rfl⟩
      · have b1 : ¬ (s.size : Int) ≤ 1000 := by omega
        have HV : Hid (srcOK s = false) := Lib.hid (by rw [HU.out]; exact decide_eq_false b1)
        clear h1
        go_wp2_with fail
        go_ret
        exact ⟨by rw [HV.out]; rfl, rfl⟩
set_option maxRecDepth 10000 in
set_option maxHeartbeats 2000000 in
theorem areTopics5_any {mem : Addr → Option Value} {v : Value} {l : List ByteArray} (h : StrsM mem v l) (w : World) (hs : Sees mem w) :
    Calls Tryz.prog 61 #[v] w fun e w' => e = .returned (.bool (topicsOK l)) ∧ Below w.heap.size w w' := by
  obtain ⟨ao, cap, b, o, rfl, hcap, hm, hao, hsz, hcells⟩ := h.open_ hs
  have HA := Lib.hid hao
  have HC := Lib.hid hcells
  have HZ := Lib.hid (fun j (hj : j < l.length) => hsz l[j] (List.getElem_mem hj))
  have hlen : (l.length : Int) ≤ 9223372036854775807 := by unfold maxLen at hm; omega
  have HSF : Hid (topicsUp l = false → topicsOK l = false) := Lib.hid (fun h => by unfold topicsOK; rw [h, Bool.and_false])
  clear hao hcells hs h hcap hm hsz
  go_enter Tryz.func61, Tryz.ntmps61
  go_wp2_with fail
  go_loopw [3] (fun i wr => ∃ k : Nat, k ≤ l.length ∧ i = .int .i64 k ∧ Hid (topicsUp (l.take k) = true) ∧ Below w.heap.size w wr) (fun i _ => l.length - (intOf i).toNat)
  case atStart => exact ⟨0, Nat.zero_le _, rfl, Lib.hid rfl, Below.refl _ _⟩
  case round =>
    obtain ⟨k, hk, rfl, hu, hb⟩ := hrel
    obtain ⟨wo, rfl⟩ : ∃ wo, wo = wr := ⟨_, rfl⟩
    have HB := Lib.hid hb
    by_cases hlt : k < l.length
    · have c0 := (hb.cell (World.block_lt_of_cell? _ _ (HC.out k hlt))).trans (HC.out k hlt)
      obtain rfl := HA.out (by omega)
      obtain ⟨s1, s2⟩ := topics_step hlt hu.out
      have S1 := Lib.hid s1
      have S2 := Lib.hid s2
      have cn := Lib.hid (isNameR_any l[k] wo (HZ.out k hlt))
      clear s1 s2 hu hb
      cases hq : nameOK l[k] with
      | false =>
        rw [hq] at cn
        have HF := Lib.hid (HSF.out (S2.out (by rw [hq]; rfl)))
        clear hq S1 S2
        generalize l[k] = t at *
        go_wp2_with fail
        refine cn.out.mono ?_
        rintro e w' ⟨rfl, rfl⟩
        go_upto_region 5 with fail
        refine wp_mix [mT, mT, mT, mT, mT, mT, mT, mT, mT, mT, mT, mT, mT, mT, mT, mT, mF, mF] 1000 (fun _ => True) (by kernel_rfl) (by kernel_rfl) trivial ?_
        refine wpMix_take (.bool false) (fun _ _ _ _ h => h) trivial (by rfl) (fun W2 hW => by go_simp) ?_
        simp only [Act.put, List.setIfInBounds_toArray, List.set_cons_zero, List.set_cons_succ]
        refine wpMix_take (.bool true) (fun _ _ _ _ h => h) trivial (by rfl) (fun W2 hW => by go_simp) ?_
        simp only [Act.put, List.setIfInBounds_toArray, List.set_cons_zero, List.set_cons_succ]
        refine wpMix_take (.bool true) (fun _ _ _ _ h => h) trivial (by rfl) (fun W2 hW => by go_simp) ?_
        simp only [Act.put, List.setIfInBounds_toArray, List.set_cons_zero, List.set_cons_succ]
        refine wpMix_skip (fun _ _ _ _ h => h) trivial (by rfl) ?_
        simp only [Act.put, List.setIfInBounds_toArray, List.set_cons_zero, List.set_cons_succ]
        refine wpMix_skip (fun _ _ _ _ h => h) trivial (by rfl) ?_
        simp only [Act.put, List.setIfInBounds_toArray, List.set_cons_zero, List.set_cons_succ]
        refine wpMix_skip (fun _ _ _ _ h => h) trivial (by rfl) ?_
        simp only [Act.put, List.setIfInBounds_toArray, List.set_cons_zero, List.set_cons_succ]
        refine wpMix_skip (fun _ _ _ _ h => h) trivial (by rfl) ?_
        simp only [Act.put, List.setIfInBounds_toArray, List.set_cons_zero, List.set_cons_succ]
        refine wpMix_skip (fun _ _ _ _ h => h) trivial (by rfl) ?_
        simp only [Act.put, List.setIfInBounds_toArray, List.set_cons_zero, List.set_cons_succ]
        refine wpMix_skip (fun _ _ _ _ h => h) trivial (by rfl) ?_
        simp only [Act.put, List.setIfInBounds_toArray, List.set_cons_zero, List.set_cons_succ]
        refine wpMix_skip (fun _ _ _ _ h => h) trivial (by rfl) ?_
        simp only [Act.put, List.setIfInBounds_toArray, List.set_cons_zero, List.set_cons_succ]
        refine wpMix_skip (fun _ _ _ _ h => h) trivial (by rfl) ?_
        simp only [Act.put, List.setIfInBounds_toArray, List.set_cons_zero, List.set_cons_succ]
        refine wpMix_skip (fun _ _ _ _ h => h) trivial (by rfl) ?_
        simp only [Act.put, List.setIfInBounds_toArray, List.set_cons_zero, List.set_cons_succ]
        refine wpMix_skip (fun _ _ _ _ h => h) trivial (by rfl) ?_
        simp only [Act.put, List.setIfInBounds_toArray, List.set_cons_zero, List.set_cons_succ]
        refine wpMix_skip (fun _ _ _ _ h => h) trivial (by rfl) ?_
        simp only [Act.put, List.setIfInBounds_toArray, List.set_cons_zero, List.set_cons_succ]
        refine wpMix_skip (fun _ _ _ _ h => h) trivial (by rfl) ?_
        simp only [Act.put, List.setIfInBounds_toArray, List.set_cons_zero, List.set_cons_succ]
        refine wpMix_skip (fun _ _ _ _ h => h) trivial (by rfl) ?_
        simp only [Act.put, List.setIfInBounds_toArray, List.set_cons_zero, List.set_cons_succ]
        refine wpMix_step (fun K hK => ?_); go_simp; refine hK _ _ trivial ?_; clear hK K
        refine wpMix_step (fun K hK => ?_); go_simp; refine hK _ _ trivial ?_; clear hK K
        refine wpMix_nil ?_
        go_wp2_with fail
        go_ret
        exact ⟨by rw [HF.out]; rfl, HB.out.drew⟩
      | true =>
        rw [hq] at cn
        have HQ := Lib.hid hq
        clear hq
        cases k with
        | zero =>
          have HE : Hid (topicsUp (l.take (0 + 1)) = true) := Lib.hid (by rw [S1.out, HQ.out, lastUp_zero]; rfl)
          clear HQ S1 S2
          simp only [Nat.add_zero] at c0
          generalize l[0] = t at *
          go_wp2_with fail
          refine cn.out.mono ?_
          rintro e w' ⟨rfl, rfl⟩
          go_upto_region 5 with fail
          refine wp_mix [mT, mT, mT, mT, mT, mT, mT, mT, mT, mT, mT, mT, mT, mT, mT, mT, mF, mF] 1000 (fun _ => True) (by kernel_rfl) (by kernel_rfl) trivial ?_
          refine wpMix_take (.bool true) (fun _ _ _ _ h => h) trivial (by rfl) (fun W2 hW => by go_simp) ?_
          simp only [Act.put, List.setIfInBounds_toArray, List.set_cons_zero, List.set_cons_succ]
          refine wpMix_take (.bool false) (fun _ _ _ _ h => h) trivial (by rfl) (fun W2 hW => by go_simp) ?_
          simp only [Act.put, List.setIfInBounds_toArray, List.set_cons_zero, List.set_cons_succ]
          refine wpMix_take (.bool false) (fun _ _ _ _ h => h) trivial (by rfl) (fun W2 hW => by go_simp) ?_
          simp only [Act.put, List.setIfInBounds_toArray, List.set_cons_zero, List.set_cons_succ]
          refine wpMix_take (.int .i64 0) (fun _ _ _ _ h => h) trivial (by rfl) (fun W2 hW => by go_simp) ?_
          simp only [Act.put, List.setIfInBounds_toArray, List.set_cons_zero, List.set_cons_succ]
          refine wpMix_take (.bool false) (fun _ _ _ _ h => h) trivial (by rfl) (fun W2 hW => by go_simp) ?_
          simp only [Act.put, List.setIfInBounds_toArray, List.set_cons_zero, List.set_cons_succ]
          refine wpMix_take (.bool false) (fun _ _ _ _ h => h) trivial (by rfl) (fun W2 hW => by go_simp) ?_
          simp only [Act.put, List.setIfInBounds_toArray, List.set_cons_zero, List.set_cons_succ]
          refine wpMix_skip (fun _ _ _ _ h => h) trivial (by rfl) ?_
          simp only [Act.put, List.setIfInBounds_toArray, List.set_cons_zero, List.set_cons_succ]
          refine wpMix_skip (fun _ _ _ _ h => h) trivial (by rfl) ?_
          simp only [Act.put, List.setIfInBounds_toArray, List.set_cons_zero, List.set_cons_succ]
          refine wpMix_skip (fun _ _ _ _ h => h) trivial (by rfl) ?_
          simp only [Act.put, List.setIfInBounds_toArray, List.set_cons_zero, List.set_cons_succ]
          refine wpMix_skip (fun _ _ _ _ h => h) trivial (by rfl) ?_
          simp only [Act.put, List.setIfInBounds_toArray, List.set_cons_zero, List.set_cons_succ]
          refine wpMix_skip (fun _ _ _ _ h => h) trivial (by rfl) ?_
          simp only [Act.put, List.setIfInBounds_toArray, List.set_cons_zero, List.set_cons_succ]
          refine wpMix_skip (fun _ _ _ _ h => h) trivial (by rfl) ?_
          simp only [Act.put, List.setIfInBounds_toArray, List.set_cons_zero, List.set_cons_succ]
          refine wpMix_skip (fun _ _ _ _ h => h) trivial (by rfl) ?_
          simp only [Act.put, List.setIfInBounds_toArray, List.set_cons_zero, List.set_cons_succ]
          refine wpMix_skip (fun _ _ _ _ h => h) trivial (by rfl) ?_
          simp only [Act.put, List.setIfInBounds_toArray, List.set_cons_zero, List.set_cons_succ]
          refine wpMix_skip (fun _ _ _ _ h => h) trivial (by rfl) ?_
          simp only [Act.put, List.setIfInBounds_toArray, List.set_cons_zero, List.set_cons_succ]
          refine wpMix_skip (fun _ _ _ _ h => h) trivial (by rfl) ?_
          simp only [Act.put, List.setIfInBounds_toArray, List.set_cons_zero, List.set_cons_succ]
          refine wpMix_step (fun K hK => ?_); go_simp; refine hK _ _ trivial ?_; clear hK K
          refine wpMix_step (fun K hK => ?_); go_simp; refine hK _ _ trivial ?_; clear hK K
          refine wpMix_nil ?_
          go_wp2_with fail
          go_roundw
          case rel => exact ⟨0 + 1, by omega, by go_num, HE, HB.out.drew⟩
          case measure => simp [intOf]; omega
        | succ k =>
          have hk' : k < l.length := by omega
          have c1 := (HB.out.cell (World.block_lt_of_cell? _ _ (HC.out k hk'))).trans (HC.out k hk')
          have L1 := Lib.hid (lastUp_succ hk' l[k + 1])
          have N1 := Lib.hid (less_not l[k + 1].toList l[k].toList)
          have HSS : Hid (wo.drew.cell? ⟨b, o + k, none⟩ = some (.string l[k]) ∧ wo.drew.cell? ⟨b, o + (k + 1), none⟩ = some (.string l[k + 1])) := Lib.hid ⟨c1, c0⟩
          have HG : Hid ((Op.bytesLess l[k].toList l[k + 1].toList = true → topicsUp (l.take (k + 1 + 1)) = true) ∧ (Op.bytesLess l[k].toList l[k + 1].toList = false → topicsOK l = false)) := Lib.hid ⟨fun h => by rw [S1.out, HQ.out, L1.out, h]; rfl, fun h => HSF.out (S2.out (by rw [HQ.out, L1.out, h]; rfl))⟩
          clear HQ S1 S2 L1 N1 c1
          generalize l[k + 1] = t at *
          generalize l[k] = p at *
          generalize hless : Op.bytesLess p.toList t.toList = q at HG
          have HLS := Lib.hid hless
          clear hless
          go_wp2_with fail
          refine cn.out.mono ?_
          rintro e w' ⟨rfl, rfl⟩
          go_upto_region 5 with fail
          clear c0
          have hkk : ((k + 1 : Nat) : Int) - 1 = (k : Nat) := by omega
          have hk3 : ((k + 1 : Nat) : Int) < l.length := by omega
          have hk4 : ((k : Nat) : Int) < l.length := by omega
          refine wp_mix [mT, mT, mT, mT, mT, mT, mT, mT, mT, mT, mT, mT, mT, mT, mT, mT, mF, mF] 1000 (fun W2 => W2.cell? ⟨b, o + k, none⟩ = some (.string p) ∧ W2.cell? ⟨b, o + (k + 1), none⟩ = some (.string t)) (by kernel_rfl) (by kernel_rfl) HSS.out ?_
          refine wpMix_take (.bool true) (fun _ _ _ _ h => h) HSS.out (by rfl) (fun W2 hW => by go_simp) ?_
          simp only [Act.put, List.setIfInBounds_toArray, List.set_cons_zero, List.set_cons_succ]
          refine wpMix_take (.bool false) (fun _ _ _ _ h => h) HSS.out (by rfl) (fun W2 hW => by go_simp) ?_
          simp only [Act.put, List.setIfInBounds_toArray, List.set_cons_zero, List.set_cons_succ]
          refine wpMix_take (.bool false) (fun _ _ _ _ h => h) HSS.out (by rfl) (fun W2 hW => by go_simp) ?_
          simp only [Act.put, List.setIfInBounds_toArray, List.set_cons_zero, List.set_cons_succ]
          refine wpMix_take (.int .i64 ((k + 1 : Nat) : Int)) (fun _ _ _ _ h => h) HSS.out (by rfl) (fun W2 hW => by go_simp) ?_
          simp only [Act.put, List.setIfInBounds_toArray, List.set_cons_zero, List.set_cons_succ]
          refine wpMix_take (.bool true) (fun _ _ _ _ h => h) HSS.out (by rfl) (fun W2 hW => by go_simp) ?_
          simp only [Act.put, List.setIfInBounds_toArray, List.set_cons_zero, List.set_cons_succ]
          refine wpMix_take (.bool true) (fun _ _ _ _ h => h) HSS.out (by rfl) (fun W2 hW => by go_simp) ?_
          simp only [Act.put, List.setIfInBounds_toArray, List.set_cons_zero, List.set_cons_succ]
          refine wpMix_take (.slice (some ⟨b, o, none⟩) l.length cap) (fun _ _ _ _ h => h) HSS.out (by rfl) (fun W2 hW => by go_simp) ?_
          simp only [Act.put, List.setIfInBounds_toArray, List.set_cons_zero, List.set_cons_succ]
          refine wpMix_take (.int .i64 ((k + 1 : Nat) : Int)) (fun _ _ _ _ h => h) HSS.out (by rfl) (fun W2 hW => by go_simp) ?_
          simp only [Act.put, List.setIfInBounds_toArray, List.set_cons_zero, List.set_cons_succ]
          refine wpMix_take (.int .i64 (k : Nat)) (fun _ _ _ _ h => h) HSS.out (by rfl) (fun W2 hW => by go_simp; rw [IntWalk.i64_in _ ⟨by omega, by omega⟩]; try omega) ?_
          simp only [Act.put, List.setIfInBounds_toArray, List.set_cons_zero, List.set_cons_succ]
          refine wpMix_take (.pointer (some ⟨b, o + k, none⟩)) (fun _ _ _ _ h => h) HSS.out (by rfl) (fun W2 hW => by go_simp) ?_
          simp only [Act.put, List.setIfInBounds_toArray, List.set_cons_zero, List.set_cons_succ]
          refine wpMix_take (.string p) (fun _ _ _ _ h => h) HSS.out (by rfl) (fun W2 hW => by have q0 := hW.1; go_simp) ?_
          simp only [Act.put, List.setIfInBounds_toArray, List.set_cons_zero, List.set_cons_succ]
          refine wpMix_take (.slice (some ⟨b, o, none⟩) l.length cap) (fun _ _ _ _ h => h) HSS.out (by rfl) (fun W2 hW => by go_simp) ?_
          simp only [Act.put, List.setIfInBounds_toArray, List.set_cons_zero, List.set_cons_succ]
          refine wpMix_take (.int .i64 ((k + 1 : Nat) : Int)) (fun _ _ _ _ h => h) HSS.out (by rfl) (fun W2 hW => by go_simp) ?_
          simp only [Act.put, List.setIfInBounds_toArray, List.set_cons_zero, List.set_cons_succ]
          refine wpMix_take (.pointer (some ⟨b, o + (k + 1), none⟩)) (fun _ _ _ _ h => h) HSS.out (by rfl) (fun W2 hW => by have q1 : ¬ ((k : Int) + 1 < 0) := (by omega); go_simp) ?_
          simp only [Act.put, List.setIfInBounds_toArray, List.set_cons_zero, List.set_cons_succ]
          refine wpMix_take (.string t) (fun _ _ _ _ h => h) HSS.out (by rfl) (fun W2 hW => by have q0 := hW.2; go_simp) ?_
          simp only [Act.put, List.setIfInBounds_toArray, List.set_cons_zero, List.set_cons_succ]
          refine wpMix_take (.bool !q) (fun _ _ _ _ h => h) HSS.out (by rfl) (fun W2 hW => by have q0 := HLS.out; go_simp; try simp [q0]) ?_
          simp only [Act.put, List.setIfInBounds_toArray, List.set_cons_zero, List.set_cons_succ]
          refine wpMix_step (fun K hK => ?_); go_simp; refine hK _ _ HSS.out ?_; clear hK K
          refine wpMix_step (fun K hK => ?_); go_simp; refine hK _ _ HSS.out ?_; clear hK K
          refine wpMix_nil ?_
          cases q
          · have HF := Lib.hid (HG.out.2 rfl)
            go_wp2_with fail
            go_ret
            exact ⟨by rw [HF.out]; rfl, HB.out.drew⟩
          · have HE := Lib.hid (HG.out.1 rfl)
            go_wp2_with fail
            go_roundw
            case rel => exact ⟨k + 1 + 1, by omega, by go_num, HE, HB.out.drew⟩
            case measure => simp [intOf]; omega
    · obtain rfl : k = l.length := by omega
      have HE : Hid (topicsOK l = decide ((l.length : Int) ≤ 4)) := Lib.hid (by
        have h := hu.out
        rw [List.take_length] at h
        unfold topicsOK
        rw [h, Bool.and_true]
        exact decide_eq_decide.2 (by omega))
      clear hu hb
      by_cases h4 : l.length ≤ 4
      · have b4 : (l.length : Int) ≤ 4 := by omega
        have HV : Hid (topicsOK l = true) := Lib.hid (by rw [HE.out]; exact decide_eq_true b4)
        clear h4
        go_wp2_with fail
        go_ret
        exact ⟨by rw [HV.out]; rfl, HB.out⟩
      · have b4 : ¬ (l.length : Int) ≤ 4 := by omega
        have HV : Hid (topicsOK l = false) := Lib.hid (by rw [HE.out]; exact decide_eq_false b4)
        clear h4
        go_wp2_with fail
        go_ret
        exact ⟨by rw [HV.out]; rfl, HB.out⟩
end Go.Proofs.YtgbihmafmmeicaaGreatDoor
/-
  WHAT IS PROVED HERE: the walks of the reference's Valid and ValidList for blocks. No condition. (Printed by tools/valr.py.)
-/
namespace Go.Proofs.YtgbihmafmmeicaaGreatDoor
open Go.RowKit Mg Go.Shelf

theorem name_text {s : ByteArray} (h : nameOK s = true) : textOK s = true := by
  unfold nameOK at h
  simp only [Bool.and_eq_true, decide_eq_true_eq] at h
  obtain ⟨⟨_, h2⟩, h3⟩ := h
  rw [textOK_eq, decide_eq_true (by omega), Bool.true_and, List.all_eq_true]
  intro c hc
  have h4 := (nameB_iff c).1 (List.all_eq_true.1 h3 c hc)
  exact okT_yes (by omega)
/-- when a block is valid, by its kind -/
structure KindF (kind : Int) (text : ByteArray) (story ref : Int) (r : Bool) : Prop where
  plain : kind = 1 ∨ kind = 2 ∨ kind = 4 → r = (decide (1 ≤ text.size) && decide (story = 0) && decide (ref = 0))
  count : kind = 5 → r = (nameOK text && decide (story = 0) && decide (ref = 0))
  quote : kind = 3 → r = (decide (1 ≤ story) && decide (story ≤ 64) && decide (1 ≤ ref) && decide (ref ≤ 1000))
  none_ : kind ≠ 1 → kind ≠ 2 → kind ≠ 4 → kind ≠ 5 → kind ≠ 3 → r = false
theorem kindF_of (x : Blk) (h1 : 1 ≤ x.id ∧ x.id ≤ 1000) (h2 : validLab x.lab = true) (h3 : textOK x.text = true) : KindF x.kind x.text x.story x.ref (validBlk x) := by
  have e : validBlk x = kindOK x := by unfold validBlk; rw [decide_eq_true h1.1, decide_eq_true h1.2, h2]; rfl
  refine ⟨fun h => ?_, fun h => ?_, fun h => ?_, fun n1 n2 n4 n5 n3 => ?_⟩
  · rw [e]; unfold kindOK; rw [if_pos h, h3, Bool.and_true]
  · rw [e]; unfold kindOK; rw [if_neg (by omega), if_pos h]
  · rw [e]; unfold kindOK; rw [if_neg (by omega), if_neg (by omega), if_pos h, h3, Bool.true_and]
  · rw [e]; unfold kindOK; rw [if_neg (by omega), if_neg n5, if_neg n3]
theorem valid_no1 {x : Blk} (h : ¬ (1 ≤ x.id ∧ x.id ≤ 1000)) : validBlk x = false := by
  rw [Bool.eq_false_iff]; intro e; unfold validBlk at e; simp only [Bool.and_eq_true, decide_eq_true_eq] at e; exact h e.1.1
theorem valid_no2 {x : Blk} (h : validLab x.lab = false) : validBlk x = false := by unfold validBlk; rw [h]; simp
theorem valid_no3 {x : Blk} (h : textOK x.text = false) : validBlk x = false := by
  have hn : nameOK x.text = false := by
    rw [Bool.eq_false_iff]; intro e; have := name_text e; rw [h] at this; cases this
  unfold validBlk kindOK
  rw [h, hn]
  simp

set_option maxRecDepth 10000 in
set_option maxHeartbeats 8000000 in
theorem validR_any {mem : Addr → Option Value} (x : Blk) (av : Value) (hi : IntsM mem av x.lab.after) (ht : x.text.size ≤ maxLen) (w : World) (hs : Sees mem w) :
    Calls Tryz.prog 80 #[.agg (blkCells x av)] w fun e w' => e = .returned (.bool (validBlk x)) ∧ Below w.heap.size w w' := by
  have HK := Lib.hid (kindF_of x)
  have HN1 := Lib.hid (@valid_no1 x)
  have HN2 := Lib.hid (@valid_no2 x)
  have HN3 := Lib.hid (@valid_no3 x)
  have HT := Lib.hid (fun W => isTextR_any x.text W ht)
  have HNM := Lib.hid (fun W => isNameR_any x.text W ht)
  have HL := Lib.hid (fun W hW => labValidR_any x.lab _ hi W hW)
  obtain ⟨ao, cap, rfl⟩ := hi.slice
  have HS := Lib.hid hs
  clear hi ht hs
  generalize validBlk x = R at *
  obtain ⟨id, kind, text, story, ref, lab⟩ := x
  dsimp only at *
  go_enter Tryz.func80, Tryz.ntmps80
  go_wp2_with fail
  refine (HT.out _).mono ?_
  rintro e w1 ⟨rfl, rfl⟩
  go_wp2_with fail
  refine (HL.out _ (HS.out.alloc _)).mono ?_
  rintro e w1 ⟨rfl, hb⟩
  have hB : Below w.heap.size w w1 := ((Below.refl _ w).alloc (Nat.le_refl _) _).trans (hb.mono (by simp))
  have hz : w.heap.size < w1.heap.size := by have := hb.size; simp at this; omega
  have hc : ∀ (j : Nat) (u : Value), (blkCells ⟨id, kind, text, story, ref, lab⟩ (.slice ao lab.after.length cap))[j]? = some u → w1.cell? ⟨w.heap.size, j, none⟩ = some u := fun j u hu => (hb.cell (p := ⟨w.heap.size, j, none⟩) (by simp)).trans (cell_new rfl hu)
  have c0 := hc 0 _ rfl
  have c1 := hc 1 _ rfl
  have c2 := hc 2 _ rfl
  have c3 := hc 3 _ rfl
  have c4 := hc 4 _ rfl
  clear hc hb HT HL HS
  generalize hTT : textOK text = T at *
  generalize hVV : validLab lab = V at *
  clear hTT hVV
  by_cases hid : 1 ≤ id ∧ id ≤ 1000
  · cases T with
    | false =>
      have HX := Lib.hid (HN3.out rfl)
      clear HK HN1 HN2 HN3
      obtain ⟨i1, i2⟩ := hid
      go_wp2_with fail
      go_ret
      exact ⟨ret_false HX.out, hB⟩
    | true =>
      cases V with
      | false =>
        have HX := Lib.hid (HN2.out rfl)
        clear HK HN1 HN2 HN3
        obtain ⟨i1, i2⟩ := hid
        go_wp2_with fail
        go_ret
        exact ⟨ret_false HX.out, hB⟩
      | true =>
        have HF := Lib.hid (HK.out hid rfl rfl)
        clear HK HN1 HN2 HN3
        obtain ⟨i1, i2⟩ := hid
        by_cases k1 : kind = 1
        · have hk := HF.out.plain (by omega)
          have HH := Lib.hid hk
          clear hk
          subst k1
          rcases size_pos text with ⟨z1, z2, z3⟩ | ⟨z1, z2, z3⟩
          · have HY : Hid (R = false) := Lib.hid (by rw [HH.out, z3, Bool.false_and, Bool.false_and])
            clear HF z3 HH
            go_wp2_with fail
            go_ret
            exact ⟨ret_false HY.out, hB⟩
          · have HG : Hid (R = (decide (story = 0) && decide (ref = 0))) := Lib.hid (by rw [HH.out, z3, Bool.true_and])
            clear z3 HH
            by_cases s0 : story = 0
            · subst s0
              by_cases r0 : ref = 0
              · subst r0
                have HY : Hid (R = true) := Lib.hid (by rw [HG.out]; rfl)
                clear HF
                go_wp2_with fail
                go_ret
                exact ⟨ret_true HY.out, hB⟩
              · have HY : Hid (R = false) := Lib.hid (by rw [HG.out, decide_eq_false r0, Bool.and_false])
                have n : (ref == 0) = false := by simpa using r0
                clear HF r0
                go_wp2_with fail
                go_ret
                exact ⟨ret_false HY.out, hB⟩
            · have HY : Hid (R = false) := Lib.hid (by rw [HG.out, decide_eq_false s0, Bool.false_and])
              have n : (story == 0) = false := by simpa using s0
              clear HF s0
              go_wp2_with fail
              go_ret
              exact ⟨ret_false HY.out, hB⟩
        by_cases k2 : kind = 2
        · have hk := HF.out.plain (by omega)
          have HH := Lib.hid hk
          clear hk
          subst k2
          rcases size_pos text with ⟨z1, z2, z3⟩ | ⟨z1, z2, z3⟩
          · have HY : Hid (R = false) := Lib.hid (by rw [HH.out, z3, Bool.false_and, Bool.false_and])
            clear HF z3 HH
            go_wp2_with fail
            go_ret
            exact ⟨ret_false HY.out, hB⟩
          · have HG : Hid (R = (decide (story = 0) && decide (ref = 0))) := Lib.hid (by rw [HH.out, z3, Bool.true_and])
            clear z3 HH
            by_cases s0 : story = 0
            · subst s0
              by_cases r0 : ref = 0
              · subst r0
                have HY : Hid (R = true) := Lib.hid (by rw [HG.out]; rfl)
                clear HF
                go_wp2_with fail
                go_ret
                exact ⟨ret_true HY.out, hB⟩
              · have HY : Hid (R = false) := Lib.hid (by rw [HG.out, decide_eq_false r0, Bool.and_false])
                have n : (ref == 0) = false := by simpa using r0
                clear HF r0
                go_wp2_with fail
                go_ret
                exact ⟨ret_false HY.out, hB⟩
            · have HY : Hid (R = false) := Lib.hid (by rw [HG.out, decide_eq_false s0, Bool.false_and])
              have n : (story == 0) = false := by simpa using s0
              clear HF s0
              go_wp2_with fail
              go_ret
              exact ⟨ret_false HY.out, hB⟩
        by_cases k4 : kind = 4
        · have hk := HF.out.plain (by omega)
          have HH := Lib.hid hk
          clear hk
          subst k4
          rcases size_pos text with ⟨z1, z2, z3⟩ | ⟨z1, z2, z3⟩
          · have HY : Hid (R = false) := Lib.hid (by rw [HH.out, z3, Bool.false_and, Bool.false_and])
            clear HF z3 HH
            go_wp2_with fail
            go_ret
            exact ⟨ret_false HY.out, hB⟩
          · have HG : Hid (R = (decide (story = 0) && decide (ref = 0))) := Lib.hid (by rw [HH.out, z3, Bool.true_and])
            clear z3 HH
            by_cases s0 : story = 0
            · subst s0
              by_cases r0 : ref = 0
              · subst r0
                have HY : Hid (R = true) := Lib.hid (by rw [HG.out]; rfl)
                clear HF
                go_wp2_with fail
                go_ret
                exact ⟨ret_true HY.out, hB⟩
              · have HY : Hid (R = false) := Lib.hid (by rw [HG.out, decide_eq_false r0, Bool.and_false])
                have n : (ref == 0) = false := by simpa using r0
                clear HF r0
                go_wp2_with fail
                go_ret
                exact ⟨ret_false HY.out, hB⟩
            · have HY : Hid (R = false) := Lib.hid (by rw [HG.out, decide_eq_false s0, Bool.false_and])
              have n : (story == 0) = false := by simpa using s0
              clear HF s0
              go_wp2_with fail
              go_ret
              exact ⟨ret_false HY.out, hB⟩
        by_cases k5 : kind = 5
        · have hk := HF.out.count k5
          have HH := Lib.hid hk
          clear hk
          subst k5
          go_wp2_with fail
          refine (HNM.out _).mono ?_
          rintro e w2 ⟨rfl, rfl⟩
          generalize nameOK text = N at *
          cases N with
          | false =>
            have HY : Hid (R = false) := Lib.hid (by rw [HH.out, Bool.false_and, Bool.false_and])
            clear HF HH
            go_wp2_with fail
            go_ret
            exact ⟨ret_false HY.out, hB⟩
          | true =>
            have HG : Hid (R = (decide (story = 0) && decide (ref = 0))) := Lib.hid (by rw [HH.out, Bool.true_and])
            clear HH
            by_cases s0 : story = 0
            · subst s0
              by_cases r0 : ref = 0
              · subst r0
                have HY : Hid (R = true) := Lib.hid (by rw [HG.out]; rfl)
                clear HF
                go_wp2_with fail
                go_ret
                exact ⟨ret_true HY.out, hB⟩
              · have HY : Hid (R = false) := Lib.hid (by rw [HG.out, decide_eq_false r0, Bool.and_false])
                have n : (ref == 0) = false := by simpa using r0
                clear HF r0
                go_wp2_with fail
                go_ret
                exact ⟨ret_false HY.out, hB⟩
            · have HY : Hid (R = false) := Lib.hid (by rw [HG.out, decide_eq_false s0, Bool.false_and])
              have n : (story == 0) = false := by simpa using s0
              clear HF s0
              go_wp2_with fail
              go_ret
              exact ⟨ret_false HY.out, hB⟩
        by_cases k3 : kind = 3
        · have hk := HF.out.quote k3
          have HH := Lib.hid hk
          clear hk HF
          subst k3
          by_cases q4 : 1 ≤ story
          · by_cases q3 : story ≤ 64
            · by_cases q2 : 1 ≤ ref
              · by_cases q1 : ref ≤ 1000
                · have HY : Hid (R = true) := Lib.hid (by rw [HH.out, decide_eq_true q4, decide_eq_true q3, decide_eq_true q2, decide_eq_true q1]; rfl)
                  clear HH
                  go_wp2_with fail
                  go_ret
                  exact ⟨ret_true HY.out, hB⟩
                · have HY : Hid (R = false) := Lib.hid (by rw [HH.out, decide_eq_false q1]; simp)
                  have nq1 : decide (ref ≤ 1000) = false := decide_eq_false q1
                  clear HH q1
                  go_wp2_with fail
                  go_ret
                  exact ⟨ret_false HY.out, hB⟩
              · have HY : Hid (R = false) := Lib.hid (by rw [HH.out, decide_eq_false q2]; simp)
                have nq2 : decide (1 ≤ ref) = false := decide_eq_false q2
                clear HH q2
                go_wp2_with fail
                go_ret
                exact ⟨ret_false HY.out, hB⟩
            · have HY : Hid (R = false) := Lib.hid (by rw [HH.out, decide_eq_false q3]; simp)
              have nq3 : decide (story ≤ 64) = false := decide_eq_false q3
              clear HH q3
              go_wp2_with fail
              go_ret
              exact ⟨ret_false HY.out, hB⟩
          · have HY : Hid (R = false) := Lib.hid (by rw [HH.out, decide_eq_false q4]; simp)
            have nq4 : decide (1 ≤ story) = false := decide_eq_false q4
            clear HH q4
            go_wp2_with fail
            go_ret
            exact ⟨ret_false HY.out, hB⟩
        have HY : Hid (R = false) := Lib.hid (HF.out.none_ k1 k2 k4 k5 k3)
        have n1 : (kind == 1) = false := by simpa using k1
        have n2 : (kind == 2) = false := by simpa using k2
        have n4 : (kind == 4) = false := by simpa using k4
        have n5 : (kind == 5) = false := by simpa using k5
        have n3 : (kind == 3) = false := by simpa using k3
        clear HF k1 k2 k4 k5 k3
        go_wp2_with fail
        go_ret
        exact ⟨ret_false HY.out, hB⟩
  · have HX := Lib.hid (HN1.out hid)
    have HI := Lib.hid hid
    clear HK HN1 HN2 HN3 hid
    go_wp2_with fail
    all_goals first
      | (go_ret
         exact ⟨ret_false HX.out, hB⟩)
      | (exfalso; exact HI.out ⟨by omega, by omega⟩)

set_option maxRecDepth 10000 in
set_option maxHeartbeats 4000000 in
theorem validListR_any {mem : Addr → Option Value} {v : Value} {l : List Blk} (h : BlksM mem v l) (w : World) (hs : Sees mem w) :
    Calls Tryz.prog 62 #[v] w fun e w' => e = .returned (.bool (decide (ValidL l))) ∧ Below w.heap.size w w' := by
  obtain ⟨ao, cap, b, o, rfl, hcap, hm, hao, hblks⟩ := h.open_
  have HAO := Lib.hid hao
  have HB := Lib.hid hblks
  have HS := Lib.hid hs
  have hlen : (l.length : Int) ≤ 9223372036854775807 := by unfold maxLen at hm; omega
  clear h hao hblks hs hm
  by_cases h24 : l.length ≤ 24
  · have HOK : Hid (PreOK l l.length → decide (ValidL l) = true) := Lib.hid (fun h => decide_eq_true (validL_all h24 h))
    go_enter Tryz.func62, Tryz.ntmps62
    go_wp2_with fail
    go_loopw [3, 4, 5] (fun i _ _ wr => ∃ k : Nat, k ≤ l.length ∧ i = .int .i64 k ∧ Below w.heap.size w wr ∧ Hid (PreOK l k)) (fun i _ _ _ => l.length - (intOf i).toNat)
    case atStart => exact ⟨0, Nat.zero_le _, rfl, Below.refl _ _, Lib.hid (PreOK.zero l)⟩
    case round =>
      obtain ⟨k, hk, rfl, hb, hp⟩ := hrel
      obtain ⟨wo, rfl⟩ : ∃ wo, wo = wr := ⟨_, rfl⟩
      by_cases hlt : k < l.length
      · obtain ⟨⟨t1, _, _⟩, lo, lc, hi, hc9⟩ := (HB.out k hlt).nine (HS.out.bel hb)
        obtain rfl := HAO.out (by omega)
        obtain ⟨c0, c1, c2, c3, c4, c5, c6, c7, c8⟩ := hc9
        have hbl : b < wo.heap.size := World.block_lt_of_cell? wo _ c0
        have HF : Hid (Calls Tryz.prog 80 #[.agg (blkCells l[k] (.slice lo l[k].lab.after.length lc))] wo fun e w' => e = .returned (.bool (validBlk l[k])) ∧ Below wo.heap.size wo w') :=
          Lib.hid (validR_any l[k] _ hi t1 wo (HS.out.bel hb))
        have HNB : Hid (validBlk l[k] = false → decide (ValidL l) = false) := Lib.hid (fun h => decide_eq_false (validL_bad hlt h))
        have HNT : Hid (∀ j (hj : j < k), l[j].id = l[k].id → decide (ValidL l) = false) := Lib.hid (fun j hj e => decide_eq_false (validL_twice hj hlt e))
        have HST : Hid (validBlk l[k] = true → (∀ j (hj : j < k), l[j].id ≠ l[k].id) → PreOK l (k + 1)) := Lib.hid (fun h1 h2 => PreOK.succ hlt hp.out h1 h2)
        have hkc : (k : Int) ≤ cap := by omega
        have hk0 : (0 : Int) ≤ k := by omega
        have hk1 : (k : Int) < l.length := by omega
        clear hi t1 hp
        generalize hx : l[k] = x at *
        obtain ⟨id, kind, text, story, ref, till, after, appr, denied⟩ := x
        clear hx
        dsimp only at *
        go_wp2_with fail
        refine HF.out.mono ?_
        rintro e w3 ⟨rfl, hb3⟩
        have hB3 : Below w.heap.size w w3 := hb.trans (hb3.mono hb.size)
        replace c0 := (hb3.cell (p := ⟨b, o + k * 9, none⟩) hbl).trans c0
        have hbl3 : b < w3.heap.size := Nat.lt_of_lt_of_le hbl hb3.size
        generalize hV : validBlk ⟨id, kind, text, story, ref, ⟨till, after, appr, denied⟩⟩ = V at *
        clear hV
        cases V with
        | false =>
          have HNB2 := Lib.hid (HNB.out rfl)
          clear HNB HST HNT HF
          go_wp2_with fail
          go_ret
          exact ⟨ret_false HNB2.out, hB3⟩
        | true =>
          have HST2 := Lib.hid (HST.out rfl)
          clear HNB HST HF hb3 c1 c2 c3 c4 c5 c6 c7 c8
          go_wp2_with fail
          go_loopw [5] (fun i wi => ∃ j : Nat, j ≤ k ∧ i = .int .i64 j ∧ Below w3.heap.size w3 wi ∧ Hid (∀ m (hm : m < j) (hm2 : m < l.length), l[m].id ≠ id)) (fun i _ => k - (intOf i).toNat)
          case atStart => exact ⟨0, Nat.zero_le _, rfl, Below.refl _ _, Lib.hid (fun m hm => absurd hm (by omega))⟩
          case round =>
            obtain ⟨j, hj, rfl, hbi, hne⟩ := hrel
            have hBi : Below w.heap.size w wr := hB3.trans (hbi.mono hB3.size)
            by_cases hjk : j < k
            · have hjl : j < l.length := by omega
              have hj0 : (0 : Int) ≤ j := by omega
              have hj1 : (j : Int) < l.length := by omega
              obtain ⟨_, lo2, lc2, _, d9⟩ := (HB.out j hjl).nine (HS.out.bel hBi)
              have d0 := d9.c0
              have c0' := (hbi.cell (p := ⟨b, o + k * 9, none⟩) hbl3).trans c0
              have HEQ : Hid (l[j].id = id → decide (ValidL l) = false) := Lib.hid (fun e => HNT.out j hjk e)
              have HNE : Hid (l[j].id ≠ id → ∀ m (hm : m < j + 1) (hm2 : m < l.length), l[m].id ≠ id) := Lib.hid (fun e m hm hm2 => by
                by_cases h : m = j
                · subst h; exact e
                · exact hne.out m (by omega) hm2)
              clear hne d9
              generalize l[j].id = id2 at *
              by_cases he : id2 = id
              · have e1 : (id2 == id) = true := by simpa using he
                have HF := Lib.hid (HEQ.out he)
                clear he HEQ HNE
                go_wp2_with fail
                go_quiet (fail)
                go_wp2_with fail
                go_ret
                exact ⟨ret_false HF.out, below_drewN hBi _⟩
              · have e1 : (id2 == id) = false := by simpa using he
                have HF := Lib.hid (HNE.out he)
                clear he HEQ HNE
                go_wp2_with fail
                go_quiet (fail)
                go_wp2_with fail
                go_roundw
                case rel => exact ⟨j + 1, by omega, by go_num, below_drewN hbi _, HF⟩
                case measure => simp [intOf]; omega
            · have e : j = k := by omega
              subst e
              have HP : Hid (PreOK l (j + 1)) := Lib.hid (HST2.out (fun m hm => hne.out m hm (by omega)))
              go_wp2_with fail
              go_roundw
              case rel => exact ⟨j + 1, by omega, by go_num, hBi, HP⟩
              case measure => simp [intOf]; omega
      · have e : k = l.length := by omega
        subst e
        have HF := Lib.hid (HOK.out hp.out)
        go_wp2_with fail
        go_ret
        exact ⟨ret_true HF.out, hb⟩
  · have HF : Hid (decide (ValidL l) = false) := Lib.hid (decide_eq_false (fun h => h24 h.1))
    go_enter Tryz.func62, Tryz.ntmps62
    go_wp2_with fail
    go_ret
    exact ⟨ret_false HF.out, Below.refl _ _⟩
end Go.Proofs.YtgbihmafmmeicaaGreatDoor
/-
  WHAT IS PROVED HERE: the reference's Fields at the laws' kinds, and right, field by field. No condition but that the fact lies in memory. Printed by tools/ahi.py.
-/
namespace Go.Proofs.YtgbihmafmmeicaaGreatDoor
open Go.RowKit Mg Go.Shelf

def fieldsB (k : Int) : ByteArray :=
  if k = 1 then ⟨#[115, 108, 114, 97, 116, 117, 111, 98, 76]⟩ else
  if k = 2 then ⟨#[115, 101]⟩ else
  if k = 3 then ⟨#[115, 76]⟩ else
  if k = 4 then ⟨#[115, 108, 107, 110, 120]⟩ else
  if k = 5 then ⟨#[115, 120]⟩ else
  if k = 6 then ⟨#[115]⟩ else
  if k = 7 then ⟨#[109, 120]⟩ else
  if k = 10 then ⟨#[115]⟩ else
  ⟨#[]⟩
set_option maxRecDepth 10000 in
theorem fields_1 (w : World) : Calls Tryz.prog 43 #[.int .i64 1] w fun e w' => e = .returned (.string ⟨#[115, 108, 114, 97, 116, 117, 111, 98, 76]⟩) ∧ w = w' := by
  go_enter Tryz.func43, Tryz.ntmps43
  go_wp2_with fail
  go_ret
  exact ⟨rfl, rfl⟩
set_option maxRecDepth 10000 in
theorem fields_2 (w : World) : Calls Tryz.prog 43 #[.int .i64 2] w fun e w' => e = .returned (.string ⟨#[115, 101]⟩) ∧ w = w' := by
  go_enter Tryz.func43, Tryz.ntmps43
  go_wp2_with fail
  go_ret
  exact ⟨rfl, rfl⟩
set_option maxRecDepth 10000 in
theorem fields_3 (w : World) : Calls Tryz.prog 43 #[.int .i64 3] w fun e w' => e = .returned (.string ⟨#[115, 76]⟩) ∧ w = w' := by
  go_enter Tryz.func43, Tryz.ntmps43
  go_wp2_with fail
  go_ret
  exact ⟨rfl, rfl⟩
set_option maxRecDepth 10000 in
theorem fields_4 (w : World) : Calls Tryz.prog 43 #[.int .i64 4] w fun e w' => e = .returned (.string ⟨#[115, 108, 107, 110, 120]⟩) ∧ w = w' := by
  go_enter Tryz.func43, Tryz.ntmps43
  go_wp2_with fail
  go_ret
  exact ⟨rfl, rfl⟩
set_option maxRecDepth 10000 in
theorem fields_5 (w : World) : Calls Tryz.prog 43 #[.int .i64 5] w fun e w' => e = .returned (.string ⟨#[115, 120]⟩) ∧ w = w' := by
  go_enter Tryz.func43, Tryz.ntmps43
  go_wp2_with fail
  go_ret
  exact ⟨rfl, rfl⟩
set_option maxRecDepth 10000 in
theorem fields_6 (w : World) : Calls Tryz.prog 43 #[.int .i64 6] w fun e w' => e = .returned (.string ⟨#[115]⟩) ∧ w = w' := by
  go_enter Tryz.func43, Tryz.ntmps43
  go_wp2_with fail
  go_ret
  exact ⟨rfl, rfl⟩
set_option maxRecDepth 10000 in
theorem fields_7 (w : World) : Calls Tryz.prog 43 #[.int .i64 7] w fun e w' => e = .returned (.string ⟨#[109, 120]⟩) ∧ w = w' := by
  go_enter Tryz.func43, Tryz.ntmps43
  go_wp2_with fail
  go_ret
  exact ⟨rfl, rfl⟩
set_option maxRecDepth 10000 in
theorem fields_10 (w : World) : Calls Tryz.prog 43 #[.int .i64 10] w fun e w' => e = .returned (.string ⟨#[115]⟩) ∧ w = w' := by
  go_enter Tryz.func43, Tryz.ntmps43
  go_wp2_with fail
  go_ret
  exact ⟨rfl, rfl⟩
theorem fields_any (k : Int) (hk : k = 1 ∨ k = 2 ∨ k = 3 ∨ k = 4 ∨ k = 5 ∨ k = 6 ∨ k = 7 ∨ k = 10) (w : World) : Calls Tryz.prog 43 #[.int .i64 k] w fun e w' => e = .returned (.string (fieldsB k)) ∧ w = w' := by
  rcases hk with rfl | rfl | rfl | rfl | rfl | rfl | rfl | rfl
  · exact fields_1 w
  · exact fields_2 w
  · exact fields_3 w
  · exact fields_4 w
  · exact fields_5 w
  · exact fields_6 w
  · exact fields_7 w
  · exact fields_10 w
set_option maxRecDepth 100000 in
set_option maxHeartbeats 2000000 in
theorem right_115 {mem : Addr → Option Value} (e : FctE) (h : e.ok mem) (w : World) (hs : Sees mem w) :
    Calls Tryz.prog 44 #[.agg e.cells, .int .u8 115] w fun r w' => r = .returned (.bool (inR e.f.story 1 64)) ∧ Below w.heap.size w w' := by
  obtain ⟨f, ta, tc, ba, bc, aa, ac⟩ := e
  have HN := Lib.hid (World.alloc_heap_new w (.cells (⟨f, ta, tc, ba, bc, aa, ac⟩ : FctE).cells 45))
  have HB := Lib.hid ((Below.refl w.heap.size w).alloc (Nat.le_refl _) (.cells (⟨f, ta, tc, ba, bc, aa, ac⟩ : FctE).cells 45))
  have HS := Lib.hid (hs.bel HB.out)
  have HE : Hid (inR f.story 1 64 = (decide (1 ≤ f.story) && decide (f.story ≤ 64))) := Lib.hid rfl
  clear hs h
  go_enter Tryz.func44, Tryz.ntmps44
  go_upto_region 1 with fail
  generalize hW1 : World.alloc w _ = W1 at *
  clear hW1
  have d3 : W1.cell? ⟨w.heap.size, 3, none⟩ = some (.int .i64 f.story) := blk_cell HN.out 3
  obtain ⟨x, hx⟩ : ∃ x, f.story = x := ⟨_, rfl⟩
  rw [hx] at d3 HE
  have HX := Lib.hid hx
  clear hx
  by_cases k1 : (1 : Int) ≤ x
  · by_cases k2 : x ≤ 64
    · have HV : Hid (inR x 1 64 = true) := Lib.hid (HE.out.trans (by rw [decide_eq_true k1, decide_eq_true k2]; rfl))
      have k3 : x ≤64 := by omega
      go_wp2_with fail
      go_ret
      exact ⟨by show _ = Ending.returned (.bool (inR f.story 1 64)); rw [HX.out, HV.out]; rfl, HB.out⟩
    · have HV : Hid (inR x 1 64 = false) := Lib.hid (HE.out.trans (by rw [decide_eq_false k2, Bool.and_false]))
      have k3 : ¬ x ≤64 := by omega
      go_wp2_with fail
      go_ret
      exact ⟨by show _ = Ending.returned (.bool (inR f.story 1 64)); rw [HX.out, HV.out]; rfl, HB.out⟩
  · have HV : Hid (inR x 1 64 = false) := Lib.hid (HE.out.trans (by rw [decide_eq_false k1, Bool.false_and]))
    go_wp2_with fail
    go_ret
    exact ⟨by show _ = Ending.returned (.bool (inR f.story 1 64)); rw [HX.out, HV.out]; rfl, HB.out⟩
set_option maxRecDepth 100000 in
set_option maxHeartbeats 2000000 in
theorem right_114 {mem : Addr → Option Value} (e : FctE) (h : e.ok mem) (w : World) (hs : Sees mem w) :
    Calls Tryz.prog 44 #[.agg e.cells, .int .u8 114] w fun r w' => r = .returned (.bool (inR e.f.rev 1 100)) ∧ Below w.heap.size w w' := by
  obtain ⟨f, ta, tc, ba, bc, aa, ac⟩ := e
  have HN := Lib.hid (World.alloc_heap_new w (.cells (⟨f, ta, tc, ba, bc, aa, ac⟩ : FctE).cells 45))
  have HB := Lib.hid ((Below.refl w.heap.size w).alloc (Nat.le_refl _) (.cells (⟨f, ta, tc, ba, bc, aa, ac⟩ : FctE).cells 45))
  have HS := Lib.hid (hs.bel HB.out)
  have HE : Hid (inR f.rev 1 100 = (decide (1 ≤ f.rev) && decide (f.rev ≤ 100))) := Lib.hid rfl
  clear hs h
  go_enter Tryz.func44, Tryz.ntmps44
  go_upto_region 1 with fail
  generalize hW1 : World.alloc w _ = W1 at *
  clear hW1
  have d5 : W1.cell? ⟨w.heap.size, 5, none⟩ = some (.int .i64 f.rev) := blk_cell HN.out 5
  obtain ⟨x, hx⟩ : ∃ x, f.rev = x := ⟨_, rfl⟩
  rw [hx] at d5 HE
  have HX := Lib.hid hx
  clear hx
  by_cases k1 : (1 : Int) ≤ x
  · by_cases k2 : x ≤ 100
    · have HV : Hid (inR x 1 100 = true) := Lib.hid (HE.out.trans (by rw [decide_eq_true k1, decide_eq_true k2]; rfl))
      have k3 : x ≤100 := by omega
      go_wp2_with fail
      go_ret
      exact ⟨by show _ = Ending.returned (.bool (inR f.rev 1 100)); rw [HX.out, HV.out]; rfl, HB.out⟩
    · have HV : Hid (inR x 1 100 = false) := Lib.hid (HE.out.trans (by rw [decide_eq_false k2, Bool.and_false]))
      have k3 : ¬ x ≤100 := by omega
      go_wp2_with fail
      go_ret
      exact ⟨by show _ = Ending.returned (.bool (inR f.rev 1 100)); rw [HX.out, HV.out]; rfl, HB.out⟩
  · have HV : Hid (inR x 1 100 = false) := Lib.hid (HE.out.trans (by rw [decide_eq_false k1, Bool.false_and]))
    go_wp2_with fail
    go_ret
    exact ⟨by show _ = Ending.returned (.bool (inR f.rev 1 100)); rw [HX.out, HV.out]; rfl, HB.out⟩
set_option maxRecDepth 100000 in
set_option maxHeartbeats 2000000 in
theorem right_101 {mem : Addr → Option Value} (e : FctE) (h : e.ok mem) (w : World) (hs : Sees mem w) :
    Calls Tryz.prog 44 #[.agg e.cells, .int .u8 101] w fun r w' => r = .returned (.bool (inR e.f.editor 1 5)) ∧ Below w.heap.size w w' := by
  obtain ⟨f, ta, tc, ba, bc, aa, ac⟩ := e
  have HN := Lib.hid (World.alloc_heap_new w (.cells (⟨f, ta, tc, ba, bc, aa, ac⟩ : FctE).cells 45))
  have HB := Lib.hid ((Below.refl w.heap.size w).alloc (Nat.le_refl _) (.cells (⟨f, ta, tc, ba, bc, aa, ac⟩ : FctE).cells 45))
  have HS := Lib.hid (hs.bel HB.out)
  have HE : Hid (inR f.editor 1 5 = (decide (1 ≤ f.editor) && decide (f.editor ≤ 5))) := Lib.hid rfl
  clear hs h
  go_enter Tryz.func44, Tryz.ntmps44
  go_upto_region 1 with fail
  generalize hW1 : World.alloc w _ = W1 at *
  clear hW1
  have d15 : W1.cell? ⟨w.heap.size, 15, none⟩ = some (.int .i64 f.editor) := blk_cell HN.out 15
  obtain ⟨x, hx⟩ : ∃ x, f.editor = x := ⟨_, rfl⟩
  rw [hx] at d15 HE
  have HX := Lib.hid hx
  clear hx
  by_cases k1 : (1 : Int) ≤ x
  · by_cases k2 : x ≤ 5
    · have HV : Hid (inR x 1 5 = true) := Lib.hid (HE.out.trans (by rw [decide_eq_true k1, decide_eq_true k2]; rfl))
      have k3 : x ≤5 := by omega
      go_wp2_with fail
      go_ret
      exact ⟨by show _ = Ending.returned (.bool (inR f.editor 1 5)); rw [HX.out, HV.out]; rfl, HB.out⟩
    · have HV : Hid (inR x 1 5 = false) := Lib.hid (HE.out.trans (by rw [decide_eq_false k2, Bool.and_false]))
      have k3 : ¬ x ≤5 := by omega
      go_wp2_with fail
      go_ret
      exact ⟨by show _ = Ending.returned (.bool (inR f.editor 1 5)); rw [HX.out, HV.out]; rfl, HB.out⟩
  · have HV : Hid (inR x 1 5 = false) := Lib.hid (HE.out.trans (by rw [decide_eq_false k1, Bool.false_and]))
    go_wp2_with fail
    go_ret
    exact ⟨by show _ = Ending.returned (.bool (inR f.editor 1 5)); rw [HX.out, HV.out]; rfl, HB.out⟩
set_option maxRecDepth 100000 in
set_option maxHeartbeats 2000000 in
theorem right_107 {mem : Addr → Option Value} (e : FctE) (h : e.ok mem) (w : World) (hs : Sees mem w) :
    Calls Tryz.prog 44 #[.agg e.cells, .int .u8 107] w fun r w' => r = .returned (.bool (inR e.f.block 1 1000)) ∧ Below w.heap.size w w' := by
  obtain ⟨f, ta, tc, ba, bc, aa, ac⟩ := e
  have HN := Lib.hid (World.alloc_heap_new w (.cells (⟨f, ta, tc, ba, bc, aa, ac⟩ : FctE).cells 45))
  have HB := Lib.hid ((Below.refl w.heap.size w).alloc (Nat.le_refl _) (.cells (⟨f, ta, tc, ba, bc, aa, ac⟩ : FctE).cells 45))
  have HS := Lib.hid (hs.bel HB.out)
  have HE : Hid (inR f.block 1 1000 = (decide (1 ≤ f.block) && decide (f.block ≤ 1000))) := Lib.hid rfl
  clear hs h
  go_enter Tryz.func44, Tryz.ntmps44
  go_upto_region 1 with fail
  generalize hW1 : World.alloc w _ = W1 at *
  clear hW1
  have d16 : W1.cell? ⟨w.heap.size, 16, none⟩ = some (.int .i64 f.block) := blk_cell HN.out 16
  obtain ⟨x, hx⟩ : ∃ x, f.block = x := ⟨_, rfl⟩
  rw [hx] at d16 HE
  have HX := Lib.hid hx
  clear hx
  by_cases k1 : (1 : Int) ≤ x
  · by_cases k2 : x ≤ 1000
    · have HV : Hid (inR x 1 1000 = true) := Lib.hid (HE.out.trans (by rw [decide_eq_true k1, decide_eq_true k2]; rfl))
      have k3 : x ≤1000 := by omega
      go_wp2_with fail
      go_ret
      exact ⟨by show _ = Ending.returned (.bool (inR f.block 1 1000)); rw [HX.out, HV.out]; rfl, HB.out⟩
    · have HV : Hid (inR x 1 1000 = false) := Lib.hid (HE.out.trans (by rw [decide_eq_false k2, Bool.and_false]))
      have k3 : ¬ x ≤1000 := by omega
      go_wp2_with fail
      go_ret
      exact ⟨by show _ = Ending.returned (.bool (inR f.block 1 1000)); rw [HX.out, HV.out]; rfl, HB.out⟩
  · have HV : Hid (inR x 1 1000 = false) := Lib.hid (HE.out.trans (by rw [decide_eq_false k1, Bool.false_and]))
    go_wp2_with fail
    go_ret
    exact ⟨by show _ = Ending.returned (.bool (inR f.block 1 1000)); rw [HX.out, HV.out]; rfl, HB.out⟩
set_option maxRecDepth 100000 in
set_option maxHeartbeats 2000000 in
theorem right_110 {mem : Addr → Option Value} (e : FctE) (h : e.ok mem) (w : World) (hs : Sees mem w) :
    Calls Tryz.prog 44 #[.agg e.cells, .int .u8 110] w fun r w' => r = .returned (.bool (inR e.f.sentence 0 299)) ∧ Below w.heap.size w w' := by
  obtain ⟨f, ta, tc, ba, bc, aa, ac⟩ := e
  have HN := Lib.hid (World.alloc_heap_new w (.cells (⟨f, ta, tc, ba, bc, aa, ac⟩ : FctE).cells 45))
  have HB := Lib.hid ((Below.refl w.heap.size w).alloc (Nat.le_refl _) (.cells (⟨f, ta, tc, ba, bc, aa, ac⟩ : FctE).cells 45))
  have HS := Lib.hid (hs.bel HB.out)
  have HE : Hid (inR f.sentence 0 299 = (decide (0 ≤ f.sentence) && decide (f.sentence ≤ 299))) := Lib.hid rfl
  clear hs h
  go_enter Tryz.func44, Tryz.ntmps44
  go_upto_region 1 with fail
  generalize hW1 : World.alloc w _ = W1 at *
  clear hW1
  have d17 : W1.cell? ⟨w.heap.size, 17, none⟩ = some (.int .i64 f.sentence) := blk_cell HN.out 17
  obtain ⟨x, hx⟩ : ∃ x, f.sentence = x := ⟨_, rfl⟩
  rw [hx] at d17 HE
  have HX := Lib.hid hx
  clear hx
  by_cases k1 : (0 : Int) ≤ x
  · by_cases k2 : x ≤ 299
    · have HV : Hid (inR x 0 299 = true) := Lib.hid (HE.out.trans (by rw [decide_eq_true k1, decide_eq_true k2]; rfl))
      have k3 : x <300 := by omega
      go_wp2_with fail
      go_ret
      exact ⟨by show _ = Ending.returned (.bool (inR f.sentence 0 299)); rw [HX.out, HV.out]; rfl, HB.out⟩
    · have HV : Hid (inR x 0 299 = false) := Lib.hid (HE.out.trans (by rw [decide_eq_false k2, Bool.and_false]))
      have k3 : ¬ x <300 := by omega
      go_wp2_with fail
      go_ret
      exact ⟨by show _ = Ending.returned (.bool (inR f.sentence 0 299)); rw [HX.out, HV.out]; rfl, HB.out⟩
  · have HV : Hid (inR x 0 299 = false) := Lib.hid (HE.out.trans (by rw [decide_eq_false k1, Bool.false_and]))
    go_wp2_with fail
    go_ret
    exact ⟨by show _ = Ending.returned (.bool (inR f.sentence 0 299)); rw [HX.out, HV.out]; rfl, HB.out⟩
set_option maxRecDepth 100000 in
set_option maxHeartbeats 2000000 in
theorem right_97 {mem : Addr → Option Value} (e : FctE) (h : e.ok mem) (w : World) (hs : Sees mem w) :
    Calls Tryz.prog 44 #[.agg e.cells, .int .u8 97] w fun r w' => r = .returned (.bool (inR e.f.base 0 (e.f.rev - 1))) ∧ Below w.heap.size w w' := by
  obtain ⟨f, ta, tc, ba, bc, aa, ac⟩ := e
  have HN := Lib.hid (World.alloc_heap_new w (.cells (⟨f, ta, tc, ba, bc, aa, ac⟩ : FctE).cells 45))
  have HB := Lib.hid ((Below.refl w.heap.size w).alloc (Nat.le_refl _) (.cells (⟨f, ta, tc, ba, bc, aa, ac⟩ : FctE).cells 45))
  have HS := Lib.hid (hs.bel HB.out)
  have HE : Hid (inR f.base 0 (f.rev - 1) = (decide (0 ≤ f.base) && decide (f.base ≤ f.rev - 1))) := Lib.hid rfl
  clear hs h
  go_enter Tryz.func44, Tryz.ntmps44
  go_upto_region 1 with fail
  generalize hW1 : World.alloc w _ = W1 at *
  clear hW1
  have d5 : W1.cell? ⟨w.heap.size, 5, none⟩ = some (.int .i64 f.rev) := blk_cell HN.out 5
  have d6 : W1.cell? ⟨w.heap.size, 6, none⟩ = some (.int .i64 f.base) := blk_cell HN.out 6
  obtain ⟨x, hx⟩ : ∃ x, f.base = x := ⟨_, rfl⟩
  obtain ⟨y, hy⟩ : ∃ y, f.rev = y := ⟨_, rfl⟩
  rw [hx] at d6 HE
  rw [hy] at d5 HE
  have HX := Lib.hid hx
  have HY := Lib.hid hy
  clear hx hy
  by_cases k1 : (0 : Int) ≤ x
  · by_cases k2 : x ≤ y - 1
    · have HV : Hid (inR x 0 (y - 1) = true) := Lib.hid (HE.out.trans (by rw [decide_eq_true k1, decide_eq_true k2]; rfl))
      have k3 : x < y := by omega
      go_wp2_with fail
      go_ret
      exact ⟨by show _ = Ending.returned (.bool (inR f.base 0 (f.rev - 1))); rw [HX.out, HY.out, HV.out]; rfl, HB.out⟩
    · have HV : Hid (inR x 0 (y - 1) = false) := Lib.hid (HE.out.trans (by rw [decide_eq_false k2, Bool.and_false]))
      have k3 : ¬ x < y := by omega
      go_wp2_with fail
      go_ret
      exact ⟨by show _ = Ending.returned (.bool (inR f.base 0 (f.rev - 1))); rw [HX.out, HY.out, HV.out]; rfl, HB.out⟩
  · have HV : Hid (inR x 0 (y - 1) = false) := Lib.hid (HE.out.trans (by rw [decide_eq_false k1, Bool.false_and]))
    go_wp2_with fail
    go_ret
    exact ⟨by show _ = Ending.returned (.bool (inR f.base 0 (f.rev - 1))); rw [HX.out, HY.out, HV.out]; rfl, HB.out⟩
set_option maxRecDepth 100000 in
set_option maxHeartbeats 2000000 in
theorem right_108 {mem : Addr → Option Value} (e : FctE) (h : e.ok mem) (w : World) (hs : Sees mem w) :
    Calls Tryz.prog 44 #[.agg e.cells, .int .u8 108] w fun r w' => r = .returned (.bool (nameOK e.f.lang)) ∧ Below w.heap.size w w' := by
  obtain ⟨f, ta, tc, ba, bc, aa, ac⟩ := e
  have HN := Lib.hid (World.alloc_heap_new w (.cells (⟨f, ta, tc, ba, bc, aa, ac⟩ : FctE).cells 45))
  have HB := Lib.hid ((Below.refl w.heap.size w).alloc (Nat.le_refl _) (.cells (⟨f, ta, tc, ba, bc, aa, ac⟩ : FctE).cells 45))
  have HS := Lib.hid (hs.bel HB.out)
  have c1 : Hid (∀ W, Sees mem W → Calls Tryz.prog _ #[.string f.lang] W fun e w' => e = .returned (.bool (nameOK f.lang)) ∧ Below W.heap.size W w') := Lib.hid fun W _ => (isNameR_any f.lang W h.fok.s4).mono (by rintro e w' ⟨rfl, rfl⟩; exact ⟨rfl, Below.refl _ _⟩)
  clear hs h
  go_enter Tryz.func44, Tryz.ntmps44
  go_upto_region 1 with fail
  generalize hW1 : World.alloc w _ = W1 at *
  clear hW1
  have d4 : W1.cell? ⟨w.heap.size, 4, none⟩ = some (.string f.lang) := blk_cell HN.out 4
  go_wp2_with fail
  refine (c1.out _ HS.out).mono ?_
  rintro e w2 ⟨rfl, hb⟩
  have HB2 := Lib.hid (HB.out.trans (hb.mono HB.out.size))
  clear hb
  go_wp2_with fail
  go_ret
  exact ⟨rfl, HB2.out⟩
set_option maxRecDepth 100000 in
set_option maxHeartbeats 2000000 in
theorem right_116 {mem : Addr → Option Value} (e : FctE) (h : e.ok mem) (w : World) (hs : Sees mem w) :
    Calls Tryz.prog 44 #[.agg e.cells, .int .u8 116] w fun r w' => r = .returned (.bool (fullOK e.f.title)) ∧ Below w.heap.size w w' := by
  obtain ⟨f, ta, tc, ba, bc, aa, ac⟩ := e
  have HN := Lib.hid (World.alloc_heap_new w (.cells (⟨f, ta, tc, ba, bc, aa, ac⟩ : FctE).cells 45))
  have HB := Lib.hid ((Below.refl w.heap.size w).alloc (Nat.le_refl _) (.cells (⟨f, ta, tc, ba, bc, aa, ac⟩ : FctE).cells 45))
  have HS := Lib.hid (hs.bel HB.out)
  have c1 : Hid (∀ W, Sees mem W → Calls Tryz.prog _ #[.string f.title] W fun e w' => e = .returned (.bool (fullOK f.title)) ∧ Below W.heap.size W w') := Lib.hid fun W _ => (isText5_any f.title W h.fok.s7).mono (by rintro e w' ⟨rfl, rfl⟩; exact ⟨rfl, Below.refl _ _⟩)
  clear hs h
  go_enter Tryz.func44, Tryz.ntmps44
  go_upto_region 1 with fail
  generalize hW1 : World.alloc w _ = W1 at *
  clear hW1
  have d7 : W1.cell? ⟨w.heap.size, 7, none⟩ = some (.string f.title) := blk_cell HN.out 7
  go_wp2_with fail
  refine (c1.out _ HS.out).mono ?_
  rintro e w2 ⟨rfl, hb⟩
  have HB2 := Lib.hid (HB.out.trans (hb.mono HB.out.size))
  clear hb
  go_wp2_with fail
  go_ret
  exact ⟨rfl, HB2.out⟩
set_option maxRecDepth 100000 in
set_option maxHeartbeats 2000000 in
theorem right_117 {mem : Addr → Option Value} (e : FctE) (h : e.ok mem) (w : World) (hs : Sees mem w) :
    Calls Tryz.prog 44 #[.agg e.cells, .int .u8 117] w fun r w' => r = .returned (.bool (nameOK e.f.author)) ∧ Below w.heap.size w w' := by
  obtain ⟨f, ta, tc, ba, bc, aa, ac⟩ := e
  have HN := Lib.hid (World.alloc_heap_new w (.cells (⟨f, ta, tc, ba, bc, aa, ac⟩ : FctE).cells 45))
  have HB := Lib.hid ((Below.refl w.heap.size w).alloc (Nat.le_refl _) (.cells (⟨f, ta, tc, ba, bc, aa, ac⟩ : FctE).cells 45))
  have HS := Lib.hid (hs.bel HB.out)
  have c1 : Hid (∀ W, Sees mem W → Calls Tryz.prog _ #[.string f.author] W fun e w' => e = .returned (.bool (nameOK f.author)) ∧ Below W.heap.size W w') := Lib.hid fun W _ => (isNameR_any f.author W h.fok.s8).mono (by rintro e w' ⟨rfl, rfl⟩; exact ⟨rfl, Below.refl _ _⟩)
  clear hs h
  go_enter Tryz.func44, Tryz.ntmps44
  go_upto_region 1 with fail
  generalize hW1 : World.alloc w _ = W1 at *
  clear hW1
  have d8 : W1.cell? ⟨w.heap.size, 8, none⟩ = some (.string f.author) := blk_cell HN.out 8
  go_wp2_with fail
  refine (c1.out _ HS.out).mono ?_
  rintro e w2 ⟨rfl, hb⟩
  have HB2 := Lib.hid (HB.out.trans (hb.mono HB.out.size))
  clear hb
  go_wp2_with fail
  go_ret
  exact ⟨rfl, HB2.out⟩
set_option maxRecDepth 100000 in
set_option maxHeartbeats 2000000 in
theorem right_109 {mem : Addr → Option Value} (e : FctE) (h : e.ok mem) (w : World) (hs : Sees mem w) :
    Calls Tryz.prog 44 #[.agg e.cells, .int .u8 109] w fun r w' => r = .returned (.bool (nameOK e.f.name)) ∧ Below w.heap.size w w' := by
  obtain ⟨f, ta, tc, ba, bc, aa, ac⟩ := e
  have HN := Lib.hid (World.alloc_heap_new w (.cells (⟨f, ta, tc, ba, bc, aa, ac⟩ : FctE).cells 45))
  have HB := Lib.hid ((Below.refl w.heap.size w).alloc (Nat.le_refl _) (.cells (⟨f, ta, tc, ba, bc, aa, ac⟩ : FctE).cells 45))
  have HS := Lib.hid (hs.bel HB.out)
  have c1 : Hid (∀ W, Sees mem W → Calls Tryz.prog _ #[.string f.name] W fun e w' => e = .returned (.bool (nameOK f.name)) ∧ Below W.heap.size W w') := Lib.hid fun W _ => (isNameR_any f.name W h.fok.s19).mono (by rintro e w' ⟨rfl, rfl⟩; exact ⟨rfl, Below.refl _ _⟩)
  clear hs h
  go_enter Tryz.func44, Tryz.ntmps44
  go_upto_region 1 with fail
  generalize hW1 : World.alloc w _ = W1 at *
  clear hW1
  have d19 : W1.cell? ⟨w.heap.size, 19, none⟩ = some (.string f.name) := blk_cell HN.out 19
  go_wp2_with fail
  refine (c1.out _ HS.out).mono ?_
  rintro e w2 ⟨rfl, hb⟩
  have HB2 := Lib.hid (HB.out.trans (hb.mono HB.out.size))
  clear hb
  go_wp2_with fail
  go_ret
  exact ⟨rfl, HB2.out⟩
set_option maxRecDepth 100000 in
set_option maxHeartbeats 2000000 in
theorem right_120s {mem : Addr → Option Value} (e : FctE) (h : e.ok mem) (hk : e.f.kind = 7) (w : World) (hs : Sees mem w) :
    Calls Tryz.prog 44 #[.agg e.cells, .int .u8 120] w fun r w' => r = .returned (.bool (srcOK e.f.text)) ∧ Below w.heap.size w w' := by
  obtain ⟨f, ta, tc, ba, bc, aa, ac⟩ := e
  have HN := Lib.hid (World.alloc_heap_new w (.cells (⟨f, ta, tc, ba, bc, aa, ac⟩ : FctE).cells 45))
  have HB := Lib.hid ((Below.refl w.heap.size w).alloc (Nat.le_refl _) (.cells (⟨f, ta, tc, ba, bc, aa, ac⟩ : FctE).cells 45))
  have HS := Lib.hid (hs.bel HB.out)
  have c1 : Hid (∀ W, Sees mem W → Calls Tryz.prog _ #[.string f.text] W fun e w' => e = .returned (.bool (srcOK f.text)) ∧ Below W.heap.size W w') := Lib.hid fun W _ => (isSource5_any f.text W h.fok.s18).mono (by rintro e w' ⟨rfl, rfl⟩; exact ⟨rfl, Below.refl _ _⟩)
  dsimp only at hk
  clear hs h
  go_enter Tryz.func44, Tryz.ntmps44
  go_upto_region 1 with fail
  generalize hW1 : World.alloc w _ = W1 at *
  clear hW1
  have d2 : W1.cell? ⟨w.heap.size, 2, none⟩ = some (.int .i64 f.kind) := blk_cell HN.out 2
  have d18 : W1.cell? ⟨w.heap.size, 18, none⟩ = some (.string f.text) := blk_cell HN.out 18
  generalize f.kind = x at *
  go_wp2_with fail
  refine (c1.out _ HS.out).mono ?_
  rintro e w2 ⟨rfl, hb⟩
  have HB2 := Lib.hid (HB.out.trans (hb.mono HB.out.size))
  clear hb
  go_wp2_with fail
  go_ret
  exact ⟨rfl, HB2.out⟩
set_option maxRecDepth 100000 in
set_option maxHeartbeats 2000000 in
theorem right_120t {mem : Addr → Option Value} (e : FctE) (h : e.ok mem) (hk : ¬ e.f.kind = 7) (w : World) (hs : Sees mem w) :
    Calls Tryz.prog 44 #[.agg e.cells, .int .u8 120] w fun r w' => r = .returned (.bool (fullOK e.f.text)) ∧ Below w.heap.size w w' := by
  obtain ⟨f, ta, tc, ba, bc, aa, ac⟩ := e
  have HN := Lib.hid (World.alloc_heap_new w (.cells (⟨f, ta, tc, ba, bc, aa, ac⟩ : FctE).cells 45))
  have HB := Lib.hid ((Below.refl w.heap.size w).alloc (Nat.le_refl _) (.cells (⟨f, ta, tc, ba, bc, aa, ac⟩ : FctE).cells 45))
  have HS := Lib.hid (hs.bel HB.out)
  have c1 : Hid (∀ W, Sees mem W → Calls Tryz.prog _ #[.string f.text] W fun e w' => e = .returned (.bool (fullOK f.text)) ∧ Below W.heap.size W w') := Lib.hid fun W _ => (isText5_any f.text W h.fok.s18).mono (by rintro e w' ⟨rfl, rfl⟩; exact ⟨rfl, Below.refl _ _⟩)
  dsimp only at hk
  clear hs h
  go_enter Tryz.func44, Tryz.ntmps44
  go_upto_region 1 with fail
  generalize hW1 : World.alloc w _ = W1 at *
  clear hW1
  have d2 : W1.cell? ⟨w.heap.size, 2, none⟩ = some (.int .i64 f.kind) := blk_cell HN.out 2
  have d18 : W1.cell? ⟨w.heap.size, 18, none⟩ = some (.string f.text) := blk_cell HN.out 18
  generalize f.kind = x at *
  go_wp2_with fail
  refine (c1.out _ HS.out).mono ?_
  rintro e w2 ⟨rfl, hb⟩
  have HB2 := Lib.hid (HB.out.trans (hb.mono HB.out.size))
  clear hb
  go_wp2_with fail
  go_ret
  exact ⟨rfl, HB2.out⟩
set_option maxRecDepth 100000 in
set_option maxHeartbeats 2000000 in
theorem right_111 {mem : Addr → Option Value} (e : FctE) (h : e.ok mem) (w : World) (hs : Sees mem w) :
    Calls Tryz.prog 44 #[.agg e.cells, .int .u8 111] w fun r w' => r = .returned (.bool (topicsOK e.f.topics)) ∧ Below w.heap.size w w' := by
  obtain ⟨f, ta, tc, ba, bc, aa, ac⟩ := e
  have HN := Lib.hid (World.alloc_heap_new w (.cells (⟨f, ta, tc, ba, bc, aa, ac⟩ : FctE).cells 45))
  have HB := Lib.hid ((Below.refl w.heap.size w).alloc (Nat.le_refl _) (.cells (⟨f, ta, tc, ba, bc, aa, ac⟩ : FctE).cells 45))
  have HS := Lib.hid (hs.bel HB.out)
  have hp : Parts mem f (.slice ta f.topics.length tc) (.slice ba f.blocks.length bc) (.slice aa f.lab.after.length ac) := h.parts
  have c1 : Hid (∀ W, Sees mem W → Calls Tryz.prog _ #[.slice ta f.topics.length tc] W fun e w' => e = .returned (.bool (topicsOK f.topics)) ∧ Below W.heap.size W w') := Lib.hid fun W hW => areTopics5_any hp.1 W hW
  clear hs h hp
  go_enter Tryz.func44, Tryz.ntmps44
  go_upto_region 1 with fail
  generalize hW1 : World.alloc w _ = W1 at *
  clear hW1
  have d9 : W1.cell? ⟨w.heap.size, 9, none⟩ = some (.slice ta f.topics.length tc) := blk_cell HN.out 9
  go_wp2_with fail
  refine (c1.out _ HS.out).mono ?_
  rintro e w2 ⟨rfl, hb⟩
  have HB2 := Lib.hid (HB.out.trans (hb.mono HB.out.size))
  clear hb
  go_wp2_with fail
  go_ret
  exact ⟨rfl, HB2.out⟩
set_option maxRecDepth 100000 in
set_option maxHeartbeats 2000000 in
theorem right_98 {mem : Addr → Option Value} (e : FctE) (h : e.ok mem) (w : World) (hs : Sees mem w) :
    Calls Tryz.prog 44 #[.agg e.cells, .int .u8 98] w fun r w' => r = .returned (.bool (decide (ValidL e.f.blocks))) ∧ Below w.heap.size w w' := by
  obtain ⟨f, ta, tc, ba, bc, aa, ac⟩ := e
  have HN := Lib.hid (World.alloc_heap_new w (.cells (⟨f, ta, tc, ba, bc, aa, ac⟩ : FctE).cells 45))
  have HB := Lib.hid ((Below.refl w.heap.size w).alloc (Nat.le_refl _) (.cells (⟨f, ta, tc, ba, bc, aa, ac⟩ : FctE).cells 45))
  have HS := Lib.hid (hs.bel HB.out)
  have hp : Parts mem f (.slice ta f.topics.length tc) (.slice ba f.blocks.length bc) (.slice aa f.lab.after.length ac) := h.parts
  have c1 : Hid (∀ W, Sees mem W → Calls Tryz.prog _ #[.slice ba f.blocks.length bc] W fun e w' => e = .returned (.bool (decide (ValidL f.blocks))) ∧ Below W.heap.size W w') := Lib.hid fun W hW => validListR_any hp.2.1 W hW
  clear hs h hp
  go_enter Tryz.func44, Tryz.ntmps44
  go_upto_region 1 with fail
  generalize hW1 : World.alloc w _ = W1 at *
  clear hW1
  have d10 : W1.cell? ⟨w.heap.size, 10, none⟩ = some (.slice ba f.blocks.length bc) := blk_cell HN.out 10
  go_wp2_with fail
  refine (c1.out _ HS.out).mono ?_
  rintro e w2 ⟨rfl, hb⟩
  have HB2 := Lib.hid (HB.out.trans (hb.mono HB.out.size))
  clear hb
  go_wp2_with fail
  go_ret
  exact ⟨rfl, HB2.out⟩
set_option maxRecDepth 100000 in
set_option maxHeartbeats 2000000 in
theorem right_76 {mem : Addr → Option Value} (e : FctE) (h : e.ok mem) (w : World) (hs : Sees mem w) :
    Calls Tryz.prog 44 #[.agg e.cells, .int .u8 76] w fun r w' => r = .returned (.bool (validLab e.f.lab)) ∧ Below w.heap.size w w' := by
  obtain ⟨f, ta, tc, ba, bc, aa, ac⟩ := e
  have HN := Lib.hid (World.alloc_heap_new w (.cells (⟨f, ta, tc, ba, bc, aa, ac⟩ : FctE).cells 45))
  have HB := Lib.hid ((Below.refl w.heap.size w).alloc (Nat.le_refl _) (.cells (⟨f, ta, tc, ba, bc, aa, ac⟩ : FctE).cells 45))
  have HS := Lib.hid (hs.bel HB.out)
  have hp : Parts mem f (.slice ta f.topics.length tc) (.slice ba f.blocks.length bc) (.slice aa f.lab.after.length ac) := h.parts
  have c1 : Hid (∀ W, Sees mem W → Calls Tryz.prog _ #[.agg (labCells f.lab (.slice aa f.lab.after.length ac))] W fun e w' => e = .returned (.bool (validLab f.lab)) ∧ Below W.heap.size W w') := Lib.hid fun W hW => labValidR_any f.lab _ hp.2.2 W hW
  clear hs h hp
  go_enter Tryz.func44, Tryz.ntmps44
  go_upto_region 1 with fail
  generalize hW1 : World.alloc w _ = W1 at *
  clear hW1
  have d11 : W1.cell? ⟨w.heap.size, 11, none⟩ = some (.int .i64 f.lab.till) := blk_cell HN.out 11
  have d12 : W1.cell? ⟨w.heap.size, 12, none⟩ = some (.slice aa f.lab.after.length ac) := blk_cell HN.out 12
  have d13 : W1.cell? ⟨w.heap.size, 13, none⟩ = some (.int .i64 f.lab.appr) := blk_cell HN.out 13
  have d14 : W1.cell? ⟨w.heap.size, 14, none⟩ = some (.int .i64 f.lab.denied) := blk_cell HN.out 14
  go_wp2_with fail
  refine (c1.out _ HS.out).mono ?_
  rintro e w2 ⟨rfl, hb⟩
  have HB2 := Lib.hid (HB.out.trans (hb.mono HB.out.size))
  clear hb
  go_wp2_with fail
  go_ret
  exact ⟨rfl, HB2.out⟩
end Go.Proofs.YtgbihmafmmeicaaGreatDoor
/-
  WHAT IS PROVED HERE: the reference's right at the fields of the laws' kinds, and without. No condition but that the fact lies in memory. Printed by tools/ahj.py.
-/
namespace Go.Proofs.YtgbihmafmmeicaaGreatDoor
open Go.RowKit Mg Go.Shelf

/-- the fields of the laws' kinds -/
def lawC : List UInt8 := [115, 108, 114, 97, 116, 117, 111, 98, 76, 101, 107, 110, 120, 109]
/-- a field is as it must be -/
def rightF (f : Fct) (c : UInt8) : Bool :=
  if c = 115 then (inR f.story 1 64) else
  if c = 108 then (nameOK f.lang) else
  if c = 114 then (inR f.rev 1 100) else
  if c = 97 then (inR f.base 0 (f.rev - 1)) else
  if c = 116 then (fullOK f.title) else
  if c = 117 then (nameOK f.author) else
  if c = 111 then (topicsOK f.topics) else
  if c = 98 then (decide (ValidL f.blocks)) else
  if c = 76 then (validLab f.lab) else
  if c = 101 then (inR f.editor 1 5) else
  if c = 107 then (inR f.block 1 1000) else
  if c = 110 then (inR f.sentence 0 299) else
  if c = 120 then (if f.kind = 7 then srcOK f.text else fullOK f.text) else
  if c = 109 then (nameOK f.name) else
  false
/-- the fact without a field -/
def dropE (e : FctE) (c : UInt8) : FctE :=
  if c = 115 then { e with f := { e.f with story := 0 } } else
  if c = 108 then { e with f := { e.f with lang := str0 } } else
  if c = 114 then { e with f := { e.f with rev := 0 } } else
  if c = 97 then { e with f := { e.f with base := 0 } } else
  if c = 116 then { e with f := { e.f with title := str0 } } else
  if c = 117 then { e with f := { e.f with author := str0 } } else
  if c = 111 then { e with f := { e.f with topics := [] }, ta := none, tc := 0 } else
  if c = 98 then { e with f := { e.f with blocks := [] }, ba := none, bc := 0 } else
  if c = 76 then { e with f := { e.f with lab := lab0 }, aa := none, ac := 0 } else
  if c = 101 then { e with f := { e.f with editor := 0 } } else
  if c = 107 then { e with f := { e.f with block := 0 } } else
  if c = 110 then { e with f := { e.f with sentence := 0 } } else
  if c = 120 then { e with f := { e.f with text := str0 } } else
  if c = 109 then { e with f := { e.f with name := str0 } } else
  e
theorem right_any {mem : Addr → Option Value} (e : FctE) (h : e.ok mem) (c : UInt8) (hc : c ∈ lawC) (w : World) (hs : Sees mem w) :
    Calls Tryz.prog 44 #[.agg e.cells, .int .u8 c.toNat] w fun r w' => r = .returned (.bool (rightF e.f c)) ∧ Below w.heap.size w w' := by
  unfold lawC at hc
  simp only [List.mem_cons, List.not_mem_nil, or_false] at hc
  rcases hc with rfl | rfl | rfl | rfl | rfl | rfl | rfl | rfl | rfl | rfl | rfl | rfl | rfl | rfl
  · exact right_115 e h w hs
  · exact right_108 e h w hs
  · exact right_114 e h w hs
  · exact right_97 e h w hs
  · exact right_116 e h w hs
  · exact right_117 e h w hs
  · exact right_111 e h w hs
  · exact right_98 e h w hs
  · exact right_76 e h w hs
  · exact right_101 e h w hs
  · exact right_107 e h w hs
  · exact right_110 e h w hs
  · have HR : rightF e.f 120 = if e.f.kind = 7 then srcOK e.f.text else fullOK e.f.text := rfl
    by_cases h7 : e.f.kind = 7
    · rw [HR, if_pos h7]
      exact right_120s e h h7 w hs
    · rw [HR, if_neg h7]
      exact right_120t e h h7 w hs
  · exact right_109 e h w hs
/-- the two blocks of without: its argument, its result -/
structure GW (w : World) (A Z : Array Value) (W : World) : Prop where
  a : W.heap[w.heap.size]? = some (.cells A 45 (0, 0))
  z : W.heap[w.heap.size + 1]? = some (.cells Z 45 (0, 0))
  b : Below w.heap.size w W
theorem GW.new (w : World) (A Z : Array Value) : GW w A Z ((w.alloc (.cells A 45)).alloc (.cells Z 45)) :=
  ⟨heap_new1 w _ _, heap_new2 w _ _, ((Below.refl _ w).alloc (Nat.le_refl _) _).alloc (by simp) _⟩
section
variable {w W W' : World} {A Z : Array Value}
theorem GW.setZ (h : GW w A Z W) (cs : Array Value) : GW w A cs (W.setRow (w.heap.size + 1) cs) :=
  ⟨(setRow_other _ _ _ _ (by omega)).trans h.a, setRow_heap _ _ _ _ _ _ h.z, below_setRow h.b (by omega) _⟩
theorem GW.setA (h : GW w A Z W) (j : Nat) (v : Value) : GW w (A.setIfInBounds j v) Z (W.setCell ⟨w.heap.size, j, none⟩ v) := by
  rw [setCell_eq_setRow W _ j A 45 (0, 0) v h.a]
  exact ⟨setRow_heap _ _ _ _ _ _ h.a, (setRow_other _ _ _ _ (by omega)).trans h.z, below_setRow h.b (by omega) _⟩
theorem without_results (h : GW w A Z W) (hz : Z.size = 23) {t : Array Value} (h4 : t[4]? = some (.pointer (some ⟨w.heap.size + 1, 0, none⟩))) :
    (results Tryz.f45 t).run Tryz.prog W = .ok (.agg Z) W := by
  obtain ⟨fs, hu⟩ := fct_under
  have hl := run_loadVar_row (P := Tryz.prog) W (w.heap.size + 1) 45 45 Z (0, 0) _ h.z hu rfl (by rw [fct_size, hz])
  simp [results, h4, hl, asAddr]
end
set_option maxRecDepth 100000 in
set_option maxHeartbeats 2000000 in
theorem without_115 (e : FctE) (w : World) :
    Calls Tryz.prog 45 #[.agg e.cells, .int .u8 115] w fun r w' => r = .returned (.agg (dropE e 115).cells) ∧ Below w.heap.size w w' := by
  obtain ⟨A, hA⟩ : ∃ A, e.cells = A := ⟨_, rfl⟩
  rw [hA]
  have hE : (dropE e 115).cells = (A.setIfInBounds 3 (.int .i64 0)) := by rw [← hA]; rfl
  have hz : Hid ((A.setIfInBounds 3 (.int .i64 0)).size = 23) := Lib.hid (by rw [← hE]; rfl)
  have hone : Hid ((A.setIfInBounds 3 (.int .i64 0)).all (·.oneCell') = true) := Lib.hid (by rw [← hE]; exact FctE.one _)
  rw [hE]
  obtain ⟨v3, hv3⟩ : ∃ v, A[3]? = some v := ⟨_, by rw [← hA]; rfl⟩
  clear hE hA
  go_enter Tryz.func45, Tryz.ntmps45
  go_upto_region 1 with fail
  generalize hW : World.alloc (World.alloc w _) _ = W1
  have h0 : Hid (GW w A zeroFct W1) := Lib.hid (by rw [← hW]; exact GW.new w _ _)
  clear hW
  have d3 := (blk_cell h0.out.a 3).trans hv3
  have g3 := blk_free h0.out.a 3
  go_upto_region 35 with fail
  generalize hW2 : (World.setCell W1 _ _) = W2
  have h1 : Hid (GW w (A.setIfInBounds 3 (.int .i64 0)) zeroFct W2) := Lib.hid (by rw [← hW2]; exact (h0.out).setA 3 (.int .i64 0))
  clear hW2
  go_wp2_with (first
    | ((with_reducible refine at_fload _ rfl ?_); go_must (refine wpList_fct_load rfl _ rfl w.heap.size (by simp [Act.eval]) _ h1.out.a hz.out ?_))
    | ((with_reducible refine at_fstore _ _ rfl ?_); go_must (refine wpList_store_rowTo rfl 45 _ _ rfl rfl (w.heap.size + 1) _ (by rfl) (by rfl) 45 _ h1.out.z (by rw [fct_size, hz.out]) (by rw [hz.out]; rfl) hone.out ?_)))
  refine bodyPost_ret (without_results (h1.out.setZ _) hz.out (by rfl)) rfl ?_
  exact ⟨rfl, (h1.out.setZ _).b⟩
set_option maxRecDepth 100000 in
set_option maxHeartbeats 2000000 in
theorem without_108 (e : FctE) (w : World) :
    Calls Tryz.prog 45 #[.agg e.cells, .int .u8 108] w fun r w' => r = .returned (.agg (dropE e 108).cells) ∧ Below w.heap.size w w' := by
  obtain ⟨A, hA⟩ : ∃ A, e.cells = A := ⟨_, rfl⟩
  rw [hA]
  have hE : (dropE e 108).cells = (A.setIfInBounds 4 (.string .empty)) := by rw [← hA]; rfl
  have hz : Hid ((A.setIfInBounds 4 (.string .empty)).size = 23) := Lib.hid (by rw [← hE]; rfl)
  have hone : Hid ((A.setIfInBounds 4 (.string .empty)).all (·.oneCell') = true) := Lib.hid (by rw [← hE]; exact FctE.one _)
  rw [hE]
  obtain ⟨v4, hv4⟩ : ∃ v, A[4]? = some v := ⟨_, by rw [← hA]; rfl⟩
  clear hE hA
  go_enter Tryz.func45, Tryz.ntmps45
  go_upto_region 1 with fail
  generalize hW : World.alloc (World.alloc w _) _ = W1
  have h0 : Hid (GW w A zeroFct W1) := Lib.hid (by rw [← hW]; exact GW.new w _ _)
  clear hW
  have d4 := (blk_cell h0.out.a 4).trans hv4
  have g4 := blk_free h0.out.a 4
  go_upto_region 35 with fail
  generalize hW2 : (World.setCell W1 _ _) = W2
  have h1 : Hid (GW w (A.setIfInBounds 4 (.string .empty)) zeroFct W2) := Lib.hid (by rw [← hW2]; exact (h0.out).setA 4 (.string .empty))
  clear hW2
  go_wp2_with (first
    | ((with_reducible refine at_fload _ rfl ?_); go_must (refine wpList_fct_load rfl _ rfl w.heap.size (by simp [Act.eval]) _ h1.out.a hz.out ?_))
    | ((with_reducible refine at_fstore _ _ rfl ?_); go_must (refine wpList_store_rowTo rfl 45 _ _ rfl rfl (w.heap.size + 1) _ (by rfl) (by rfl) 45 _ h1.out.z (by rw [fct_size, hz.out]) (by rw [hz.out]; rfl) hone.out ?_)))
  refine bodyPost_ret (without_results (h1.out.setZ _) hz.out (by rfl)) rfl ?_
  exact ⟨rfl, (h1.out.setZ _).b⟩
set_option maxRecDepth 100000 in
set_option maxHeartbeats 2000000 in
theorem without_114 (e : FctE) (w : World) :
    Calls Tryz.prog 45 #[.agg e.cells, .int .u8 114] w fun r w' => r = .returned (.agg (dropE e 114).cells) ∧ Below w.heap.size w w' := by
  obtain ⟨A, hA⟩ : ∃ A, e.cells = A := ⟨_, rfl⟩
  rw [hA]
  have hE : (dropE e 114).cells = (A.setIfInBounds 5 (.int .i64 0)) := by rw [← hA]; rfl
  have hz : Hid ((A.setIfInBounds 5 (.int .i64 0)).size = 23) := Lib.hid (by rw [← hE]; rfl)
  have hone : Hid ((A.setIfInBounds 5 (.int .i64 0)).all (·.oneCell') = true) := Lib.hid (by rw [← hE]; exact FctE.one _)
  rw [hE]
  obtain ⟨v5, hv5⟩ : ∃ v, A[5]? = some v := ⟨_, by rw [← hA]; rfl⟩
  clear hE hA
  go_enter Tryz.func45, Tryz.ntmps45
  go_upto_region 1 with fail
  generalize hW : World.alloc (World.alloc w _) _ = W1
  have h0 : Hid (GW w A zeroFct W1) := Lib.hid (by rw [← hW]; exact GW.new w _ _)
  clear hW
  have d5 := (blk_cell h0.out.a 5).trans hv5
  have g5 := blk_free h0.out.a 5
  go_upto_region 35 with fail
  generalize hW2 : (World.setCell W1 _ _) = W2
  have h1 : Hid (GW w (A.setIfInBounds 5 (.int .i64 0)) zeroFct W2) := Lib.hid (by rw [← hW2]; exact (h0.out).setA 5 (.int .i64 0))
  clear hW2
  go_wp2_with (first
    | ((with_reducible refine at_fload _ rfl ?_); go_must (refine wpList_fct_load rfl _ rfl w.heap.size (by simp [Act.eval]) _ h1.out.a hz.out ?_))
    | ((with_reducible refine at_fstore _ _ rfl ?_); go_must (refine wpList_store_rowTo rfl 45 _ _ rfl rfl (w.heap.size + 1) _ (by rfl) (by rfl) 45 _ h1.out.z (by rw [fct_size, hz.out]) (by rw [hz.out]; rfl) hone.out ?_)))
  refine bodyPost_ret (without_results (h1.out.setZ _) hz.out (by rfl)) rfl ?_
  exact ⟨rfl, (h1.out.setZ _).b⟩
set_option maxRecDepth 100000 in
set_option maxHeartbeats 2000000 in
theorem without_97 (e : FctE) (w : World) :
    Calls Tryz.prog 45 #[.agg e.cells, .int .u8 97] w fun r w' => r = .returned (.agg (dropE e 97).cells) ∧ Below w.heap.size w w' := by
  obtain ⟨A, hA⟩ : ∃ A, e.cells = A := ⟨_, rfl⟩
  rw [hA]
  have hE : (dropE e 97).cells = (A.setIfInBounds 6 (.int .i64 0)) := by rw [← hA]; rfl
  have hz : Hid ((A.setIfInBounds 6 (.int .i64 0)).size = 23) := Lib.hid (by rw [← hE]; rfl)
  have hone : Hid ((A.setIfInBounds 6 (.int .i64 0)).all (·.oneCell') = true) := Lib.hid (by rw [← hE]; exact FctE.one _)
  rw [hE]
  obtain ⟨v6, hv6⟩ : ∃ v, A[6]? = some v := ⟨_, by rw [← hA]; rfl⟩
  clear hE hA
  go_enter Tryz.func45, Tryz.ntmps45
  go_upto_region 1 with fail
  generalize hW : World.alloc (World.alloc w _) _ = W1
  have h0 : Hid (GW w A zeroFct W1) := Lib.hid (by rw [← hW]; exact GW.new w _ _)
  clear hW
  have d6 := (blk_cell h0.out.a 6).trans hv6
  have g6 := blk_free h0.out.a 6
  go_upto_region 35 with fail
  generalize hW2 : (World.setCell W1 _ _) = W2
  have h1 : Hid (GW w (A.setIfInBounds 6 (.int .i64 0)) zeroFct W2) := Lib.hid (by rw [← hW2]; exact (h0.out).setA 6 (.int .i64 0))
  clear hW2
  go_wp2_with (first
    | ((with_reducible refine at_fload _ rfl ?_); go_must (refine wpList_fct_load rfl _ rfl w.heap.size (by simp [Act.eval]) _ h1.out.a hz.out ?_))
    | ((with_reducible refine at_fstore _ _ rfl ?_); go_must (refine wpList_store_rowTo rfl 45 _ _ rfl rfl (w.heap.size + 1) _ (by rfl) (by rfl) 45 _ h1.out.z (by rw [fct_size, hz.out]) (by rw [hz.out]; rfl) hone.out ?_)))
  refine bodyPost_ret (without_results (h1.out.setZ _) hz.out (by rfl)) rfl ?_
  exact ⟨rfl, (h1.out.setZ _).b⟩
set_option maxRecDepth 100000 in
set_option maxHeartbeats 2000000 in
theorem without_116 (e : FctE) (w : World) :
    Calls Tryz.prog 45 #[.agg e.cells, .int .u8 116] w fun r w' => r = .returned (.agg (dropE e 116).cells) ∧ Below w.heap.size w w' := by
  obtain ⟨A, hA⟩ : ∃ A, e.cells = A := ⟨_, rfl⟩
  rw [hA]
  have hE : (dropE e 116).cells = (A.setIfInBounds 7 (.string .empty)) := by rw [← hA]; rfl
  have hz : Hid ((A.setIfInBounds 7 (.string .empty)).size = 23) := Lib.hid (by rw [← hE]; rfl)
  have hone : Hid ((A.setIfInBounds 7 (.string .empty)).all (·.oneCell') = true) := Lib.hid (by rw [← hE]; exact FctE.one _)
  rw [hE]
  obtain ⟨v7, hv7⟩ : ∃ v, A[7]? = some v := ⟨_, by rw [← hA]; rfl⟩
  clear hE hA
  go_enter Tryz.func45, Tryz.ntmps45
  go_upto_region 1 with fail
  generalize hW : World.alloc (World.alloc w _) _ = W1
  have h0 : Hid (GW w A zeroFct W1) := Lib.hid (by rw [← hW]; exact GW.new w _ _)
  clear hW
  have d7 := (blk_cell h0.out.a 7).trans hv7
  have g7 := blk_free h0.out.a 7
  go_upto_region 35 with fail
  generalize hW2 : (World.setCell W1 _ _) = W2
  have h1 : Hid (GW w (A.setIfInBounds 7 (.string .empty)) zeroFct W2) := Lib.hid (by rw [← hW2]; exact (h0.out).setA 7 (.string .empty))
  clear hW2
  go_wp2_with (first
    | ((with_reducible refine at_fload _ rfl ?_); go_must (refine wpList_fct_load rfl _ rfl w.heap.size (by simp [Act.eval]) _ h1.out.a hz.out ?_))
    | ((with_reducible refine at_fstore _ _ rfl ?_); go_must (refine wpList_store_rowTo rfl 45 _ _ rfl rfl (w.heap.size + 1) _ (by rfl) (by rfl) 45 _ h1.out.z (by rw [fct_size, hz.out]) (by rw [hz.out]; rfl) hone.out ?_)))
  refine bodyPost_ret (without_results (h1.out.setZ _) hz.out (by rfl)) rfl ?_
  exact ⟨rfl, (h1.out.setZ _).b⟩
set_option maxRecDepth 100000 in
set_option maxHeartbeats 2000000 in
theorem without_117 (e : FctE) (w : World) :
    Calls Tryz.prog 45 #[.agg e.cells, .int .u8 117] w fun r w' => r = .returned (.agg (dropE e 117).cells) ∧ Below w.heap.size w w' := by
  obtain ⟨A, hA⟩ : ∃ A, e.cells = A := ⟨_, rfl⟩
  rw [hA]
  have hE : (dropE e 117).cells = (A.setIfInBounds 8 (.string .empty)) := by rw [← hA]; rfl
  have hz : Hid ((A.setIfInBounds 8 (.string .empty)).size = 23) := Lib.hid (by rw [← hE]; rfl)
  have hone : Hid ((A.setIfInBounds 8 (.string .empty)).all (·.oneCell') = true) := Lib.hid (by rw [← hE]; exact FctE.one _)
  rw [hE]
  obtain ⟨v8, hv8⟩ : ∃ v, A[8]? = some v := ⟨_, by rw [← hA]; rfl⟩
  clear hE hA
  go_enter Tryz.func45, Tryz.ntmps45
  go_upto_region 1 with fail
  generalize hW : World.alloc (World.alloc w _) _ = W1
  have h0 : Hid (GW w A zeroFct W1) := Lib.hid (by rw [← hW]; exact GW.new w _ _)
  clear hW
  have d8 := (blk_cell h0.out.a 8).trans hv8
  have g8 := blk_free h0.out.a 8
  go_upto_region 35 with fail
  generalize hW2 : (World.setCell W1 _ _) = W2
  have h1 : Hid (GW w (A.setIfInBounds 8 (.string .empty)) zeroFct W2) := Lib.hid (by rw [← hW2]; exact (h0.out).setA 8 (.string .empty))
  clear hW2
  go_wp2_with (first
    | ((with_reducible refine at_fload _ rfl ?_); go_must (refine wpList_fct_load rfl _ rfl w.heap.size (by simp [Act.eval]) _ h1.out.a hz.out ?_))
    | ((with_reducible refine at_fstore _ _ rfl ?_); go_must (refine wpList_store_rowTo rfl 45 _ _ rfl rfl (w.heap.size + 1) _ (by rfl) (by rfl) 45 _ h1.out.z (by rw [fct_size, hz.out]) (by rw [hz.out]; rfl) hone.out ?_)))
  refine bodyPost_ret (without_results (h1.out.setZ _) hz.out (by rfl)) rfl ?_
  exact ⟨rfl, (h1.out.setZ _).b⟩
set_option maxRecDepth 100000 in
set_option maxHeartbeats 2000000 in
theorem without_111 (e : FctE) (w : World) :
    Calls Tryz.prog 45 #[.agg e.cells, .int .u8 111] w fun r w' => r = .returned (.agg (dropE e 111).cells) ∧ Below w.heap.size w w' := by
  obtain ⟨A, hA⟩ : ∃ A, e.cells = A := ⟨_, rfl⟩
  rw [hA]
  have hE : (dropE e 111).cells = (A.setIfInBounds 9 (.slice none 0 0)) := by rw [← hA]; rfl
  have hz : Hid ((A.setIfInBounds 9 (.slice none 0 0)).size = 23) := Lib.hid (by rw [← hE]; rfl)
  have hone : Hid ((A.setIfInBounds 9 (.slice none 0 0)).all (·.oneCell') = true) := Lib.hid (by rw [← hE]; exact FctE.one _)
  rw [hE]
  obtain ⟨v9, hv9⟩ : ∃ v, A[9]? = some v := ⟨_, by rw [← hA]; rfl⟩
  clear hE hA
  go_enter Tryz.func45, Tryz.ntmps45
  go_upto_region 1 with fail
  generalize hW : World.alloc (World.alloc w _) _ = W1
  have h0 : Hid (GW w A zeroFct W1) := Lib.hid (by rw [← hW]; exact GW.new w _ _)
  clear hW
  have d9 := (blk_cell h0.out.a 9).trans hv9
  have g9 := blk_free h0.out.a 9
  go_upto_region 35 with fail
  generalize hW2 : (World.setCell W1 _ _) = W2
  have h1 : Hid (GW w (A.setIfInBounds 9 (.slice none 0 0)) zeroFct W2) := Lib.hid (by rw [← hW2]; exact (h0.out).setA 9 (.slice none 0 0))
  clear hW2
  go_wp2_with (first
    | ((with_reducible refine at_fload _ rfl ?_); go_must (refine wpList_fct_load rfl _ rfl w.heap.size (by simp [Act.eval]) _ h1.out.a hz.out ?_))
    | ((with_reducible refine at_fstore _ _ rfl ?_); go_must (refine wpList_store_rowTo rfl 45 _ _ rfl rfl (w.heap.size + 1) _ (by rfl) (by rfl) 45 _ h1.out.z (by rw [fct_size, hz.out]) (by rw [hz.out]; rfl) hone.out ?_)))
  refine bodyPost_ret (without_results (h1.out.setZ _) hz.out (by rfl)) rfl ?_
  exact ⟨rfl, (h1.out.setZ _).b⟩
set_option maxRecDepth 100000 in
set_option maxHeartbeats 2000000 in
theorem without_98 (e : FctE) (w : World) :
    Calls Tryz.prog 45 #[.agg e.cells, .int .u8 98] w fun r w' => r = .returned (.agg (dropE e 98).cells) ∧ Below w.heap.size w w' := by
  obtain ⟨A, hA⟩ : ∃ A, e.cells = A := ⟨_, rfl⟩
  rw [hA]
  have hE : (dropE e 98).cells = (A.setIfInBounds 10 (.slice none 0 0)) := by rw [← hA]; rfl
  have hz : Hid ((A.setIfInBounds 10 (.slice none 0 0)).size = 23) := Lib.hid (by rw [← hE]; rfl)
  have hone : Hid ((A.setIfInBounds 10 (.slice none 0 0)).all (·.oneCell') = true) := Lib.hid (by rw [← hE]; exact FctE.one _)
  rw [hE]
  obtain ⟨v10, hv10⟩ : ∃ v, A[10]? = some v := ⟨_, by rw [← hA]; rfl⟩
  clear hE hA
  go_enter Tryz.func45, Tryz.ntmps45
  go_upto_region 1 with fail
  generalize hW : World.alloc (World.alloc w _) _ = W1
  have h0 : Hid (GW w A zeroFct W1) := Lib.hid (by rw [← hW]; exact GW.new w _ _)
  clear hW
  have d10 := (blk_cell h0.out.a 10).trans hv10
  have g10 := blk_free h0.out.a 10
  go_upto_region 35 with fail
  generalize hW2 : (World.setCell W1 _ _) = W2
  have h1 : Hid (GW w (A.setIfInBounds 10 (.slice none 0 0)) zeroFct W2) := Lib.hid (by rw [← hW2]; exact (h0.out).setA 10 (.slice none 0 0))
  clear hW2
  go_wp2_with (first
    | ((with_reducible refine at_fload _ rfl ?_); go_must (refine wpList_fct_load rfl _ rfl w.heap.size (by simp [Act.eval]) _ h1.out.a hz.out ?_))
    | ((with_reducible refine at_fstore _ _ rfl ?_); go_must (refine wpList_store_rowTo rfl 45 _ _ rfl rfl (w.heap.size + 1) _ (by rfl) (by rfl) 45 _ h1.out.z (by rw [fct_size, hz.out]) (by rw [hz.out]; rfl) hone.out ?_)))
  refine bodyPost_ret (without_results (h1.out.setZ _) hz.out (by rfl)) rfl ?_
  exact ⟨rfl, (h1.out.setZ _).b⟩
set_option maxRecDepth 100000 in
set_option maxHeartbeats 2000000 in
theorem without_76 (e : FctE) (w : World) :
    Calls Tryz.prog 45 #[.agg e.cells, .int .u8 76] w fun r w' => r = .returned (.agg (dropE e 76).cells) ∧ Below w.heap.size w w' := by
  obtain ⟨A, hA⟩ : ∃ A, e.cells = A := ⟨_, rfl⟩
  rw [hA]
  have hE : (dropE e 76).cells = ((((A.setIfInBounds 11 (.int .i64 0)).setIfInBounds 12 (.slice none 0 0)).setIfInBounds 13 (.int .i64 0)).setIfInBounds 14 (.int .i64 0)) := by rw [← hA]; rfl
  have hz : Hid (((((A.setIfInBounds 11 (.int .i64 0)).setIfInBounds 12 (.slice none 0 0)).setIfInBounds 13 (.int .i64 0)).setIfInBounds 14 (.int .i64 0)).size = 23) := Lib.hid (by rw [← hE]; rfl)
  have hone : Hid (((((A.setIfInBounds 11 (.int .i64 0)).setIfInBounds 12 (.slice none 0 0)).setIfInBounds 13 (.int .i64 0)).setIfInBounds 14 (.int .i64 0)).all (·.oneCell') = true) := Lib.hid (by rw [← hE]; exact FctE.one _)
  rw [hE]
  obtain ⟨v11, hv11⟩ : ∃ v, A[11]? = some v := ⟨_, by rw [← hA]; rfl⟩
  obtain ⟨v12, hv12⟩ : ∃ v, A[12]? = some v := ⟨_, by rw [← hA]; rfl⟩
  obtain ⟨v13, hv13⟩ : ∃ v, A[13]? = some v := ⟨_, by rw [← hA]; rfl⟩
  obtain ⟨v14, hv14⟩ : ∃ v, A[14]? = some v := ⟨_, by rw [← hA]; rfl⟩
  clear hE hA
  go_enter Tryz.func45, Tryz.ntmps45
  go_upto_region 1 with fail
  generalize hW : World.alloc (World.alloc w _) _ = W1
  have h0 : Hid (GW w A zeroFct W1) := Lib.hid (by rw [← hW]; exact GW.new w _ _)
  clear hW
  have d11 := (blk_cell h0.out.a 11).trans hv11
  have g11 := blk_free h0.out.a 11
  have d12 := (blk_cell h0.out.a 12).trans hv12
  have g12 := blk_free h0.out.a 12
  have d13 := (blk_cell h0.out.a 13).trans hv13
  have g13 := blk_free h0.out.a 13
  have d14 := (blk_cell h0.out.a 14).trans hv14
  have g14 := blk_free h0.out.a 14
  go_upto_region 35 with fail
  generalize hW2 : (World.setCell (World.setCell (World.setCell (World.setCell W1 _ _) _ _) _ _) _ _) = W2
  have h1 : Hid (GW w ((((A.setIfInBounds 11 (.int .i64 0)).setIfInBounds 12 (.slice none 0 0)).setIfInBounds 13 (.int .i64 0)).setIfInBounds 14 (.int .i64 0)) zeroFct W2) := Lib.hid (by rw [← hW2]; exact ((((h0.out).setA 11 (.int .i64 0)).setA 12 (.slice none 0 0)).setA 13 (.int .i64 0)).setA 14 (.int .i64 0))
  clear hW2
  go_wp2_with (first
    | ((with_reducible refine at_fload _ rfl ?_); go_must (refine wpList_fct_load rfl _ rfl w.heap.size (by simp [Act.eval]) _ h1.out.a hz.out ?_))
    | ((with_reducible refine at_fstore _ _ rfl ?_); go_must (refine wpList_store_rowTo rfl 45 _ _ rfl rfl (w.heap.size + 1) _ (by rfl) (by rfl) 45 _ h1.out.z (by rw [fct_size, hz.out]) (by rw [hz.out]; rfl) hone.out ?_)))
  refine bodyPost_ret (without_results (h1.out.setZ _) hz.out (by rfl)) rfl ?_
  exact ⟨rfl, (h1.out.setZ _).b⟩
set_option maxRecDepth 100000 in
set_option maxHeartbeats 2000000 in
theorem without_101 (e : FctE) (w : World) :
    Calls Tryz.prog 45 #[.agg e.cells, .int .u8 101] w fun r w' => r = .returned (.agg (dropE e 101).cells) ∧ Below w.heap.size w w' := by
  obtain ⟨A, hA⟩ : ∃ A, e.cells = A := ⟨_, rfl⟩
  rw [hA]
  have hE : (dropE e 101).cells = (A.setIfInBounds 15 (.int .i64 0)) := by rw [← hA]; rfl
  have hz : Hid ((A.setIfInBounds 15 (.int .i64 0)).size = 23) := Lib.hid (by rw [← hE]; rfl)
  have hone : Hid ((A.setIfInBounds 15 (.int .i64 0)).all (·.oneCell') = true) := Lib.hid (by rw [← hE]; exact FctE.one _)
  rw [hE]
  obtain ⟨v15, hv15⟩ : ∃ v, A[15]? = some v := ⟨_, by rw [← hA]; rfl⟩
  clear hE hA
  go_enter Tryz.func45, Tryz.ntmps45
  go_upto_region 1 with fail
  generalize hW : World.alloc (World.alloc w _) _ = W1
  have h0 : Hid (GW w A zeroFct W1) := Lib.hid (by rw [← hW]; exact GW.new w _ _)
  clear hW
  have d15 := (blk_cell h0.out.a 15).trans hv15
  have g15 := blk_free h0.out.a 15
  go_upto_region 35 with fail
  generalize hW2 : (World.setCell W1 _ _) = W2
  have h1 : Hid (GW w (A.setIfInBounds 15 (.int .i64 0)) zeroFct W2) := Lib.hid (by rw [← hW2]; exact (h0.out).setA 15 (.int .i64 0))
  clear hW2
  go_wp2_with (first
    | ((with_reducible refine at_fload _ rfl ?_); go_must (refine wpList_fct_load rfl _ rfl w.heap.size (by simp [Act.eval]) _ h1.out.a hz.out ?_))
    | ((with_reducible refine at_fstore _ _ rfl ?_); go_must (refine wpList_store_rowTo rfl 45 _ _ rfl rfl (w.heap.size + 1) _ (by rfl) (by rfl) 45 _ h1.out.z (by rw [fct_size, hz.out]) (by rw [hz.out]; rfl) hone.out ?_)))
  refine bodyPost_ret (without_results (h1.out.setZ _) hz.out (by rfl)) rfl ?_
  exact ⟨rfl, (h1.out.setZ _).b⟩
set_option maxRecDepth 100000 in
set_option maxHeartbeats 2000000 in
theorem without_107 (e : FctE) (w : World) :
    Calls Tryz.prog 45 #[.agg e.cells, .int .u8 107] w fun r w' => r = .returned (.agg (dropE e 107).cells) ∧ Below w.heap.size w w' := by
  obtain ⟨A, hA⟩ : ∃ A, e.cells = A := ⟨_, rfl⟩
  rw [hA]
  have hE : (dropE e 107).cells = (A.setIfInBounds 16 (.int .i64 0)) := by rw [← hA]; rfl
  have hz : Hid ((A.setIfInBounds 16 (.int .i64 0)).size = 23) := Lib.hid (by rw [← hE]; rfl)
  have hone : Hid ((A.setIfInBounds 16 (.int .i64 0)).all (·.oneCell') = true) := Lib.hid (by rw [← hE]; exact FctE.one _)
  rw [hE]
  obtain ⟨v16, hv16⟩ : ∃ v, A[16]? = some v := ⟨_, by rw [← hA]; rfl⟩
  clear hE hA
  go_enter Tryz.func45, Tryz.ntmps45
  go_upto_region 1 with fail
  generalize hW : World.alloc (World.alloc w _) _ = W1
  have h0 : Hid (GW w A zeroFct W1) := Lib.hid (by rw [← hW]; exact GW.new w _ _)
  clear hW
  have d16 := (blk_cell h0.out.a 16).trans hv16
  have g16 := blk_free h0.out.a 16
  go_upto_region 35 with fail
  generalize hW2 : (World.setCell W1 _ _) = W2
  have h1 : Hid (GW w (A.setIfInBounds 16 (.int .i64 0)) zeroFct W2) := Lib.hid (by rw [← hW2]; exact (h0.out).setA 16 (.int .i64 0))
  clear hW2
  go_wp2_with (first
    | ((with_reducible refine at_fload _ rfl ?_); go_must (refine wpList_fct_load rfl _ rfl w.heap.size (by simp [Act.eval]) _ h1.out.a hz.out ?_))
    | ((with_reducible refine at_fstore _ _ rfl ?_); go_must (refine wpList_store_rowTo rfl 45 _ _ rfl rfl (w.heap.size + 1) _ (by rfl) (by rfl) 45 _ h1.out.z (by rw [fct_size, hz.out]) (by rw [hz.out]; rfl) hone.out ?_)))
  refine bodyPost_ret (without_results (h1.out.setZ _) hz.out (by rfl)) rfl ?_
  exact ⟨rfl, (h1.out.setZ _).b⟩
set_option maxRecDepth 100000 in
set_option maxHeartbeats 2000000 in
theorem without_110 (e : FctE) (w : World) :
    Calls Tryz.prog 45 #[.agg e.cells, .int .u8 110] w fun r w' => r = .returned (.agg (dropE e 110).cells) ∧ Below w.heap.size w w' := by
  obtain ⟨A, hA⟩ : ∃ A, e.cells = A := ⟨_, rfl⟩
  rw [hA]
  have hE : (dropE e 110).cells = (A.setIfInBounds 17 (.int .i64 0)) := by rw [← hA]; rfl
  have hz : Hid ((A.setIfInBounds 17 (.int .i64 0)).size = 23) := Lib.hid (by rw [← hE]; rfl)
  have hone : Hid ((A.setIfInBounds 17 (.int .i64 0)).all (·.oneCell') = true) := Lib.hid (by rw [← hE]; exact FctE.one _)
  rw [hE]
  obtain ⟨v17, hv17⟩ : ∃ v, A[17]? = some v := ⟨_, by rw [← hA]; rfl⟩
  clear hE hA
  go_enter Tryz.func45, Tryz.ntmps45
  go_upto_region 1 with fail
  generalize hW : World.alloc (World.alloc w _) _ = W1
  have h0 : Hid (GW w A zeroFct W1) := Lib.hid (by rw [← hW]; exact GW.new w _ _)
  clear hW
  have d17 := (blk_cell h0.out.a 17).trans hv17
  have g17 := blk_free h0.out.a 17
  go_upto_region 35 with fail
  generalize hW2 : (World.setCell W1 _ _) = W2
  have h1 : Hid (GW w (A.setIfInBounds 17 (.int .i64 0)) zeroFct W2) := Lib.hid (by rw [← hW2]; exact (h0.out).setA 17 (.int .i64 0))
  clear hW2
  go_wp2_with (first
    | ((with_reducible refine at_fload _ rfl ?_); go_must (refine wpList_fct_load rfl _ rfl w.heap.size (by simp [Act.eval]) _ h1.out.a hz.out ?_))
    | ((with_reducible refine at_fstore _ _ rfl ?_); go_must (refine wpList_store_rowTo rfl 45 _ _ rfl rfl (w.heap.size + 1) _ (by rfl) (by rfl) 45 _ h1.out.z (by rw [fct_size, hz.out]) (by rw [hz.out]; rfl) hone.out ?_)))
  refine bodyPost_ret (without_results (h1.out.setZ _) hz.out (by rfl)) rfl ?_
  exact ⟨rfl, (h1.out.setZ _).b⟩
set_option maxRecDepth 100000 in
set_option maxHeartbeats 2000000 in
theorem without_120 (e : FctE) (w : World) :
    Calls Tryz.prog 45 #[.agg e.cells, .int .u8 120] w fun r w' => r = .returned (.agg (dropE e 120).cells) ∧ Below w.heap.size w w' := by
  obtain ⟨A, hA⟩ : ∃ A, e.cells = A := ⟨_, rfl⟩
  rw [hA]
  have hE : (dropE e 120).cells = (A.setIfInBounds 18 (.string .empty)) := by rw [← hA]; rfl
  have hz : Hid ((A.setIfInBounds 18 (.string .empty)).size = 23) := Lib.hid (by rw [← hE]; rfl)
  have hone : Hid ((A.setIfInBounds 18 (.string .empty)).all (·.oneCell') = true) := Lib.hid (by rw [← hE]; exact FctE.one _)
  rw [hE]
  obtain ⟨v18, hv18⟩ : ∃ v, A[18]? = some v := ⟨_, by rw [← hA]; rfl⟩
  clear hE hA
  go_enter Tryz.func45, Tryz.ntmps45
  go_upto_region 1 with fail
  generalize hW : World.alloc (World.alloc w _) _ = W1
  have h0 : Hid (GW w A zeroFct W1) := Lib.hid (by rw [← hW]; exact GW.new w _ _)
  clear hW
  have d18 := (blk_cell h0.out.a 18).trans hv18
  have g18 := blk_free h0.out.a 18
  go_upto_region 35 with fail
  generalize hW2 : (World.setCell W1 _ _) = W2
  have h1 : Hid (GW w (A.setIfInBounds 18 (.string .empty)) zeroFct W2) := Lib.hid (by rw [← hW2]; exact (h0.out).setA 18 (.string .empty))
  clear hW2
  go_wp2_with (first
    | ((with_reducible refine at_fload _ rfl ?_); go_must (refine wpList_fct_load rfl _ rfl w.heap.size (by simp [Act.eval]) _ h1.out.a hz.out ?_))
    | ((with_reducible refine at_fstore _ _ rfl ?_); go_must (refine wpList_store_rowTo rfl 45 _ _ rfl rfl (w.heap.size + 1) _ (by rfl) (by rfl) 45 _ h1.out.z (by rw [fct_size, hz.out]) (by rw [hz.out]; rfl) hone.out ?_)))
  refine bodyPost_ret (without_results (h1.out.setZ _) hz.out (by rfl)) rfl ?_
  exact ⟨rfl, (h1.out.setZ _).b⟩
set_option maxRecDepth 100000 in
set_option maxHeartbeats 2000000 in
theorem without_109 (e : FctE) (w : World) :
    Calls Tryz.prog 45 #[.agg e.cells, .int .u8 109] w fun r w' => r = .returned (.agg (dropE e 109).cells) ∧ Below w.heap.size w w' := by
  obtain ⟨A, hA⟩ : ∃ A, e.cells = A := ⟨_, rfl⟩
  rw [hA]
  have hE : (dropE e 109).cells = (A.setIfInBounds 19 (.string .empty)) := by rw [← hA]; rfl
  have hz : Hid ((A.setIfInBounds 19 (.string .empty)).size = 23) := Lib.hid (by rw [← hE]; rfl)
  have hone : Hid ((A.setIfInBounds 19 (.string .empty)).all (·.oneCell') = true) := Lib.hid (by rw [← hE]; exact FctE.one _)
  rw [hE]
  obtain ⟨v19, hv19⟩ : ∃ v, A[19]? = some v := ⟨_, by rw [← hA]; rfl⟩
  clear hE hA
  go_enter Tryz.func45, Tryz.ntmps45
  go_upto_region 1 with fail
  generalize hW : World.alloc (World.alloc w _) _ = W1
  have h0 : Hid (GW w A zeroFct W1) := Lib.hid (by rw [← hW]; exact GW.new w _ _)
  clear hW
  have d19 := (blk_cell h0.out.a 19).trans hv19
  have g19 := blk_free h0.out.a 19
  go_upto_region 35 with fail
  generalize hW2 : (World.setCell W1 _ _) = W2
  have h1 : Hid (GW w (A.setIfInBounds 19 (.string .empty)) zeroFct W2) := Lib.hid (by rw [← hW2]; exact (h0.out).setA 19 (.string .empty))
  clear hW2
  go_wp2_with (first
    | ((with_reducible refine at_fload _ rfl ?_); go_must (refine wpList_fct_load rfl _ rfl w.heap.size (by simp [Act.eval]) _ h1.out.a hz.out ?_))
    | ((with_reducible refine at_fstore _ _ rfl ?_); go_must (refine wpList_store_rowTo rfl 45 _ _ rfl rfl (w.heap.size + 1) _ (by rfl) (by rfl) 45 _ h1.out.z (by rw [fct_size, hz.out]) (by rw [hz.out]; rfl) hone.out ?_)))
  refine bodyPost_ret (without_results (h1.out.setZ _) hz.out (by rfl)) rfl ?_
  exact ⟨rfl, (h1.out.setZ _).b⟩
theorem without_any (e : FctE) (c : UInt8) (hc : c ∈ lawC) (w : World) :
    Calls Tryz.prog 45 #[.agg e.cells, .int .u8 c.toNat] w fun r w' => r = .returned (.agg (dropE e c).cells) ∧ Below w.heap.size w w' := by
  unfold lawC at hc
  simp only [List.mem_cons, List.not_mem_nil, or_false] at hc
  rcases hc with rfl | rfl | rfl | rfl | rfl | rfl | rfl | rfl | rfl | rfl | rfl | rfl | rfl | rfl
  · exact without_115 e w
  · exact without_108 e w
  · exact without_114 e w
  · exact without_97 e w
  · exact without_116 e w
  · exact without_117 e w
  · exact without_111 e w
  · exact without_98 e w
  · exact without_76 e w
  · exact without_101 e w
  · exact without_107 e w
  · exact without_110 e w
  · exact without_120 e w
  · exact without_109 e w
end Go.Proofs.YtgbihmafmmeicaaGreatDoor
/-
  WHAT IS PROVED HERE: plain: which fields a kind uses, and what is left of a fact when all of them are dropped. No condition. Printed by tools/ahk.py.
-/
namespace Go.Proofs.YtgbihmafmmeicaaGreatDoor
open Go.RowKit Mg Go.Shelf

theorem okI_0 : okI 0 := ⟨by omega, by omega⟩
theorem str0_le : str0.size ≤ maxLen := Nat.zero_le _
theorem dropE_ok {mem : Addr → Option Value} (e : FctE) (h : e.ok mem) (c : UInt8) (hc : c ∈ lawC) : (dropE e c).ok mem := by
  unfold lawC at hc
  simp only [List.mem_cons, List.not_mem_nil, or_false] at hc
  have F := h.fok
  have P := h.parts
  rcases hc with rfl | rfl | rfl | rfl | rfl | rfl | rfl | rfl | rfl | rfl | rfl | rfl | rfl | rfl
  · exact ⟨⟨F.i0, F.i1, F.i2, okI_0, F.s4, F.i5, F.i6, F.s7, F.s8, F.i11, F.i13, F.i14, F.i15, F.i16, F.i17, F.s18, F.s19, F.i20, F.i21, F.i22, F.bl⟩, ⟨P.1, P.2.1, P.2.2⟩⟩
  · exact ⟨⟨F.i0, F.i1, F.i2, F.i3, str0_le, F.i5, F.i6, F.s7, F.s8, F.i11, F.i13, F.i14, F.i15, F.i16, F.i17, F.s18, F.s19, F.i20, F.i21, F.i22, F.bl⟩, ⟨P.1, P.2.1, P.2.2⟩⟩
  · exact ⟨⟨F.i0, F.i1, F.i2, F.i3, F.s4, okI_0, F.i6, F.s7, F.s8, F.i11, F.i13, F.i14, F.i15, F.i16, F.i17, F.s18, F.s19, F.i20, F.i21, F.i22, F.bl⟩, ⟨P.1, P.2.1, P.2.2⟩⟩
  · exact ⟨⟨F.i0, F.i1, F.i2, F.i3, F.s4, F.i5, okI_0, F.s7, F.s8, F.i11, F.i13, F.i14, F.i15, F.i16, F.i17, F.s18, F.s19, F.i20, F.i21, F.i22, F.bl⟩, ⟨P.1, P.2.1, P.2.2⟩⟩
  · exact ⟨⟨F.i0, F.i1, F.i2, F.i3, F.s4, F.i5, F.i6, str0_le, F.s8, F.i11, F.i13, F.i14, F.i15, F.i16, F.i17, F.s18, F.s19, F.i20, F.i21, F.i22, F.bl⟩, ⟨P.1, P.2.1, P.2.2⟩⟩
  · exact ⟨⟨F.i0, F.i1, F.i2, F.i3, F.s4, F.i5, F.i6, F.s7, str0_le, F.i11, F.i13, F.i14, F.i15, F.i16, F.i17, F.s18, F.s19, F.i20, F.i21, F.i22, F.bl⟩, ⟨P.1, P.2.1, P.2.2⟩⟩
  · exact ⟨⟨F.i0, F.i1, F.i2, F.i3, F.s4, F.i5, F.i6, F.s7, F.s8, F.i11, F.i13, F.i14, F.i15, F.i16, F.i17, F.s18, F.s19, F.i20, F.i21, F.i22, F.bl⟩, ⟨StrsM.nil _, P.2.1, P.2.2⟩⟩
  · exact ⟨⟨F.i0, F.i1, F.i2, F.i3, F.s4, F.i5, F.i6, F.s7, F.s8, F.i11, F.i13, F.i14, F.i15, F.i16, F.i17, F.s18, F.s19, F.i20, F.i21, F.i22, (fun x hx => absurd hx List.not_mem_nil)⟩, ⟨P.1, BlksM.nil _, P.2.2⟩⟩
  · exact ⟨⟨F.i0, F.i1, F.i2, F.i3, F.s4, F.i5, F.i6, F.s7, F.s8, okI_0, okI_0, okI_0, F.i15, F.i16, F.i17, F.s18, F.s19, F.i20, F.i21, F.i22, F.bl⟩, ⟨P.1, P.2.1, IntsM.nil _⟩⟩
  · exact ⟨⟨F.i0, F.i1, F.i2, F.i3, F.s4, F.i5, F.i6, F.s7, F.s8, F.i11, F.i13, F.i14, okI_0, F.i16, F.i17, F.s18, F.s19, F.i20, F.i21, F.i22, F.bl⟩, ⟨P.1, P.2.1, P.2.2⟩⟩
  · exact ⟨⟨F.i0, F.i1, F.i2, F.i3, F.s4, F.i5, F.i6, F.s7, F.s8, F.i11, F.i13, F.i14, F.i15, okI_0, F.i17, F.s18, F.s19, F.i20, F.i21, F.i22, F.bl⟩, ⟨P.1, P.2.1, P.2.2⟩⟩
  · exact ⟨⟨F.i0, F.i1, F.i2, F.i3, F.s4, F.i5, F.i6, F.s7, F.s8, F.i11, F.i13, F.i14, F.i15, F.i16, okI_0, F.s18, F.s19, F.i20, F.i21, F.i22, F.bl⟩, ⟨P.1, P.2.1, P.2.2⟩⟩
  · exact ⟨⟨F.i0, F.i1, F.i2, F.i3, F.s4, F.i5, F.i6, F.s7, F.s8, F.i11, F.i13, F.i14, F.i15, F.i16, F.i17, str0_le, F.s19, F.i20, F.i21, F.i22, F.bl⟩, ⟨P.1, P.2.1, P.2.2⟩⟩
  · exact ⟨⟨F.i0, F.i1, F.i2, F.i3, F.s4, F.i5, F.i6, F.s7, F.s8, F.i11, F.i13, F.i14, F.i15, F.i16, F.i17, F.s18, str0_le, F.i20, F.i21, F.i22, F.bl⟩, ⟨P.1, P.2.1, P.2.2⟩⟩
/-- the fact without the fields of a list -/
def dropL (e : FctE) (l : List UInt8) : FctE := l.foldl dropE e
theorem dropL_ok {mem : Addr → Option Value} (l : List UInt8) : ∀ (e : FctE), e.ok mem → (∀ c ∈ l, c ∈ lawC) → (dropL e l).ok mem := by
  induction l with
  | nil => exact fun e h _ => h
  | cons a l ih => exact fun e h hl => ih _ (dropE_ok e h a (hl a (by simp))) (fun c hc => hl c (by simp [hc]))
theorem dropL_step (e : FctE) {l : List UInt8} {k : Nat} (hk : k < l.length) : dropL e (l.take (k + 1)) = dropE (dropL e (l.take k)) l[k] := by
  unfold dropL
  rw [List.take_succ_eq_append_getElem hk, List.foldl_append]
  rfl
theorem fieldsB_law {k : Int} (hk : k = 1 ∨ k = 2 ∨ k = 3 ∨ k = 4 ∨ k = 5 ∨ k = 6 ∨ k = 7 ∨ k = 10) : (∀ c ∈ (fieldsB k).data.toList, c ∈ lawC) ∧ (fieldsB k).data.toList ≠ [] ∧ (fieldsB k).size ≤ 9 := by
  rcases hk with rfl | rfl | rfl | rfl | rfl | rfl | rfl | rfl <;> exact ⟨by decide, by decide, by decide⟩
theorem dropL_bare (e : FctE) (ht : Tidy e.f) : (dropL e (fieldsB e.f.kind).data.toList).f = bare e.f := by
  obtain ⟨f, ta, tc, ba, bc, aa, ac⟩ := e
  obtain ⟨hk, hu⟩ := ht
  obtain ⟨x0, x1, x2, x3, x4, x5, x6, x7, x8, x9, x10, ⟨y1, y2, y3, y4⟩, x12, x13, x14, x15, x16, x17, x18, x19⟩ := f
  dsimp only at hk hu ⊢
  rcases hk with rfl | rfl | rfl | rfl | rfl | rfl | rfl | rfl
  all_goals
    simp [usedF, bare, lab0] at hu
    simp [fieldsB, dropL, dropE, bare, lab0, hu]
theorem rightF_all (f : Fct) (ht : Tidy f) : (fieldsB f.kind).data.toList.all (rightF f) = fieldsOK f := by
  rcases ht.kind with h | h | h | h | h | h | h | h
  all_goals
    rw [h]
    simp [fieldsB, rightF, fieldsOK, storyOK, reviseOK, correctOK, h, Bool.and_assoc]
end Go.Proofs.YtgbihmafmmeicaaGreatDoor
/-
  WHAT IS PROVED HERE: the walk of the reference's Valid at facts that use no field but their kind's own. No condition but that the fact lies in memory.
-/
namespace Go.Proofs.YtgbihmafmmeicaaGreatDoor
open Go.RowKit Mg Go.Shelf

theorem built3 (a b c : Int) : Tryz.prog.built 45 [(0, .int .i64 a), (1, .int .i64 b), (2, .int .i64 c)] = some #[.int .i64 a, .int .i64 b, .int .i64 c, .int .i64 0, .string .empty, .int .i64 0, .int .i64 0, .string .empty, .string .empty, .slice none 0 0, .slice none 0 0, .int .i64 0, .slice none 0 0, .int .i64 0, .int .i64 0, .int .i64 0, .int .i64 0, .int .i64 0, .string .empty, .string .empty, .int .i64 0, .int .i64 0, .int .i64 0] := by kernel_rfl
/-- a fact with its first three fields alone -/
def bareE (f : Fct) : FctE := ⟨bare f, none, 0, none, 0, none, 0⟩
theorem bareE_ok {mem : Addr → Option Value} {f : Fct} (h : FOK f) : (bareE f).ok mem :=
  ⟨⟨h.i0, h.i1, h.i2, okI_0, str0_le, okI_0, okI_0, str0_le, str0_le, okI_0, okI_0, okI_0, okI_0, okI_0, okI_0, str0_le, str0_le, okI_0, okI_0, okI_0, fun x hx => absurd hx List.not_mem_nil⟩, StrsM.nil _, BlksM.nil _, IntsM.nil _⟩
section
variable {ops : Array Oper} {rest : List Oper} {o : Oper} {a : Act} {w : World} {Q : Exit → Act → World → Prop}
theorem wpList_fct_build3 (hg : o.guard = none) (parts : Array (Nat × Operand)) (ho : o.op = .build 45 parts) (f : Fct)
    (hf : (parts.map fun (i, x) => (i, a.eval x)).toList = [(0, .int .i64 f.n), (1, .int .i64 f.time), (2, .int .i64 f.kind)])
    (h : wpList Tryz.prog ops Q rest (a.put o.dst (.agg (bareE f).cells)) w) : wpList Tryz.prog ops Q (o :: rest) a w :=
  wpList_buildTo hg 45 parts ho o.dst rfl _ (by rw [hf]; exact built3 f.n f.time f.kind) h
end
set_option maxRecDepth 100000 in
set_option maxHeartbeats 4000000 in
theorem valid5_any {mem : Addr → Option Value} (e : FctE) (h : e.ok mem) (ht : Tidy e.f) (w : World) (hs : Sees mem w) :
    Calls Tryz.prog 25 #[.agg e.cells] w fun r w' => r = .returned (.bool (validF e.f)) ∧ Below w.heap.size w w' := by
  have HT := Lib.hid ht
  have c1 := Lib.hid (fun W => fields_any e.f.kind ht.kind W)
  obtain ⟨hlaw, hne, hsz⟩ := fieldsB_law ht.kind
  have HD := Lib.hid (dropL_bare e ht)
  have HA := Lib.hid (rightF_all e.f ht)
  have HR : Hid (validF e.f = (inR e.f.n 0 500 && inR e.f.time 0 1000000000 && fieldsOK e.f)) := Lib.hid (by unfold validF; rw [decide_eq_true ht.used, Bool.and_true])
  have q1 := lang_f _ hne
  generalize fieldsB e.f.kind = s at *
  clear hne
  have HW := Lib.hid hlaw
  have HL := Lib.hid (size_list s)
  have HG := Lib.hid (fun j hj => get_list s j hj)
  have HOK := Lib.hid h
  have HS := Lib.hid hs
  have HB := Lib.hid ((Below.refl w.heap.size w).alloc (Nat.le_refl _) (.cells e.cells 45))
  have HN := Lib.hid (World.alloc_heap_new w (.cells e.cells 45))
  have hk5 : e.cells[2]? = some (.int .i64 e.f.kind) := rfl
  have hk0 : e.cells[0]? = some (.int .i64 e.f.n) := rfl
  have hk1 : e.cells[1]? = some (.int .i64 e.f.time) := rfl
  have H5 := Lib.hid (And.intro hk0 (And.intro hk1 hk5))
  clear ht hlaw h hs hk5 hk0 hk1
  go_enter Tryz.func25, Tryz.ntmps25
  go_upto_region 1 with fail
  generalize hW1 : World.alloc w _ = W1 at *
  clear hW1
  have d2 := (blk_cell HN.out 2).trans H5.out.2.2
  go_wp2_with fail
  refine (c1.out _).mono ?_
  rintro r w' ⟨rfl, rfl⟩
  clear d2
  have d0 := (blk_cell HN.out 0).trans H5.out.1
  have d1 := (blk_cell HN.out 1).trans H5.out.2.1
  obtain ⟨n, hn⟩ : ∃ n, e.f.n = n := ⟨_, rfl⟩
  obtain ⟨tm, htm⟩ : ∃ n, e.f.time = n := ⟨_, rfl⟩
  rw [hn] at d0 HR
  rw [htm] at d1 HR
  have HX := Lib.hid (And.intro hn htm)
  clear hn htm
  by_cases k1 : n < 0
  · have HV : Hid (validF e.f = false) := Lib.hid (by rw [HR.out]; unfold inR; rw [decide_eq_false (by omega : ¬ 0 ≤ n)]; rfl)
    go_wp2_with fail
    go_ret
    exact ⟨by rw [HV.out]; rfl, HB.out⟩
  by_cases k2 : 500 < n
  · have HV : Hid (validF e.f = false) := Lib.hid (by rw [HR.out]; unfold inR; rw [decide_eq_false (by omega : ¬ n ≤ 500), Bool.and_false]; rfl)
    go_wp2_with fail
    go_ret
    exact ⟨by rw [HV.out]; rfl, HB.out⟩
  by_cases k3 : tm < 0
  · have HV : Hid (validF e.f = false) := Lib.hid (by rw [HR.out]; unfold inR; rw [decide_eq_false (by omega : ¬ 0 ≤ tm), Bool.false_and, Bool.and_false]; rfl)
    go_wp2_with fail
    go_ret
    exact ⟨by rw [HV.out]; rfl, HB.out⟩
  by_cases k4 : 1000000000 < tm
  · have HV : Hid (validF e.f = false) := Lib.hid (by rw [HR.out]; unfold inR; rw [decide_eq_false (by omega : ¬ tm ≤ 1000000000), Bool.and_false, Bool.and_false]; rfl)
    go_wp2_with fail
    go_ret
    exact ⟨by rw [HV.out]; rfl, HB.out⟩
  have HV : Hid (validF e.f = s.data.toList.all (rightF e.f)) := Lib.hid (by rw [HR.out, HA.out]; unfold inR; rw [decide_eq_true (by omega : 0 ≤ n), decide_eq_true (by omega : n ≤ 500), decide_eq_true (by omega : 0 ≤ tm), decide_eq_true (by omega : tm ≤ 1000000000)]; rfl)
  go_upto_region 4 with fail
  clear d0 d1 k1 k2 k3 k4 q1 HR HA
  have HB2 := Lib.hid (HB.out.alloc HB.out.size (.cells e.cells 45))
  have HZ := Lib.hid (World.alloc_heap_new W1 (.cells e.cells 45))
  have HN2 := Lib.hid ((Below.heap_alloc W1 (.cells e.cells 45) w.heap.size (hlt HN.out)).trans HN.out)
  have HLT := Lib.hid (hlt HN.out)
  go_upto_region 5 with (first
    | ((with_reducible refine at_fstore _ _ rfl ?_); go_must (refine wpList_fct_new rfl _ _ rfl rfl _ _ _ (by rfl) (by rfl) (by rfl) (FctE.size e) (FctE.one e) ?_))
    | ((with_reducible refine at_fload _ rfl ?_); go_must (refine wpList_fct_load rfl _ rfl w.heap.size (by rfl) _ HN.out (FctE.size e) ?_)))
  clear HN HB c1
  generalize hW2 : World.alloc W1 _ = W2 at *
  clear hW2
  generalize W1.heap.size = B at *
  have hsl : (s.size : Int) ≤ 9 := by omega
  go_wp2_with fail
  go_loopw [5] (fun i wr => ∃ k : Nat, k ≤ s.size ∧ i = .int .i64 k ∧ Hid ((s.data.toList.take k).all (rightF e.f) = true) ∧ Hid (Below w.heap.size w wr ∧ wr.heap[w.heap.size]? = some (.cells e.cells 45 (0, 0)) ∧ wr.heap[B]? = some (.cells (dropL e (s.data.toList.take k)).cells 45 (0, 0)))) (fun i _ => s.size - (intOf i).toNat)
  case atStart => exact ⟨0, Nat.zero_le _, rfl, Lib.hid rfl, Lib.hid ⟨HB2.out, HN2.out, HZ.out⟩⟩
  case round =>
    obtain ⟨k, hk, rfl, hu, HI⟩ := hrel
    obtain ⟨wo, rfl⟩ : ∃ wo, wo = wr := ⟨_, rfl⟩
    by_cases hlt5 : k < s.size
    · have hk2 : k < s.data.toList.length := by rw [HL.out]; exact hlt5
      have hgl := HG.out k hlt5
      have hmem : s[k] ∈ lawC := HW.out _ (by rw [← hgl]; exact List.getElem_mem _)
      have cr := Lib.hid (fun W hW => right_any e HOK.out s[k] hmem W hW)
      have cw := Lib.hid (fun W => without_any (dropL e (s.data.toList.take k)) s[k] hmem W)
      have HX2 : Hid (dropL e (s.data.toList.take (k + 1)) = dropE (dropL e (s.data.toList.take k)) s[k]) := Lib.hid (by rw [dropL_step e hk2, hgl])
      obtain ⟨g1, g2⟩ := bytes_step s k hlt5 hu.out
      have G1 := Lib.hid g1
      have G2 := Lib.hid g2
      have hki : (k : Int) < s.size := by omega
      clear g1 g2 hu hgl
      generalize dropL e (s.data.toList.take k) = E at *
      have HSd : Hid (wo.drew.heap[w.heap.size]? = some (.cells e.cells 45 (0, 0))) := Lib.hid HI.out.2.1
      generalize hq : rightF e.f s[k] = q at *
      go_upto_region 8 with fail
      refine wp_mix [mT, mT, mT, mT, mF, mF] 1000 (fun W2 => W2.heap[w.heap.size]? = some (.cells e.cells 45 (0, 0))) (by kernel_rfl) (by kernel_rfl) HSd.out ?_
      refine wpMix_take (.agg e.cells) (fun _ _ _ _ h => h) HSd.out (by rfl) (fun W2 hW => exec_fct_load _ rfl (by rfl) hW (FctE.size e)) ?_
      simp only [Act.put, List.setIfInBounds_toArray, List.set_cons_zero, List.set_cons_succ]
      refine wpMix_take (.string s) (fun _ _ _ _ h => h) HSd.out (by rfl) (fun W2 hW => by go_simp) ?_
      simp only [Act.put, List.setIfInBounds_toArray, List.set_cons_zero, List.set_cons_succ]
      refine wpMix_take (.int .i64 k) (fun _ _ _ _ h => h) HSd.out (by rfl) (fun W2 hW => by go_simp) ?_
      simp only [Act.put, List.setIfInBounds_toArray, List.set_cons_zero, List.set_cons_succ]
      refine wpMix_take (.int .u8 (s[k].toNat : Nat)) (fun _ _ _ _ h => h) HSd.out (by rfl) (fun W2 hW => by go_simp) ?_
      simp only [Act.put, List.setIfInBounds_toArray, List.set_cons_zero, List.set_cons_succ]
      refine wpMix_step (fun K hK => ?_)
      go_simp
      refine (cr.out _ (HS.out.bel HI.out.1.drew)).mono ?_
      rintro r w3 ⟨rfl, hb⟩
      have HI3 : Hid (Below w.heap.size w w3 ∧ w3.heap[w.heap.size]? = some (.cells e.cells 45 (0, 0)) ∧ w3.heap[B]? = some (.cells E.cells 45 (0, 0))) := Lib.hid ⟨HI.out.1.drew.trans (hb.mono HI.out.1.drew.size), (hb.block _ (hlt HI.out.2.1)).trans HI.out.2.1, (hb.block _ (hlt HI.out.2.2)).trans HI.out.2.2⟩
      clear hb cr
      dsimp only
      refine hK _ _ HI3.out.2.1 ?_
      clear hK K
      refine wpMix_step (fun K hK => ?_); go_simp; refine hK _ _ HI3.out.2.1 ?_; clear hK K
      refine wpMix_nil ?_
      cases q with
      | false =>
        have HF := Lib.hid (HV.out.trans (G2.out rfl))
        go_wp2_with fail
        go_ret
        exact ⟨by rw [HF.out]; rfl, HI3.out.1⟩
      | true =>
        have HU := Lib.hid (G1.out rfl)
        have HSz : Hid (w3.drew.heap[B]? = some (.cells E.cells 45 (0, 0))) := Lib.hid HI3.out.2.2
        go_upto_region 11 with fail
        refine wp_mix [mT, mT, mT, mT, mF, mL] 5 (fun W2 => W2.heap[B]? = some (.cells E.cells 45 (0, 0))) (by kernel_rfl) (by kernel_rfl) HSz.out ?_
        refine wpMix_take (.agg E.cells) (fun _ _ _ _ h => h) HSz.out (by rfl) (fun W2 hW => exec_fct_load _ rfl (by rfl) hW (FctE.size E)) ?_
        simp only [Act.put, List.setIfInBounds_toArray, List.set_cons_zero, List.set_cons_succ]
        refine wpMix_take (.string s) (fun _ _ _ _ h => h) HSz.out (by rfl) (fun W2 hW => by go_simp) ?_
        simp only [Act.put, List.setIfInBounds_toArray, List.set_cons_zero, List.set_cons_succ]
        refine wpMix_take (.int .i64 k) (fun _ _ _ _ h => h) HSz.out (by rfl) (fun W2 hW => by go_simp) ?_
        simp only [Act.put, List.setIfInBounds_toArray, List.set_cons_zero, List.set_cons_succ]
        refine wpMix_take (.int .u8 (s[k].toNat : Nat)) (fun _ _ _ _ h => h) HSz.out (by rfl) (fun W2 hW => by go_simp) ?_
        simp only [Act.put, List.setIfInBounds_toArray, List.set_cons_zero, List.set_cons_succ]
        refine wpMix_step (fun K hK => ?_)
        go_simp
        refine (cw.out _).mono ?_
        rintro r w4 ⟨rfl, hb⟩
        have HI4 : Hid (Below w.heap.size w w4 ∧ w4.heap[w.heap.size]? = some (.cells e.cells 45 (0, 0)) ∧ w4.heap[B]? = some (.cells E.cells 45 (0, 0))) := Lib.hid ⟨HI3.out.1.drew.trans (hb.mono HI3.out.1.drew.size), (hb.block _ (hlt HI3.out.2.1)).trans HI3.out.2.1, (hb.block _ (hlt HI3.out.2.2)).trans HI3.out.2.2⟩
        clear hb cw
        dsimp only
        refine hK _ _ HI4.out.2.2 ?_
        clear hK K
        refine wpMix_last (fun K hK => ?_)
        refine wp_fct_store _ _ rfl (by rfl) (by rfl) HI4.out.2.2 (FctE.size E) (FctE.size _) (FctE.one _) ?_
        refine hK _ _ ?_
        clear hK K
        have HI5 : Hid (Below w.heap.size w (w4.setRow B (dropE E s[k]).cells) ∧ (w4.setRow B (dropE E s[k]).cells).heap[w.heap.size]? = some (.cells e.cells 45 (0, 0)) ∧ (w4.setRow B (dropE E s[k]).cells).heap[B]? = some (.cells (dropL e (s.data.toList.take (k + 1))).cells 45 (0, 0))) := Lib.hid ⟨below_setRow HI4.out.1 (Nat.le_of_lt HLT.out) _, (setRow_other _ _ _ _ (by have := HLT.out; omega)).trans HI4.out.2.1, by rw [HX2.out]; exact setRow_heap _ _ _ _ _ _ HI4.out.2.2⟩
        simp only [Act.put, List.setIfInBounds_toArray, List.set_cons_zero, List.set_cons_succ]
        refine wpMix_nil ?_
        generalize w4.setRow B _ = w5 at *
        go_wp2_with fail
        go_roundw
        case rel => exact ⟨k + 1, by omega, by go_num, HU, HI5⟩
        case measure => simp [intOf]; omega
    · obtain rfl : k = s.size := by omega
      have HE : Hid (dropL e (s.data.toList.take s.size) = dropL e s.data.toList) := Lib.hid (by rw [← HL.out, List.take_length])
      have HF : Hid (validF e.f = true) := Lib.hid (by have h := hu.out; rw [← HL.out, List.take_length] at h; rw [HV.out, h])
      have HEk : Hid ((dropL e s.data.toList).ok mem) := Lib.hid (dropL_ok _ e HOK.out HW.out)
      have cs := Lib.hid (fun W hW => rsame_any (dropL e s.data.toList) (bareE e.f) HEk.out (bareE_ok HOK.out.fok) HD.out W hW)
      have HI6 : Hid (Below w.heap.size w wo ∧ wo.heap[w.heap.size]? = some (.cells e.cells 45 (0, 0)) ∧ wo.heap[B]? = some (.cells (dropL e s.data.toList).cells 45 (0, 0))) := Lib.hid (by have h := HI.out; rw [HE.out] at h; exact h)
      clear hu HI
      generalize dropL e s.data.toList = E at *
      go_upto_region 12 with fail
      have d0 := (blk_cell HI6.out.2.1 0).trans H5.out.1
      have d1 := (blk_cell HI6.out.2.1 1).trans H5.out.2.1
      have d2 := (blk_cell HI6.out.2.1 2).trans H5.out.2.2
      go_wp2_with (first
        | ((with_reducible refine at_fload _ rfl ?_); go_must (refine wpList_fct_load rfl _ rfl B (by rfl) _ HI6.out.2.2 (FctE.size E) ?_))
        | ((with_reducible refine at_fbuild _ rfl ?_); go_must (refine wpList_fct_build3 rfl _ rfl e.f (by simp [Act.eval]) ?_)))
      refine (cs.out _ (HS.out.bel HI6.out.1)).mono ?_
      rintro r w6 ⟨rfl, hb⟩
      have HB6 := Lib.hid (HI6.out.1.trans (hb.mono HI6.out.1.size))
      clear hb
      go_wp2_with fail
      go_ret
      exact ⟨by rw [HF.out]; rfl, HB6.out⟩
end Go.Proofs.YtgbihmafmmeicaaGreatDoor
/-
  WHAT IS PROVED HERE: the walk of the reference's Clean: a list of its own with the valid facts. No condition but that the list lies in memory and its facts use no field but their kind's own.
-/
namespace Go.Proofs.YtgbihmafmmeicaaGreatDoor
open Go.RowKit Mg Go.Shelf

/-- a list of a call's own, whose facts' parts lie in mem -/
structure ListC (mem : Addr → Option Value) (W0 : World) (v : Value) (ys : List FctE) (wr : World) : Prop where
  bel : Below W0.heap.size W0 wr
  row : FRow wr W0.heap.size v ys
  ok : ∀ e ∈ ys, e.ok mem
section
variable {mem : Addr → Option Value} {W0 wr w' : World} {v : Value} {ys : List FctE}
theorem ListC.start : ListC mem W0 (.slice none 0 0) [] W0 := ⟨Below.refl _ _, FRow.nil _ _, fun e he => by cases he⟩
theorem ListC.below (h : ListC mem W0 v ys wr) (hb : Below wr.heap.size wr w') : ListC mem W0 v ys w' :=
  ⟨h.bel.trans (hb.mono h.bel.size), h.row.same fun k hk => hb.block k (h.row.ge k hk).2, h.ok⟩
theorem ListC.app {v' : Value} {y : FctE} {ob : Obj} (h : ListC mem W0 v ys wr) (hy : y.ok mem) (hr : FRow w' W0.heap.size v' (ys ++ [y])) (hg : (wr.alloc ob).grownBy w' v.ownBlock) : ListC mem W0 v' (ys ++ [y]) w' := by
  have hge := h.row.ge
  have hu : Upd (fun b => v.ownBlock = some b) wr w' := ((Upd.refl _ wr).alloc ob).grown hg (fun b e => .inl e)
  refine ⟨h.bel.trans (hu.below (fun k e => (hge k e).1) h.bel.size), hr, fun e he => ?_⟩
  rcases List.mem_append.1 he with he | he
  · exact h.ok e he
  · obtain rfl : e = y := by simpa using he
    exact hy
theorem ListC.es (h : ListC mem W0 v ys wr) (hs : Sees mem wr) : EsM (fun a => wr.cell? a) v ys := h.row.es (fun y hy => (h.ok y hy).mono hs)
end
set_option maxRecDepth 100000 in
set_option maxHeartbeats 4000000 in
theorem clean_any {mem : Addr → Option Value} (v : Value) (es : List FctE) (h : EsM mem v es) (ht : ∀ e ∈ es, Tidy e.f) (hlen : es.length ≤ 1000) (w : World) (hs : Sees mem w) :
    Calls Tryz.prog 11 #[v] w fun e w' => ∃ v, e = .returned v ∧ ListC mem w v (goodE es) w' := by
  obtain ⟨a1, c1, b1, o1, rfl, hm1, ha1, he1⟩ := h.open_
  have hl1 : (es.length : Int) ≤ 1000 := by omega
  have HS := Lib.hid hs
  have HA1 := Lib.hid ha1
  have HE1 := Lib.hid he1
  have HT := Lib.hid ht
  clear hs ha1 he1 h hm1 ht
  go_enter Tryz.func11, Tryz.ntmps11
  go_wp2_with fail
  go_loopw [3, 4] (fun v i wr => ∃ k : Nat, k ≤ es.length ∧ i = .int .i64 k ∧ ListC mem w v (goodE (es.take k)) wr) (fun _ i _ => es.length - (intOf i).toNat)
  case atStart => exact ⟨0, Nat.zero_le _, rfl, ListC.start⟩
  case round =>
    obtain ⟨k, hk, rfl, hI⟩ := hrel
    obtain ⟨wo, rfl⟩ : ∃ wo, wo = wr := ⟨_, rfl⟩
    obtain ⟨va, vn, vc, rfl⟩ := hI.row.sl
    have HI := Lib.hid hI
    clear hI
    by_cases hlt : k < es.length
    · obtain rfl := HA1.out (by omega)
      obtain ⟨hok, hat0⟩ := HE1.out k hlt
      have hsw := HS.out.bel HI.out.bel
      have HAT : Hid (es[k].at (fun p => wo.cell? p) b1 (o1 + k * 23)) := Lib.hid (fun j u hj => hsw _ _ (hat0 j u hj))
      have HC := Lib.hid (valid5_any es[k] hok (HT.out _ (List.getElem_mem hlt)) wo hsw)
      have HY := Lib.hid (fun hv => goodE_yes hlt hv)
      have HN := Lib.hid (fun hv => goodE_no hlt hv)
      have HOK := Lib.hid hok
      have hyl : Hid ((goodE (es.take k)).length ≤ 1000) := Lib.hid (by
        have h := List.length_filter_le (fun e : FctE => validF e.f) (es.take k)
        rw [List.length_take] at h
        unfold goodE
        omega)
      clear hok hat0 hsw
      generalize goodE (es.take k) = ys at *
      generalize hx : es[k] = x at *
      clear hx
      generalize validF x.f = q at *
      go_wp2_with ((with_reducible refine at_fload _ rfl ?_); go_must (refine wpList_fct_mid rfl _ rfl (by simp [Act.eval]) HAT.out ?_))
      refine HC.out.mono ?_
      rintro e w3 ⟨rfl, hb⟩
      have HI3 := Lib.hid (HI.out.below hb)
      have HAT3 : Hid (x.at (fun p => w3.cell? p) b1 (o1 + k * 23)) := Lib.hid (fun j u hj => sees_bel hb _ _ (HAT.out j u hj))
      clear hb
      cases q with
      | false =>
        have HG := Lib.hid (HN.out rfl)
        go_wp2_with fail
        go_roundw
        case rel => exact ⟨k + 1, by omega, by go_num, by rw [HG.out]; exact HI3.out⟩
        case measure => simp [intOf]; omega
      | true =>
        have HG := Lib.hid (HY.out rfl)
        go_wp2_with (first
          | ((with_reducible refine at_fload _ rfl ?_); go_must (refine wpList_fct_mid rfl _ rfl (by simp [Act.eval]) HAT3.out ?_))
          | ((with_reducible refine at_fslice _ rfl ?_); go_must (refine wpList_fct_slice rfl _ rfl x (by first | (simp [Act.eval]; done) | simp [Act.eval, Act.put]) ?_))
          | (at_builtin
             go_must (refine wpList_app_fct rfl _ _ rfl w.heap.size _ ys rfl (HI3.out.row.same fun k hk => Below.heap_alloc _ _ _ (HI3.out.row.ge k hk).2) x w3.heap.size 1 rfl (World.alloc_heap_new _ _) (by have := hyl.out; omega) (by have := HI3.out.bel.size; simp; omega) ?_)
             intro v2 w2 h2 hg2 hn2
             have H2 := Lib.hid (HI3.out.app HOK.out h2 hg2)
             clear h2 hg2 hn2))
        go_roundw
        case rel => exact ⟨k + 1, by omega, by go_num, by rw [HG.out]; exact H2.out⟩
        case measure => simp [intOf]; omega
    · obtain rfl : k = es.length := by omega
      have HP : Hid (ListC mem w (.slice va vn vc) (goodE es) wo) := Lib.hid (by have h := HI.out; rwa [List.take_length] at h)
      clear HI
      go_wp2_with fail
      go_ret
      exact ⟨_, rfl, HP.out⟩
end Go.Proofs.YtgbihmafmmeicaaGreatDoor
/-
  WHAT IS PROVED HERE: plain: what AccessOutGrows asks of the stories that are out. No program, no condition.
-/
namespace Go.Proofs.YtgbihmafmmeicaaGreatDoor
open Go.RowKit Mg Go.Shelf

def apF (s e : Int) : Fct := { fct0 with kind := 2, story := s, editor := e }
def pbF (s : Int) : Fct := { fct0 with kind := 3, story := s }
theorem ap_valid {s e : Int} (h1 : 1 ≤ s) (h2 : s ≤ 4) (h3 : 1 ≤ e) (h4 : e ≤ 5) : validF (apF s e) = true := by
  refine valid_mk (by show (0 : Int) ≤ 0 ∧ (0 : Int) ≤ 500; omega) (by show (0 : Int) ≤ 0 ∧ (0 : Int) ≤ _; omega) ?_ rfl
  show (storyOK (apF s e) && inR e 1 5) = true
  unfold storyOK
  rw [Bool.and_eq_true, inR_iff, inR_iff]
  show (1 ≤ s ∧ s ≤ 64) ∧ _
  omega
theorem pb_valid {s : Int} (h1 : 1 ≤ s) (h2 : s ≤ 4) : validF (pbF s) = true := by
  refine valid_mk (by show (0 : Int) ≤ 0 ∧ (0 : Int) ≤ 500; omega) (by show (0 : Int) ≤ 0 ∧ (0 : Int) ≤ _; omega) ?_ rfl
  show (storyOK (pbF s) && validLab lab0) = true
  unfold storyOK
  rw [Bool.and_eq_true, inR_iff]
  refine ⟨?_, lab0_valid⟩
  show 1 ≤ s ∧ s ≤ 64
  omega
theorem ap_tidy (s e : Int) : Tidy (apF s e) := ⟨.inr (.inl rfl), rfl⟩
theorem pb_tidy (s : Int) : Tidy (pbF s) := ⟨.inr (.inr (.inl rfl)), rfl⟩
theorem filter_snoc {l : List Fct} {f : Fct} (h : validF f = true) : (l ++ [f]).filter validF = l.filter validF ++ [f] := by rw [List.filter_append]; simp [h]
theorem within_one {a b : List Int} (h : ∀ x ∈ a, x ∈ b) : withinF a b = 1 := by
  unfold withinF
  rw [if_pos]
  simpa using h
theorem ap_built (s e : Int) : Tryz.prog.built 45 [(2, .int .i64 2), (3, .int .i64 s), (12, .int .i64 e)] = some (plainE (apF s e)).cells := by kernel_rfl
theorem pb_built (s : Int) : Tryz.prog.built 45 [(2, .int .i64 3), (3, .int .i64 s)] = some (plainE (pbF s)).cells := by kernel_rfl
theorem ap_ok {s e : Int} (h1 : 1 ≤ s) (h2 : s ≤ 4) (h3 : 1 ≤ e) (h4 : e ≤ 5) (mem : Addr → Option Value) : (plainE (apF s e)).ok mem := by
  have z := fok_zero
  exact plain_ok ⟨z.i0, z.i1, okS (by show -1000 ≤ (2 : Int); omega) (by show (2 : Int) ≤ 1000; omega), okS (by show -1000 ≤ s; omega) (by show s ≤ 1000; omega), z.s4, z.i5, z.i6, z.s7, z.s8, z.i11, z.i13, z.i14, okS (by show -1000 ≤ e; omega) (by show e ≤ 1000; omega), z.i16, z.i17, z.s18, z.s19, z.i20, z.i21, z.i22, z.bl⟩ rfl rfl rfl
theorem pb_ok {s : Int} (h1 : 1 ≤ s) (h2 : s ≤ 4) (mem : Addr → Option Value) : (plainE (pbF s)).ok mem := by
  have z := fok_zero
  exact plain_ok ⟨z.i0, z.i1, okS (by show -1000 ≤ (3 : Int); omega) (by show (3 : Int) ≤ 1000; omega), okS (by show -1000 ≤ s; omega) (by show s ≤ 1000; omega), z.s4, z.i5, z.i6, z.s7, z.s8, z.i11, z.i13, z.i14, z.i15, z.i16, z.i17, z.s18, z.s19, z.i20, z.i21, z.i22, z.bl⟩ rfl rfl rfl
/-- the cells of a made row of 25 facts -/
noncomputable def made25 : Array Value := madeCells zeroF.cells (25 * 23)
theorem run_make25 (w : World) : (Instr.makeSlice 25 (.int .i64 0) (.int .i64 25)).run Tryz.prog w = .ok (.slice (some ⟨w.heap.size, 0, none⟩) 0 25) (w.alloc (.cells made25 45)) := by
  obtain ⟨i0, hi0, hz0, hz1, hz2⟩ := info_parts fct_info
  have h := run_make (P := Tryz.prog) w 25 45 i0 _ Tryz.underlying25 hi0 hz0 .i64 .i64 0 25 (by omega) (by omega) (by rw [hz2]; omega) (by omega)
  rw [hz1] at h
  exact h
theorem frow_made {w : World} {B g : Nat} (hB : B ≤ g) (hh : w.heap[g]? = some (.cells made25 45 (0, 0))) : FRow w B (.slice (some ⟨g, 0, none⟩) 0 25) [] :=
  ⟨rfl, .inr ⟨g, 25, _, rfl, hB, hh, by show 0 ≤ 25; omega, by unfold maxLen; omega, by unfold made25; rw [size_madeCells], rfl⟩⟩
/-- a list of facts of a call's own whose elements lie anywhere -/
structure ListA (W0 : World) (v : Value) (ys : List FctE) (wr : World) : Prop where
  bel : Below W0.heap.size W0 wr
  row : FRow wr W0.heap.size v ys
  ok : ∀ e ∈ ys, e.ok (fun a => W0.cell? a)
theorem ListA.below {W0 wr w' : World} {v : Value} {ys : List FctE} (h : ListA W0 v ys wr) (hb : Below wr.heap.size wr w') : ListA W0 v ys w' :=
  ⟨h.bel.trans (hb.mono h.bel.size), h.row.same fun k hk => hb.block k (h.row.ge k hk).2, h.ok⟩
theorem ListA.es {W0 wr : World} {v : Value} {ys : List FctE} (h : ListA W0 v ys wr) : EsM (fun a => wr.cell? a) v ys := h.row.es (fun y hy => (h.ok y hy).mono (sees_bel h.bel))
theorem ListA.grow {W0 wr w1 w' : World} {v v' : Value} {ys fs : List FctE} (h : ListA W0 v ys wr) (hb : Below wr.heap.size wr w1) (hf : ∀ e ∈ fs, e.ok (fun a => W0.cell? a)) (hr : FRow w' W0.heap.size v' (ys ++ fs)) (hg : w1.grownBy w' v.ownBlock) : ListA W0 v' (ys ++ fs) w' := by
  have hge := h.row.ge
  have h1 := h.below hb
  have hu : Upd (fun b => v.ownBlock = some b) w1 w' := (Upd.refl _ w1).grown hg (fun b e => .inl e)
  refine ⟨h1.bel.trans (hu.below (fun k e => (hge k e).1) h1.bel.size), hr, fun e he => ?_⟩
  rcases List.mem_append.1 he with he | he
  · exact h.ok e he
  · exact hf e he
end Go.Proofs.YtgbihmafmmeicaaGreatDoor
/-
  WHAT IS PROVED HERE: the walk of the law AccessOutLeast. No condition but that the arguments lie in memory and are within Go's.
-/
namespace Go.Proofs.YtgbihmafmmeicaaGreatDoor
open Go.RowKit Mg Go.Shelf

theorem irow_app {W0 wr w' : World} {v v' : Value} {l l' : List Int} {ob : Obj} (h : IRow wr W0.heap.size v l) (hb : Below W0.heap.size W0 wr) (hr : IRow w' W0.heap.size v' l') (hg : (wr.alloc ob).grownBy w' v.ownBlock) : IRow w' W0.heap.size v' l' ∧ Below W0.heap.size W0 w' := by
  have hu : Upd (fun b => v.ownBlock = some b) wr w' := ((Upd.refl _ wr).alloc ob).grown hg (fun b e => .inl e)
  exact ⟨hr, hb.trans (hu.below (fun k e => h.ge k e) hb.size)⟩
set_option maxRecDepth 100000 in
set_option maxHeartbeats 8000000 in
theorem law_least {mem : Addr → Option Value} {v : Value} {xs : List Six} (hx : SixM mem v xs) {a b st : Int} (ha : okI a) (hb : okI b) (hst : okI st) (w : World) (hs : Sees mem w) :
    Calls Tryz.prog 3 #[v, .agg #[.int .i64 a, .int .i64 b], .int .i64 st] w fun e w' => e = .returned (.bool true) ∧ Below w.heap.size w w' := by
  have HX := Lib.hid hx
  obtain ⟨_, _, ⟨_, oa, oc, rfl, _⟩, _⟩ := hx
  have HB1 : Hid (Below w.heap.size w (w.alloc (.cells #[.int .i64 a, .int .i64 b] 23))) := Lib.hid ((Below.refl _ w).alloc (Nat.le_refl _) _)
  have HA1 := Lib.hid (World.alloc_heap_new w (.cells #[.int .i64 a, .int .i64 b] 23))
  have HS1 := Lib.hid (hs.bel HB1.out)
  have c1 := Lib.hid (fun W => pick_any st 16 hst (by omega) (by omega) W)
  obtain ⟨p0, p1⟩ := pickF_lt (c := st) (n := 16) (by omega)
  obtain ⟨q0, q1⟩ := pickF_lt (c := a) (n := 4) (by omega)
  obtain ⟨t0, t1⟩ := pickF_lt (c := b) (n := 25) (by omega)
  have c2 := Lib.hid (fun W => at_any2 a b ha hb W)
  generalize pickF st 16 = pd at *
  generalize pickF a 4 = pa at *
  generalize pickF b 25 = pb at *
  clear hs ha hb hst
  go_enter Tryz.func3, Tryz.ntmps3
  go_upto_region 1 with fail
  generalize hW1 : w.alloc _ = W1 at *
  clear hW1
  go_wp2_with fail
  refine (sane_any W1).mono ?_
  rintro e W2 ⟨rfl, hb2⟩
  have HB2 := Lib.hid (HB1.out.trans (hb2.mono HB1.out.size))
  have HA2 := Lib.hid ((hb2.block _ (Go.Proofs.YtgbihmafmmeicaaGreatDoor.hlt HA1.out)).trans HA1.out)
  have HS2 := Lib.hid (HS1.out.bel hb2)
  clear hb2
  go_wp2_with fail
  refine (log_any _ xs HX.out W2 HS2.out).mono ?_
  rintro e W3 ⟨lv, es, rfl, hys, hI⟩
  obtain ⟨la, lc, rfl⟩ := hI.row.shape
  have HYS := Lib.hid hys
  have hyl : es.length ≤ 24 := by rw [← List.length_map (f := FctE.f), hys]; exact logF_len xs
  have HES := Lib.hid hI.es
  have HB3 := Lib.hid (HB2.out.trans (hI.bel.mono HB2.out.size))
  have HA3 := Lib.hid ((hI.bel.block _ (Go.Proofs.YtgbihmafmmeicaaGreatDoor.hlt HA2.out)).trans HA2.out)
  have HTY : Hid (∀ e ∈ es, Tidy e.f) := Lib.hid (fun e he => logF_tidy xs _ (by rw [← hys]; exact List.mem_map_of_mem he))
  clear hI hys
  go_wp2_with fail
  refine (clean_any _ es HES.out HTY.out (by omega) W3 (fun a u h => h)).mono ?_
  rintro e W4 ⟨cv, rfl, hC⟩
  obtain ⟨ca, cc, rfl⟩ := hC.row.shape
  have hcl : (goodE es).length ≤ 24 := by
    have h := List.length_filter_le (fun e : FctE => validF e.f) es
    unfold goodE
    omega
  have HCS := Lib.hid (hC.es (fun a u h => sees_bel hC.bel a u h))
  have HB4 := Lib.hid (HB3.out.trans (hC.bel.mono HB3.out.size))
  have HA4 := (hC.bel.block _ (Go.Proofs.YtgbihmafmmeicaaGreatDoor.hlt HA3.out)).trans HA3.out
  have HTG : Hid (∀ e ∈ goodE es, Tidy e.f) := Lib.hid (fun e he => HTY.out e (by unfold goodE at he; exact (List.mem_filter.1 he).1))
  have HGM : Hid ((goodE es).map FctE.f = (logF xs).filter validF) := Lib.hid (by rw [goodE_map, HYS.out])
  have HGG : Hid (((goodE es).map FctE.f).filter validF = (goodE es).map FctE.f) := Lib.hid (by rw [goodE_map, List.filter_filter]; simp)
  have k0 : W4.cell? ⟨w.heap.size, 0, none⟩ = some (.int .i64 a) := blk_cell HA4 0
  have k1 : W4.cell? ⟨w.heap.size, 1, none⟩ = some (.int .i64 b) := blk_cell HA4 1
  clear hC HA4
  generalize goodE es = gs at *
  go_wp2_with fail
  refine (c2.out _).mono ?_
  rintro e W5 ⟨rfl, hb5⟩
  have HB5 := Lib.hid (HB4.out.trans (hb5.mono HB4.out.size))
  have HCS5 := Lib.hid (HCS.out.mono (sees_bel hb5))
  clear k0 k1 hb5 HCS HB4 HA3 HA2 HES HB3
  go_wp2_with fail
  refine (access_out_any _ gs HCS5.out HTG.out (by omega) pa pb W5 (fun a u h => h) (cells_lt W5)).mono ?_
  rintro e W6 ⟨ov, L, rfl, hor, ho, hb6⟩
  obtain ⟨o1, o2, rfl⟩ := hor.shape
  rw [HGG.out] at ho
  have HO := Lib.hid ho
  have HOR := Lib.hid hor.ints
  have HB6 := Lib.hid (HB5.out.trans (hb6.mono HB5.out.size))
  have HCS6 := Lib.hid (HCS5.out.mono (sees_bel hb6))
  clear ho hor hb6 HB5 HCS5
  go_wp2_with fail
  go_loopw [12, 13] (fun v i wr => ∃ (k : Nat) (S : List Int), k ≤ 4 ∧ i = .int .i64 ((k : Int) + 1) ∧ S.length ≤ k ∧ IRow wr W6.heap.size v S ∧ Below W6.heap.size W6 wr) (fun _ i _ => 5 - (intOf i).toNat)
  case atStart => exact ⟨0, [], by omega, rfl, Nat.le_refl _, World.ownsRow_nil _ _ _ _, Below.refl _ _⟩
  case round =>
    obtain ⟨k, S, hk, rfl, hSl, hr, hb⟩ := hrel
    obtain ⟨wo, rfl⟩ : ∃ wo, wo = wr := ⟨_, rfl⟩
    obtain ⟨sa, sn, sc, rfl⟩ := hr.sl
    have HR := Lib.hid hr
    have HBL := Lib.hid hb
    clear hr hb
    by_cases hlt : k < 4
    · have h4 : (k : Int) + 1 ≤ 4 := by omega
      have hk0 : (0 : Int) ≤ k := by omega
      go_wp2_with fail
      refine (c1.out _).mono ?_
      rintro e w7 ⟨rfl, rfl⟩
      go_upto_region 10 with fail
      · have hll : S.length ≤ 100000 := by omega
        have hsz : W6.heap.size ≤ wo.heap.size := HBL.out.size
        go_wp2_with (at_builtin; go_must (refine wpList_app_int rfl _ _ rfl W6.heap.size _ _ rfl (IRow.alloc HR.out _) ((k : Int) + 1) wo.heap.size 1 rfl (cell_new rfl rfl) hll (by simp; omega) ?_); intro v2 w2 h2 hg2 _; have H2 := Lib.hid (irow_app HR.out HBL.out h2 hg2); clear h2 hg2)
        go_roundw
        case rel => exact ⟨k + 1, S ++ [(k : Int) + 1], by omega, by go_num, by simp; omega, H2.out⟩
        case measure => simp [intOf]; omega
      · refine ⟨⟨k + 1, S, by omega, by go_num, by omega, HR.out, HBL.out⟩, by simp [intOf]; omega⟩
    · have h4 : ¬ (k : Int) + 1 ≤ 4 := by omega
      have HLS := Lib.hid (HBL.out.trans (Below.refl _ _))
      have HBW := Lib.hid (HB6.out.trans (HBL.out.mono HB6.out.size))
      have HCW := Lib.hid (HCS6.out.mono (sees_bel HBL.out))
      have HOW := Lib.hid (HOR.out.mono (sees_bel HBL.out))
      have HSW := Lib.hid HR.out.ints
      obtain ⟨s1, s2, hss⟩ := HR.out.shape
      have hslen : (S.length : Int) ≤ 4 := by omega
      injection hss with e1 e2 e3
      subst e2
      clear HBL HCS6 HOR HR HB6 e1 e3 HLS
      go_wp2_with fail
      clear h4 hlt hk hSl
      go_loopw [7, 14, 15] (fun c q i wr => ∃ (k : Nat) (cl : Bool), k ≤ 4 ∧ c = .bool true ∧ q = .bool cl ∧ i = .int .i64 ((k : Int) + 1) ∧ Hid (cl = true → ∀ s : Int, 1 ≤ s → s ≤ k → (digF (gs.map FctE.f)).goes pa pb S s = true → s ∈ S) ∧ Hid (Below wo.heap.size wo wr)) (fun _ _ i _ => 5 - (intOf i).toNat)
      case atStart => exact ⟨0, true, by omega, rfl, rfl, rfl, Lib.hid (fun _ s h1 h2 _ => by omega), Lib.hid (Below.refl _ _)⟩
      case round =>
        obtain ⟨k, cl, hk, rfl, rfl, rfl, HCL, HI⟩ := hrel
        obtain ⟨wp, rfl⟩ : ∃ wp, wp = wr := ⟨_, rfl⟩
        have HCP := Lib.hid (HCW.out.mono (sees_bel HI.out))
        have cL := Lib.hid (labelR_any HCP.out.facts ((k : Int) + 1) wp (fun a u h => h))
        by_cases hlt : k < 4
        · have h4 : (k : Int) + 1 ≤ 4 := by omega
          go_wp2_with fail
          refine cL.out.mono ?_
          rintro e w8 ⟨av, rfl, hia, hb8⟩
          obtain ⟨l1, l2, rfl⟩ := hia.slice
          have HIA := Lib.hid hia
          have HI8 := Lib.hid (HI.out.trans (hb8.mono HI.out.size))
          have HP8 := Lib.hid hb8
          clear hia hb8
          go_upto_region 16 with fail
          have hn9 := World.alloc_heap_new w8 (.cells (labCells (labOf (lastPub (gs.map FctE.f) ((k : Int) + 1))) (.slice l1 (labOf (lastPub (gs.map FctE.f) ((k : Int) + 1))).after.length l2)) 34)
          have hb9 := HI8.out.alloc HI8.out.size (.cells (labCells (labOf (lastPub (gs.map FctE.f) ((k : Int) + 1))) (.slice l1 (labOf (lastPub (gs.map FctE.f) ((k : Int) + 1))).after.length l2)) 34)
          have HP9 := Lib.hid (HP8.out.alloc HP8.out.size (.cells (labCells (labOf (lastPub (gs.map FctE.f) ((k : Int) + 1))) (.slice l1 (labOf (lastPub (gs.map FctE.f) ((k : Int) + 1))).after.length l2)) 34))
          have HN9 := Lib.hid hn9
          have HI9 := Lib.hid hb9
          clear hn9 hb9
          generalize World.alloc w8 _ = w9 at *
          have HCP9 := Lib.hid (HCW.out.mono (sees_bel HI9.out))
          have HOP9 := Lib.hid (HOW.out.mono (sees_bel HI9.out))
          have HSP9 := Lib.hid (HSW.out.mono (sees_bel HI9.out))
          have cA := Lib.hid (apprR_any HCP9.out.facts ((k : Int) + 1) w9 (fun a u h => h))
          have HIA9 := Lib.hid (HIA.out.mono (sees_bel HP9.out))
          have HGO : Hid (((lastPub (gs.map FctE.f) ((k : Int) + 1)).isSome && allows (labOf (lastPub (gs.map FctE.f) ((k : Int) + 1))) pa pb L (apprF (gs.map FctE.f) ((k : Int) + 1))) = decide (((k : Int) + 1) ∈ L)) := Lib.hid (out_mem HO.out (by omega) (by omega))
          have HGS : Hid ((digF (gs.map FctE.f)).goes pa pb S ((k : Int) + 1) = ((lastPub (gs.map FctE.f) ((k : Int) + 1)).isSome && allows (labOf (lastPub (gs.map FctE.f) ((k : Int) + 1))) pa pb S (apprF (gs.map FctE.f) ((k : Int) + 1)))) := Lib.hid rfl
          clear cL
          generalize (lastPub (gs.map FctE.f) ((k : Int) + 1)).isSome = q at *
          generalize labOf (lastPub (gs.map FctE.f) ((k : Int) + 1)) = x at *
          generalize apprF (gs.map FctE.f) ((k : Int) + 1) = n at *
          go_wp2_with fail
          refine cA.out.mono ?_
          rintro e w10 ⟨rfl, rfl⟩
          clear cA
          go_upto_region 17 with fail
          have cH := Lib.hid (hasR_any _ L HOP9.out ((k : Int) + 1) w9 (fun a u h => h))
          have cS := Lib.hid (hasR_any _ S HSP9.out ((k : Int) + 1) w9 (fun a u h => h))
          have HNX : ∀ s : Int, 1 ≤ s → s ≤ ((k + 1 : Nat) : Int) → s ≤ k ∨ s = (k : Int) + 1 := fun s h1 h2 => by omega
          have HNX := Lib.hid HNX
          cases q with
          | false =>
            have HE : Hid (decide (((k : Int) + 1) ∈ L) = false) := Lib.hid (by rw [← HGO.out]; rfl)
            rw [HE.out] at cH
            have HCL2 : Hid (cl = true → ∀ s : Int, 1 ≤ s → s ≤ ((k + 1 : Nat) : Int) → (digF (gs.map FctE.f)).goes pa pb S s = true → s ∈ S) := Lib.hid (fun hc s h1 h2 hg => by
              rcases HNX.out s h1 h2 with h | h
              · exact HCL.out hc s h1 h hg
              · subst h
                rw [HGS.out] at hg
                cases hg)
            go_wp2_with fail
            refine cH.out.mono ?_
            rintro e w11 ⟨rfl, rfl⟩
            clear cH cS
            cases cl with
            | false =>
              go_wp2_with fail
              go_roundw
              case rel => exact ⟨k + 1, false, by omega, rfl, rfl, by go_num, Lib.hid (fun h => HCL2.out (by first | exact h | trivial)), HI9⟩
              case measure => simp [intOf]; omega
            | true =>
              go_wp2_with fail
              go_roundw
              case rel => exact ⟨k + 1, true, by omega, rfl, rfl, by go_num, Lib.hid (fun h => HCL2.out (by first | exact h | trivial)), HI9⟩
              case measure => simp [intOf]; omega
          | true =>
            have aL := Lib.hid (allowsR_any x (.slice l1 x.after.length l2) HIA9.out pa pb _ L HOP9.out n w9 (fun a u h => h))
            have HE : Hid (allows x pa pb L n = decide (((k : Int) + 1) ∈ L)) := Lib.hid (by rw [← HGO.out]; rfl)
            rw [HE.out] at aL
            generalize hr5 : decide (((k : Int) + 1) ∈ L) = r at *
            have HRR := Lib.hid hr5
            clear hr5
            have d0 : w9.cell? ⟨w8.heap.size, 0, none⟩ = some (.int .i64 x.till) := blk_cell HN9.out 0
            have d1 : w9.cell? ⟨w8.heap.size, 1, none⟩ = some (.slice l1 x.after.length l2) := blk_cell HN9.out 1
            have d2 : w9.cell? ⟨w8.heap.size, 2, none⟩ = some (.int .i64 x.appr) := blk_cell HN9.out 2
            have d3 : w9.cell? ⟨w8.heap.size, 3, none⟩ = some (.int .i64 x.denied) := blk_cell HN9.out 3
            go_wp2_with fail
            refine aL.out.mono ?_
            rintro e w11 ⟨rfl, hb11⟩
            clear aL cH cS d0 d1 d2 d3
            have cH := Lib.hid (hasR_any _ L (HOP9.out.mono (sees_bel hb11)) ((k : Int) + 1) w11 (fun a u h => h))
            have aS := Lib.hid (allowsR_any x (.slice l1 x.after.length l2) (HIA9.out.mono (sees_bel hb11)) pa pb _ S (HSP9.out.mono (sees_bel hb11)) n w11 (fun a u h => h))
            have HS11 := Lib.hid (sees_bel hb11)
            have HI11 := Lib.hid (HI9.out.trans (hb11.mono HI9.out.size))
            have HN11 := Lib.hid ((hb11.block _ (Go.Proofs.YtgbihmafmmeicaaGreatDoor.hlt HN9.out)).trans HN9.out)
            clear hb11
            have cS := Lib.hid (fun W (hb : Below w11.heap.size w11 W) => hasR_any _ S (HSP9.out.mono (fun a u h => (sees_bel hb _ _ ((HS11.out) _ _ h)))) ((k : Int) + 1) W (fun a u h => h))
            rw [HRR.out] at cH
            cases r
            all_goals
              go_wp2_with fail
              refine cH.out.mono ?_
              rintro e w12 ⟨rfl, rfl⟩
              clear cH
              have d0 : w11.cell? ⟨w8.heap.size, 0, none⟩ = some (.int .i64 x.till) := blk_cell HN11.out 0
              have d1 : w11.cell? ⟨w8.heap.size, 1, none⟩ = some (.slice l1 x.after.length l2) := blk_cell HN11.out 1
              have d2 : w11.cell? ⟨w8.heap.size, 2, none⟩ = some (.int .i64 x.appr) := blk_cell HN11.out 2
              have d3 : w11.cell? ⟨w8.heap.size, 3, none⟩ = some (.int .i64 x.denied) := blk_cell HN11.out 3
              cases cl with
              | false =>
                go_wp2_with fail
                go_roundw
                case rel => exact ⟨k + 1, false, by omega, rfl, rfl, by go_num, Lib.hid (fun h => absurd h (by decide)), HI11⟩
                case measure => simp [intOf]; omega
              | true =>
                go_wp2_with fail
                refine aS.out.mono ?_
                rintro e w13 ⟨rfl, hb13⟩
                have cT := Lib.hid (cS.out w13 hb13)
                have HI13 := Lib.hid (HI11.out.trans (hb13.mono HI11.out.size))
                clear hb13 aS cS d0 d1 d2 d3
                generalize hr2 : allows x pa pb S n = r2 at *
                have HR2 := Lib.hid hr2
                clear hr2
                generalize hr3 : decide (((k : Int) + 1) ∈ S) = r3 at *
                have HR3 := Lib.hid hr3
                clear hr3
                have HCL3 : Hid ((r2 = true → r3 = true) → ∀ s : Int, 1 ≤ s → s ≤ ((k + 1 : Nat) : Int) → (digF (gs.map FctE.f)).goes pa pb S s = true → s ∈ S) := Lib.hid (fun hc s h1 h2 hg => by
                  rcases HNX.out s h1 h2 with h | h
                  · exact HCL.out (by first | rfl | trivial) s h1 h hg
                  · subst h
                    rw [HGS.out] at hg
                    have h3 := hc (by simpa using hg)
                    rw [← HR3.out] at h3
                    exact of_decide_eq_true h3)
                cases r2 with
                | false =>
                  go_wp2_with fail
                  go_roundw
                  case rel => exact ⟨k + 1, true, by omega, rfl, rfl, by go_num, Lib.hid (fun _ => HCL3.out (fun h => by first | cases h | exact absurd h (by simp))), HI13⟩
                  case measure => simp [intOf]; omega
                | true =>
                  go_wp2_with fail
                  refine cT.out.mono ?_
                  rintro e w14 ⟨rfl, rfl⟩
                  cases r3 with
                  | false =>
                    go_wp2_with fail
                    go_roundw
                    case rel => exact ⟨k + 1, false, by omega, rfl, rfl, by go_num, Lib.hid (fun h => absurd h (by decide)), HI13⟩
                    case measure => simp [intOf]; omega
                  | true =>
                    go_wp2_with fail
                    go_roundw
                    case rel => exact ⟨k + 1, true, by omega, rfl, rfl, by go_num, Lib.hid (fun _ => HCL3.out (fun _ => by first | rfl | trivial)), HI13⟩
                    case measure => simp [intOf]; omega
        · have h4 : ¬ (k : Int) + 1 ≤ 4 := by omega
          have hbf := HBW.out.trans (HI.out.mono HBW.out.size)
          have HBF := Lib.hid hbf
          clear hbf
          cases cl with
          | false =>
            go_wp2_with fail
            go_ret
            exact ⟨rfl, HBF.out⟩
          | true =>
            have hk4 : k = 4 := by omega
            subst hk4
            have hp : ∀ s, 4 < s → (digF (gs.map FctE.f)).pub s = false := fun s h4s => by
              rw [HGM.out]
              show (lastPub ((logF xs).filter validF) s).isSome = false
              rw [lastPub_none.2 (fun f hf => by
                have h1 := logF_story xs f (List.mem_filter.1 hf).1
                unfold isPub
                rw [decide_eq_false (by omega : ¬ f.story = s), Bool.and_false])]
              rfl
            have hsub : withinF L S = 1 := within_one (out_least HO.out hp (fun s h1 h2 hg => HCL.out (by first | rfl | trivial) s h1 (by omega) hg))
            have HW : Hid (Calls Tryz.prog 20 #[.slice o1 L.length o2, .slice sa S.length sc] wp fun e w' => e = .returned (.int .i64 1) ∧ wp = w') := Lib.hid (by
              have h := withinL_any (mem := fun a => wp.cell? a) (HOW.out.mono (sees_bel HI.out)) (HSW.out.mono (sees_bel HI.out)) wp (fun a u h => h)
              rw [hsub] at h
              exact h)
            clear hsub hp
            go_wp2_with fail
            refine HW.out.mono ?_
            rintro e w5 ⟨rfl, rfl⟩
            go_wp2_with fail
            go_ret
            exact ⟨rfl, HBF.out⟩
end Go.Proofs.YtgbihmafmmeicaaGreatDoor
/-
  WHAT IS PROVED HERE: the walk of the reference's Redact. No condition but that the fact lies in memory.
-/
namespace Go.Proofs.YtgbihmafmmeicaaGreatDoor
open Go.RowKit Mg Go.Shelf

theorem redact_results {w W : World} {A Z : Array Value} (h : GW w A Z W) (hz : Z.size = 23) {t : Array Value} (h2 : t[2]? = some (.pointer (some ⟨w.heap.size + 1, 0, none⟩))) :
    (results Tryz.f28 t).run Tryz.prog W = .ok (.agg Z) W := by
  obtain ⟨fs, hu⟩ := fct_under
  have hl := run_loadVar_row (P := Tryz.prog) W (w.heap.size + 1) 45 45 Z (0, 0) _ h.z hu rfl (by rw [fct_size, hz])
  simp [results, h2, hl, asAddr]
/-- a fact's head -/
structure Head4 (A : Array Value) (n t k s : Int) : Prop where
  h0 : A[0]? = some (.int .i64 n)
  h1 : A[1]? = some (.int .i64 t)
  h2 : A[2]? = some (.int .i64 k)
  h3 : A[3]? = some (.int .i64 s)
  hs : A.size = 23
  ho : A.all (·.oneCell') = true
abbrev goneC (n t s : Int) : Array Value := #[.int .i64 n, .int .i64 t, .int .i64 10, .int .i64 s, .string .empty, .int .i64 0, .int .i64 0, .string .empty, .string .empty, .slice none 0 0, .slice none 0 0, .int .i64 0, .slice none 0 0, .int .i64 0, .int .i64 0, .int .i64 0, .int .i64 0, .int .i64 0, .string .empty, .string .empty, .int .i64 0, .int .i64 0, .int .i64 0]
set_option maxRecDepth 100000 in
set_option maxHeartbeats 2000000 in
theorem redact_gone {A : Array Value} {n t k s : Int} (h : Head4 A n t k s) (hk : k = 1 ∨ k = 4 ∨ k = 5) (w : World) :
    Calls Tryz.prog 28 #[.agg A] w fun r w' => r = .returned (.agg (goneC n t s)) ∧ Below w.heap.size w w' := by
  have HH := Lib.hid h
  clear h
  go_enter Tryz.func28, Tryz.ntmps28
  go_upto_region 1 with fail
  generalize hW : World.alloc (World.alloc w _) _ = W1
  have h0 : Hid (GW w A zeroFct W1) := Lib.hid (by rw [← hW]; exact GW.new w _ _)
  clear hW
  have d0 := (blk_cell h0.out.a 0).trans HH.out.h0
  have d1 := (blk_cell h0.out.a 1).trans HH.out.h1
  have d2 := (blk_cell h0.out.a 2).trans HH.out.h2
  have d3 := (blk_cell h0.out.a 3).trans HH.out.h3
  rcases hk with rfl | rfl | rfl
  all_goals
    go_wp2_with (first
      | ((with_reducible refine at_fbuild _ rfl ?_); go_must (refine wpList_fct_build4 rfl _ rfl n t 10 s (by simp [Act.eval]) ?_))
      | ((with_reducible refine at_fstore _ _ rfl ?_); go_must (refine wpList_store_rowTo rfl 45 _ _ rfl rfl (w.heap.size + 1) _ (by simp [Act.eval, Act.put]) (by simp [Act.eval, Act.put]; try rfl) 45 _ h0.out.z (by rw [fct_size]; rfl) (by rfl) (by simp [Value.oneCell']) ?_)))
    refine bodyPost_ret (redact_results (h0.out.setZ _) (by rfl) (by first | rfl | simp [Act.put])) rfl ?_
    exact ⟨rfl, (h0.out.setZ _).b⟩
set_option maxRecDepth 100000 in
set_option maxHeartbeats 2000000 in
theorem redact_same {A : Array Value} {n t k s : Int} (h : Head4 A n t k s) (h1 : k ≠ 1) (h4 : k ≠ 4) (h5 : k ≠ 5) (w : World) :
    Calls Tryz.prog 28 #[.agg A] w fun r w' => r = .returned (.agg A) ∧ Below w.heap.size w w' := by
  have HH := Lib.hid h
  clear h
  have b1 : (k == 1) = false := by simpa using h1
  have b4 : (k == 4) = false := by simpa using h4
  have b5 : (k == 5) = false := by simpa using h5
  clear h1 h4 h5
  go_enter Tryz.func28, Tryz.ntmps28
  go_upto_region 1 with fail
  generalize hW : World.alloc (World.alloc w _) _ = W1
  have h0 : Hid (GW w A zeroFct W1) := Lib.hid (by rw [← hW]; exact GW.new w _ _)
  clear hW
  have d2 := (blk_cell h0.out.a 2).trans HH.out.h2
  go_wp2_with (first
    | ((with_reducible refine at_fload _ rfl ?_); go_must (refine wpList_fct_load rfl _ rfl w.heap.size (by simp [Act.eval]) A h0.out.a HH.out.hs ?_))
    | ((with_reducible refine at_fstore _ _ rfl ?_); go_must (refine wpList_store_rowTo rfl 45 _ _ rfl rfl (w.heap.size + 1) _ (by simp [Act.eval, Act.put]) (by simp [Act.eval, Act.put]; try rfl) 45 _ h0.out.z (by rw [fct_size, HH.out.hs]) (by rw [HH.out.hs]; rfl) HH.out.ho ?_)))
  refine bodyPost_ret (redact_results (h0.out.setZ _) HH.out.hs (by first | rfl | simp [Act.put])) rfl ?_
  exact ⟨rfl, (h0.out.setZ _).b⟩
def redE (e : FctE) : FctE := if e.f.kind = 1 ∨ e.f.kind = 4 ∨ e.f.kind = 5 then plainE (goneF e.f) else e
theorem redE_f (e : FctE) : (redE e).f = redactF e.f := by
  unfold redE redactF
  split <;> rfl
theorem redE_ok {mem : Addr → Option Value} {e : FctE} (h : e.ok mem) : (redE e).ok mem := by
  unfold redE
  split
  · have z := fok_zero
    have k := h.fok
    exact plain_ok ⟨k.i0, k.i1, okS (by show -1000 ≤ (10 : Int); omega) (by show (10 : Int) ≤ 1000; omega), k.i3, z.s4, z.i5, z.i6, z.s7, z.s8, z.i11, z.i13, z.i14, z.i15, z.i16, z.i17, z.s18, z.s19, z.i20, z.i21, z.i22, z.bl⟩ rfl rfl rfl
  · exact h
theorem head_of (e : FctE) : Head4 e.cells e.f.n e.f.time e.f.kind e.f.story := ⟨rfl, rfl, rfl, rfl, e.size, e.one⟩
theorem redact_any (e : FctE) (w : World) :
    Calls Tryz.prog 28 #[.agg e.cells] w fun r w' => r = .returned (.agg (redE e).cells) ∧ Below w.heap.size w w' := by
  by_cases h : e.f.kind = 1 ∨ e.f.kind = 4 ∨ e.f.kind = 5
  · have := redact_gone (head_of e) h w
    have he : redE e = plainE (goneF e.f) := by unfold redE; rw [if_pos h]
    rw [he]
    exact this
  · have := redact_same (head_of e) (fun q => h (.inl q)) (fun q => h (.inr (.inl q))) (fun q => h (.inr (.inr q))) w
    have he : redE e = e := by unfold redE; rw [if_neg h]
    rw [he]
    exact this
end Go.Proofs.YtgbihmafmmeicaaGreatDoor
/-
  WHAT IS PROVED HERE: plain: what AccessTaken asks of the visible facts. No program, no condition.
-/
namespace Go.Proofs.YtgbihmafmmeicaaGreatDoor
open Mg

def tkF (s : Int) : Fct := { fct0 with n := 30, kind := 6, story := s }
def tpF : Fct := { fct0 with n := 31, kind := 7, name := ⟨#[108, 97, 115, 116]⟩, text := ⟨#[120]⟩ }
theorem tk_valid {s : Int} (h1 : 1 ≤ s) (h2 : s ≤ 4) : validF (tkF s) = true := by
  refine valid_mk (by show (0 : Int) ≤ 30 ∧ (30 : Int) ≤ 500; omega) (by show (0 : Int) ≤ 0 ∧ (0 : Int) ≤ _; omega) ?_ rfl
  show storyOK (tkF s) = true
  unfold storyOK
  rw [inR_iff]
  show 1 ≤ s ∧ s ≤ 64
  omega
theorem tp_valid : validF tpF = true := by kernel_rfl
theorem tk_tidy (s : Int) : Tidy (tkF s) := ⟨.inr (.inr (.inr (.inr (.inr (.inl rfl))))), rfl⟩
theorem tp_tidy : Tidy tpF := ⟨.inr (.inr (.inr (.inr (.inr (.inr (.inl rfl)))))), rfl⟩
def lastN (l : List Fct) (i : Nat) : Int := if i = 0 then 0 else ((l[i - 1]?).map Fct.n).getD 0
theorem lastN_succ {l : List Fct} {i : Nat} (h : i < l.length) : lastN l (i + 1) = l[i].n := by
  unfold lastN
  rw [if_neg (by omega), Nat.add_sub_cancel, List.getElem?_eq_getElem h]
  rfl
theorem ns_up {l : List Fct} (h : (l.map Fct.n).Pairwise (· < ·)) (h1 : ∀ n ∈ l.map Fct.n, 1 ≤ n) {i : Nat} (hi : i < l.length) : lastN l i < l[i].n := by
  by_cases h0 : i = 0
  · subst h0
    unfold lastN
    rw [if_pos rfl]
    have := h1 l[0].n (List.mem_map_of_mem (List.getElem_mem hi))
    omega
  · obtain ⟨j, rfl⟩ : ∃ j, i = j + 1 := ⟨i - 1, by omega⟩
    rw [lastN_succ (by omega)]
    rw [List.pairwise_iff_getElem] at h
    have := h j (j + 1) (by rw [List.length_map]; omega) (by rw [List.length_map]; omega) (by omega)
    rwa [List.getElem_map, List.getElem_map] at this
theorem taken_law {xs : List Six} {s cls now : Int} {L : List Int} (h1 : 1 ≤ s) (h2 : s ≤ 4) (hc : 0 ≤ cls ∧ cls < 4) {V : List Fct} (hV : V = visOf ((logF xs ++ [tkF s, tpF]).filter validF) cls now L) :
    (∀ i (hi : i < V.length), lastN V i < V[i].n ∧ (V[i].kind = 7 ∨ V[i].story ∈ L) ∧ (V[i].kind = 7 ∨ V[i].story ≠ s ∨ V[i].kind = 3 ∨ V[i].kind = 6)) ∧ lastN V V.length = 31 := by
  have hD : (logF xs ++ [tkF s, tpF]).filter validF = ((logF xs).filter validF ++ [tkF s]) ++ [tpF] := by
    rw [List.filter_append, List.append_assoc]
    congr 1
    simp [tk_valid h1 h2, tp_valid]
  rw [hD] at hV
  unfold visOf at hV
  rw [if_pos hc] at hV
  have hns : ((((logF xs).filter validF ++ [tkF s]) ++ [tpF]).map Fct.n).Pairwise (· < ·) ∧ ∀ n ∈ (((logF xs).filter validF ++ [tkF s]) ++ [tpF]).map Fct.n, 1 ≤ n := by
    obtain ⟨q1, q2⟩ := logF_ns xs
    have hsub : List.Sublist (((logF xs).filter validF).map Fct.n) ((logF xs).map Fct.n) := List.Sublist.map _ List.filter_sublist
    have p1 := q1.sublist hsub
    have p2 : ∀ n ∈ ((logF xs).filter validF).map Fct.n, 1 ≤ n ∧ n ≤ 24 := fun n hn => q2 n (hsub.subset hn)
    have e : (((logF xs).filter validF ++ [tkF s]) ++ [tpF]).map Fct.n = ((logF xs).filter validF).map Fct.n ++ [30, 31] := by
      rw [List.append_assoc, List.map_append]; rfl
    rw [e]
    constructor
    · rw [List.pairwise_append]
      refine ⟨p1, by simp, fun a ha b hb => ?_⟩
      have := p2 a ha
      simp only [List.mem_cons, List.not_mem_nil, or_false] at hb
      omega
    · intro n hn
      rcases List.mem_append.1 hn with hn | hn
      · exact (p2 n hn).1
      · simp only [List.mem_cons, List.not_mem_nil, or_false] at hn
        omega
  have hs := visGo_ns ⟨((logF xs).filter validF ++ [tkF s]) ++ [tpF], cls, now, L⟩ (((logF xs).filter validF ++ [tkF s]) ++ [tpF]) (fun _ _ _ => false)
  have hs' : List.Sublist (V.map Fct.n) ((((logF xs).filter validF ++ [tkF s]) ++ [tpF]).map Fct.n) := by rw [hV]; exact hs
  have v1 := hns.1.sublist hs'
  have v2 : ∀ n ∈ V.map Fct.n, 1 ≤ n := fun n hn => hns.2 n (hs'.subset hn)
  have htk : takenF (((logF xs).filter validF ++ [tkF s]) ++ [tpF]) s = true := by
    unfold takenF
    rw [List.any_eq_true]
    refine ⟨tkF s, by simp, ?_⟩
    unfold isTake
    simp [tkF]
  refine ⟨fun i hi => ?_, ?_⟩
  · have hm : V[i] ∈ visC ⟨((logF xs).filter validF ++ [tkF s]) ++ [tpF], cls, now, L⟩ := by rw [← hV]; exact List.getElem_mem hi
    obtain ⟨o1, o2⟩ := visC_out _ _ hm
    refine ⟨ns_up v1 v2 hi, o1, ?_⟩
    by_cases hst : V[i].story = s
    · rcases o2 (by rw [hst]; exact htk) with h | h | h
      · exact .inl h
      · exact .inr (.inr (.inl h))
      · exact .inr (.inr (.inr h))
    · exact .inr (.inl hst)
  · have hl := visC_last (c := ⟨((logF xs).filter validF ++ [tkF s]) ++ [tpF], cls, now, L⟩) (D := (logF xs).filter validF ++ [tkF s]) (t := tpF) rfl rfl
    rw [← hV] at hl
    rw [hl, List.length_append, List.length_singleton, lastN_succ (by simp)]
    simp [stripF, tpF]
end Go.Proofs.YtgbihmafmmeicaaGreatDoor
/-
  WHAT IS PROVED HERE: the walk of the law AccessTaken. No condition but that the arguments lie in memory and are within Go's.
-/
namespace Go.Proofs.YtgbihmafmmeicaaGreatDoor
open Go.RowKit Mg Go.Shelf

theorem lt1 (s : Int) : Tryz.prog.built 45 [(0, .int .i64 30), (2, .int .i64 6), (3, .int .i64 s)] = some (plainE (tkF s)).cells := by kernel_rfl
theorem lt2 : Tryz.prog.built 45 [(0, .int .i64 31), (2, .int .i64 7), (16, .string ⟨#[108, 97, 115, 116]⟩), (15, .string ⟨#[120]⟩)] = some (plainE tpF).cells := by kernel_rfl
def tkEs (s : Int) : List FctE := [plainE (tkF s), plainE tpF]
theorem fillT (s : Int) : Instr.fill (fun i => some (i * 23, 23)) ((Array.range (2 * 23)).map (zeroF.cells[· % zeroF.cells.size]!)) [(0, .agg (plainE (tkF s)).cells), (1, .agg (plainE tpF).cells)] = some (rowVals (tkEs s)).toArray := by kernel_rfl
theorem tkEs_ok {s : Int} (h1 : 1 ≤ s) (h2 : s ≤ 4) : ∀ e ∈ tkEs s, ∀ mem, e.ok mem := fun e he mem => by
  have z := fok_zero
  rcases List.mem_cons.1 he with rfl | he
  · exact plain_ok ⟨okS (by show -1000 ≤ (30 : Int); omega) (by show (30 : Int) ≤ 1000; omega), z.i1, okS (by show -1000 ≤ (6 : Int); omega) (by show (6 : Int) ≤ 1000; omega), okS (by show -1000 ≤ s; omega) (by show s ≤ 1000; omega), z.s4, z.i5, z.i6, z.s7, z.s8, z.i11, z.i13, z.i14, z.i15, z.i16, z.i17, z.s18, z.s19, z.i20, z.i21, z.i22, z.bl⟩ rfl rfl rfl
  rcases List.mem_cons.1 he with rfl | he
  · exact plain_ok ⟨okS (by show -1000 ≤ (31 : Int); omega) (by show (31 : Int) ≤ 1000; omega), z.i1, okS (by show -1000 ≤ (7 : Int); omega) (by show (7 : Int) ≤ 1000; omega), z.i3, z.s4, z.i5, z.i6, z.s7, z.s8, z.i11, z.i13, z.i14, z.i15, z.i16, z.i17, ml _ (by decide), ml _ (by decide), z.i20, z.i21, z.i22, z.bl⟩ rfl rfl rfl
  cases he
set_option maxRecDepth 100000 in
set_option maxHeartbeats 8000000 in
theorem law_taken {mem : Addr → Option Value} {v : Value} {xs : List Six} (hx : SixM mem v xs) {a b dn : Int} (ha : okI a) (hb : okI b) (hd : okI dn) (w : World) (hs : Sees mem w) :
    Calls Tryz.prog 8 #[v, .agg #[.int .i64 a, .int .i64 b], .int .i64 dn] w fun e w' => e = .returned (.bool true) ∧ Below w.heap.size w w' := by
  have HX := Lib.hid hx
  obtain ⟨_, _, ⟨_, oa, oc, rfl, _⟩, _⟩ := hx
  have HB1 : Hid (Below w.heap.size w (w.alloc (.cells #[.int .i64 a, .int .i64 b] 23))) := Lib.hid ((Below.refl _ w).alloc (Nat.le_refl _) _)
  have HA1 := Lib.hid (World.alloc_heap_new w (.cells #[.int .i64 a, .int .i64 b] 23))
  have HS1 := Lib.hid (hs.bel HB1.out)
  have c1 := Lib.hid (fun W => pick_any dn 4 hd (by omega) (by omega) W)
  obtain ⟨p0, p1⟩ := pickF_lt (c := dn) (n := 4) (by omega)
  obtain ⟨q0, q1⟩ := pickF_lt (c := a) (n := 4) (by omega)
  obtain ⟨t0, t1⟩ := pickF_lt (c := b) (n := 25) (by omega)
  have c2 := Lib.hid (fun W => at_any2 a b ha hb W)
  generalize pickF dn 4 = pd at *
  generalize pickF a 4 = pa at *
  generalize pickF b 25 = pb at *
  obtain ⟨st, hst⟩ : ∃ st, st = 1 + pd := ⟨_, rfl⟩
  have HST := Lib.hid hst
  have hst1 : 1 ≤ st := by omega
  have hst4 : st ≤ 4 := by omega
  clear hs ha hb hd
  go_enter Tryz.func8, Tryz.ntmps8
  go_upto_region 1 with fail
  generalize hW1 : w.alloc _ = W1 at *
  clear hW1
  go_wp2_with fail
  refine (sane_any W1).mono ?_
  rintro e W2 ⟨rfl, hb2⟩
  have HB2 := Lib.hid (HB1.out.trans (hb2.mono HB1.out.size))
  have HA2 := Lib.hid ((hb2.block _ (Go.Proofs.YtgbihmafmmeicaaGreatDoor.hlt HA1.out)).trans HA1.out)
  have HS2 := Lib.hid (HS1.out.bel hb2)
  clear hb2
  go_wp2_with fail
  refine (c1.out _).mono ?_
  rintro e w3 ⟨rfl, rfl⟩
  go_wp2_with fail
  refine (log_any _ xs HX.out W2 HS2.out).mono ?_
  rintro e W3 ⟨lv, ys, rfl, hys, hI⟩
  obtain ⟨la, ln, lc, rfl⟩ := hI.row.sl
  have HI := Lib.hid hI
  have HYS := Lib.hid hys
  have hyl : ys.length ≤ 24 := by rw [← List.length_map (f := FctE.f), hys]; exact logF_len xs
  have HN3 : Hid (Below W3.heap.size W3 (W3.alloc (.cells (rowVals (tkEs st)).toArray 45))) := Lib.hid ((Below.refl _ W3).alloc (Nat.le_refl _) _)
  have HE3 := Lib.hid (FRow.es (frow_lit (B := W3.heap.size) (es := tkEs st) (Nat.le_refl _) (World.alloc_heap_new W3 (.cells (rowVals (tkEs st)).toArray 45)) (by show 2 ≤ 1000; omega)) (fun e he => tkEs_ok hst1 hst4 e he _))
  clear hI hys
  rw [← hst]
  clear hst p0 p1
  go_upto_region 4 with (first
    | ((with_reducible refine at_fbuild _ rfl ?_); go_must (refine wpList_buildTo rfl 45 _ rfl _ rfl _ (by simp [Act.eval, Act.put]; with_reducible (first | exact lt1 _ | exact lt2)) ?_))
    | ((with_reducible refine at_fslices _ _ rfl ?_); go_must (refine wpList_fct_slices rfl _ _ rfl _ (by omega) (by omega) _ (by simp [Act.eval, Act.put]) (fillT st) ?_))
    | (at_builtin
       go_must (refine wpList_app_facts rfl _ _ rfl W2.heap.size _ ys rfl ((HI.out.below HN3.out).row) (some ⟨W3.heap.size, 0, none⟩) 2 (tkEs st) rfl HE3.out (by show ys.length + 2 ≤ 100000; omega) (by have := HI.out.bel.size; have := HN3.out.size; omega) ?_)
       intro v4 W4 h4 hg4 hn4
       have H4 := Lib.hid (HI.out.apps HN3.out (tkEs_ok hst1 hst4) h4 hg4 hn4)
       obtain ⟨es, hes⟩ : ∃ e, e = ys ++ tkEs st := ⟨_, rfl⟩
       rw [← hes] at h4 H4
       obtain ⟨va, vc, rfl⟩ := h4.shape
       have HEQ := Lib.hid hes
       clear h4 hg4 hn4 hes))
  have HM : Hid (es.map FctE.f = logF xs ++ [tkF st, tpF]) := Lib.hid (by rw [HEQ.out, List.map_append, HYS.out]; rfl)
  have HTY : Hid (∀ e ∈ es, Tidy e.f) := Lib.hid (fun e he => by
    rw [HEQ.out] at he
    rcases List.mem_append.1 he with he | he
    · exact logF_tidy xs _ (by rw [← HYS.out]; exact List.mem_map_of_mem he)
    · rcases List.mem_cons.1 he with rfl | he
      · exact tk_tidy st
      · rcases List.mem_cons.1 he with rfl | he
        · exact tp_tidy
        · cases he)
  have hal : es.length ≤ 1000 := by rw [HEQ.out, List.length_append]; show ys.length + 2 ≤ 1000; omega
  have HB4 := Lib.hid (HB2.out.trans (H4.out.bel.mono HB2.out.size))
  have hA4 := (H4.out.bel.block _ (Go.Proofs.YtgbihmafmmeicaaGreatDoor.hlt HA2.out)).trans HA2.out
  have k0 : W4.cell? ⟨w.heap.size, 0, none⟩ = some (.int .i64 a) := blk_cell hA4 0
  have k1 : W4.cell? ⟨w.heap.size, 1, none⟩ = some (.int .i64 b) := blk_cell hA4 1
  have HES := Lib.hid H4.out.es
  clear hA4 H4 HI HN3 HE3 hyl
  go_wp2_with fail
  refine (c2.out _).mono ?_
  rintro e W5 ⟨rfl, hb5⟩
  have HB5 := Lib.hid (HB4.out.trans (hb5.mono HB4.out.size))
  have HES5 := Lib.hid (HES.out.mono (sees_bel hb5))
  clear k0 k1 hb5 HES HB4
  go_wp2_with fail
  refine (access_out_any _ es HES5.out HTY.out hal pa pb W5 (fun a u h => h) (cells_lt W5)).mono ?_
  rintro e W6 ⟨ov, L, rfl, hor, ho, hb6⟩
  obtain ⟨o1, o2, rfl⟩ := hor.shape
  rw [HM.out] at ho
  have HO := Lib.hid ho
  have HOR := Lib.hid hor.ints
  have HB6 := Lib.hid (HB5.out.trans (hb6.mono HB5.out.size))
  have HES6 := Lib.hid (HES5.out.mono (sees_bel hb6))
  clear ho hor hb6 HB5 HES5
  go_wp2_with fail
  refine (access_visible_any _ es HES6.out HTY.out hal pa pb W6 (fun a u h => h) (cells_lt W6)).mono ?_
  rintro e W7 ⟨vv, zs, L2, rfl, hL2, hzs, hzr, hzok, hb7⟩
  rw [HM.out] at hL2 hzs
  rw [out_one (hL2 q0 q1) HO.out] at hzs
  obtain ⟨za, zc, zb, zo, rfl, hzm, hza, hze⟩ := (hzr.es (fun y hy => (hzok y hy).mono (memFr_sees _ _))).open_
  unfold maxLen at hzm
  have hzl : (zs.length : Int) ≤ 9223372036854775807 := by omega
  have HZA := Lib.hid hza
  have HZE := Lib.hid hze
  have HB7 := Lib.hid (HB6.out.trans (hb7.mono HB6.out.size))
  have HOR7 := Lib.hid (HOR.out.mono (sees_bel hb7))
  have HL := Lib.hid (taken_law (xs := xs) hst1 hst4 ⟨q0, q1⟩ hzs)
  have hln : (zs.map FctE.f).length = zs.length := List.length_map _
  have HLN := Lib.hid hln
  have HC := Lib.hid (fun x => hasR_any (mem := fun a => W7.cell? a) (.slice o1 L.length o2) L HOR7.out x W7 (fun a u h => h))
  clear hL2 hzs hzr hzok hb7 hza hze HB6 HOR HES6 hln HO HTY
  go_wp2_with fail
  go_loop [7, 14, 15] (fun q m i => ∃ k : Nat, k ≤ zs.length ∧ i = .int .i64 k ∧ m = .int .i64 (lastN (zs.map FctE.f) k) ∧ q = .bool true) (fun _ _ i => zs.length - (intOf i).toNat)
  case atStart => exact ⟨0, Nat.zero_le _, rfl, rfl, rfl⟩
  case round =>
    obtain ⟨k, hk, rfl, rfl, rfl⟩ := hrel
    by_cases hlt : k < zs.length
    · obtain rfl := HZA.out (by omega)
      obtain ⟨_, hat⟩ := HZE.out k hlt
      have hk2 : k < (zs.map FctE.f).length := by rw [HLN.out]; exact hlt
      have hfk : (zs.map FctE.f)[k] = zs[k].f := List.getElem_map _
      obtain ⟨l1, l2, l3⟩ := HL.out.1 k hk2
      have hls := lastN_succ hk2
      rw [hfk] at l1 l2 l3 hls
      have k0 : W7.cell? ⟨zb, zo + k * 23, none⟩ = some (.int .i64 zs[k].f.n) := hat 0 _ rfl
      have k2 : W7.cell? ⟨zb, zo + k * 23 + 2, none⟩ = some (.int .i64 zs[k].f.kind) := hat 2 _ rfl
      have k3 : W7.cell? ⟨zb, zo + k * 23 + 3, none⟩ = some (.int .i64 zs[k].f.story) := hat 3 _ rfl
      have HLS := Lib.hid hls
      have HL2 := Lib.hid (And.intro l2 l3)
      generalize hlk : lastN (zs.map FctE.f) k = lk at *
      have HC1 := Lib.hid (HC.out zs[k].f.story)
      generalize zs[k].f.n = yn at *
      generalize zs[k].f.kind = yk at *
      generalize zs[k].f.story = ys at *
      clear hat hfk hls hlk l2 l3
      by_cases h7 : yk = 7
      · subst h7
        go_wp2_with fail
        go_round
        case rel => exact ⟨k + 1, by omega, by go_num, by rw [HLS.out], rfl⟩
        case measure => simp [intOf]; omega
      · have b7 : (yk == 7) = false := by simpa using h7
        have hin : decide (ys ∈ L) = true := by
          rcases HL2.out.1 with h | h
          · exact absurd h h7
          · exact decide_eq_true h
        have HC2 : Hid (Calls Tryz.prog 19 #[.slice o1 L.length o2, .int .i64 ys] W7 fun e w' => e = .returned (.bool true) ∧ W7 = w') := Lib.hid (by
          have h := HC1.out
          rw [hin] at h
          exact h)
        clear hin
        by_cases hss : ys = st
        · by_cases h3 : yk = 3
          · subst hss
            subst h3
            clear h7
            go_wp2_with fail
            refine HC2.out.mono ?_
            rintro e w8 ⟨rfl, rfl⟩
            go_wp2_with fail
            go_round
            case rel => exact ⟨k + 1, by omega, by go_num, by rw [HLS.out], rfl⟩
            case measure => simp [intOf]; omega
          · have h6 : yk = 6 := by
              rcases HL2.out.2 with h | h | h | h
              · exact absurd h h7
              · exact absurd hss h
              · exact absurd h h3
              · exact h
            subst hss
            subst h6
            clear h7 h3
            go_wp2_with fail
            refine HC2.out.mono ?_
            rintro e w8 ⟨rfl, rfl⟩
            go_wp2_with fail
            go_round
            case rel => exact ⟨k + 1, by omega, by go_num, by rw [HLS.out], rfl⟩
            case measure => simp [intOf]; omega
        · have bs : (ys != st) = true := by simpa using hss
          clear hss h7
          go_wp2_with fail
          refine HC2.out.mono ?_
          rintro e w8 ⟨rfl, rfl⟩
          go_wp2_with fail
          go_round
          case rel => exact ⟨k + 1, by omega, by go_num, by rw [HLS.out], rfl⟩
          case measure => simp [intOf]; omega
    · obtain rfl : k = zs.length := by omega
      have e31 := HL.out.2
      rw [HLN.out] at e31
      rw [e31]
      go_wp2_with fail
      go_ret
      exact ⟨rfl, HB7.out⟩
end Go.Proofs.YtgbihmafmmeicaaGreatDoor
/-
  WHAT IS PROVED HERE: plain: what AccessStable asks of the visible facts. No program, no condition.
-/
namespace Go.Proofs.YtgbihmafmmeicaaGreatDoor
open Go.RowKit Mg Go.Shelf

theorem vis_kind {c : Scn} {g : Fct} (h : g ∈ visC c) : g.kind = 1 ∨ g.kind = 3 ∨ g.kind = 4 ∨ g.kind = 5 ∨ g.kind = 6 ∨ g.kind = 7 := by
  obtain ⟨pre, f, post, e, h2⟩ := visGo_mem h
  rw [(seenAt_form h2).2.2.1]
  unfold seenAt at h2
  by_cases h7 : f.kind = 7
  · omega
  rw [if_neg h7] at h2
  by_cases h3 : f.kind = 3 ∨ f.kind = 6
  · omega
  rw [if_neg h3] at h2
  by_cases h5 : f.kind = 5
  · omega
  rw [if_neg h5] at h2
  by_cases h4 : f.kind = 4
  · omega
  rw [if_neg h4] at h2
  by_cases h1 : f.kind = 1
  · omega
  rw [if_neg h1] at h2
  cases h2
/-- what AccessStable asks of one fact -/
structure Bare (f : Fct) : Prop where
  tidy : Tidy f
  valid : validF f = true
  lab : f.lab = lab0
  blk : ∀ b ∈ f.blocks, b.lab = lab0
theorem stable_law {D : List Fct} (hD : ∀ f ∈ D, validF f = true) {cls now : Int} {L : List Int} (hc : 0 ≤ cls ∧ cls < 4) (hO : OutIs (digF D) cls now L) {V : List Fct} (hV : V = visOf D cls now L) :
    (∀ f ∈ V, Bare f) ∧ ∀ c' t' L', 0 ≤ c' → c' < 4 → 0 ≤ t' → OutIs (digF V) c' t' L' → visOf (V.filter validF) c' t' L' = V := by
  have hv : V = visC ⟨D, cls, now, L⟩ := by rw [hV]; unfold visOf; rw [if_pos hc]
  have hval : ∀ f ∈ V, validF f = true := fun f hf => visC_valid (c := ⟨D, cls, now, L⟩) hD f (by rw [← hv]; exact hf)
  refine ⟨fun f hf => ?_, fun c' t' L' h1 h2 h3 h4 => ?_⟩
  · have hf2 : f ∈ visC ⟨D, cls, now, L⟩ := by rw [← hv]; exact hf
    have hk := vis_kind hf2
    obtain ⟨pre, g, post, e, h2⟩ := visGo_mem hf2
    have hfo := seenAt_form h2
    exact ⟨⟨by omega, validF_used (hval f hf)⟩, hval f hf, hfo.2.2.2.2.2.2.2.1, hfo.2.2.2.2.2.2.2.2.1⟩
  · rw [List.filter_eq_self.2 hval]
    unfold visOf
    rw [if_pos ⟨h1, h2⟩]
    have ho := out_again (c := ⟨D, cls, now, L⟩) hO (cls' := c') (now' := t') ⟨h1, by omega⟩ h3
    rw [← hv] at ho
    have hL := out_one h4 ho
    have := visC_again (c := ⟨D, cls, now, L⟩) (c' := ⟨V, c', t', L'⟩) ⟨hv, hL, ⟨h1, by show c' ≤ 3; omega⟩, h3⟩
    rw [this, ← hv]
end Go.Proofs.YtgbihmafmmeicaaGreatDoor
/-
  WHAT IS PROVED HERE: the walk of the law AccessRedacted. No condition but that the arguments lie in memory and are within Go's.
-/
namespace Go.Proofs.YtgbihmafmmeicaaGreatDoor
open Go.RowKit Mg Go.Shelf

def redInE (D : List Fct) (e : FctE) : FctE := if 0 < e.f.story ∧ takenF D e.f.story = true then redE e else e
theorem redInE_f (D : List Fct) (e : FctE) : (redInE D e).f = redIn D e.f := by
  unfold redInE redIn
  split
  · exact redE_f e
  · rfl
theorem redInE_ok {mem : Addr → Option Value} {D : List Fct} {e : FctE} (h : e.ok mem) : (redInE D e).ok mem := by
  unfold redInE
  split
  · exact redE_ok h
  · exact h
theorem gone_valid {f : Fct} (h : validF f = true) (hk : f.kind = 1 ∨ f.kind = 4 ∨ f.kind = 5) : validF (goneF f) = true := by
  obtain ⟨h1, h2, h3, h4⟩ := valid_un h
  have hs := validF_story h (by omega)
  refine valid_mk h1 h2 ?_ rfl
  show storyOK (goneF f) = true
  unfold storyOK
  exact inR_iff.2 hs
theorem red_valid {D : List Fct} {f : Fct} (h : validF f = true) : validF (redIn D f) = true := by
  rcases redIn_cases D f with e | ⟨hk, _, e⟩
  · rw [e]; exact h
  · rw [e]; exact gone_valid h hk
theorem red_tidy {D : List Fct} {f : Fct} (h : Tidy f) : Tidy (redIn D f) := by
  rcases redIn_cases D f with e | ⟨_, _, e⟩
  · rw [e]; exact h
  · rw [e]; exact ⟨.inr (.inr (.inr (.inr (.inr (.inr (.inr rfl)))))), rfl⟩
theorem ListC.shape {mem : Addr → Option Value} {W0 wr : World} {v : Value} {ys : List FctE} (h : ListC mem W0 v ys wr) : ∃ ao cap, v = .slice ao ys.length cap := h.row.shape
set_option maxRecDepth 100000 in
set_option maxHeartbeats 8000000 in
theorem law_redacted {mem : Addr → Option Value} {v : Value} {xs : List Six} (hx : SixM mem v xs) {a b dn : Int} (ha : okI a) (hb : okI b) (hd : okI dn) (w : World) (hs : Sees mem w) :
    Calls Tryz.prog 7 #[v, .agg #[.int .i64 a, .int .i64 b], .int .i64 dn] w fun e w' => e = .returned (.bool true) ∧ Below w.heap.size w w' := by
  have HX := Lib.hid hx
  obtain ⟨_, _, ⟨_, oa, oc, rfl, _⟩, _⟩ := hx
  have HB1 : Hid (Below w.heap.size w (w.alloc (.cells #[.int .i64 a, .int .i64 b] 23))) := Lib.hid ((Below.refl _ w).alloc (Nat.le_refl _) _)
  have HA1 := Lib.hid (World.alloc_heap_new w (.cells #[.int .i64 a, .int .i64 b] 23))
  have HS1 := Lib.hid (hs.bel HB1.out)
  have c1 := Lib.hid (fun W => pick_any dn 4 hd (by omega) (by omega) W)
  obtain ⟨p0, p1⟩ := pickF_lt (c := dn) (n := 4) (by omega)
  obtain ⟨q0, q1⟩ := pickF_lt (c := a) (n := 4) (by omega)
  obtain ⟨t0, t1⟩ := pickF_lt (c := b) (n := 25) (by omega)
  have c2 := Lib.hid (fun W => at_any2 a b ha hb W)
  generalize pickF dn 4 = pd at *
  generalize pickF a 4 = pa at *
  generalize pickF b 25 = pb at *
  clear hs ha hb hd
  go_enter Tryz.func7, Tryz.ntmps7
  go_upto_region 1 with fail
  generalize hW1 : w.alloc _ = W1 at *
  clear hW1
  go_wp2_with fail
  refine (sane_any W1).mono ?_
  rintro e W2 ⟨rfl, hb2⟩
  have HB2 := Lib.hid (HB1.out.trans (hb2.mono HB1.out.size))
  have HA2 := Lib.hid ((hb2.block _ (Go.Proofs.YtgbihmafmmeicaaGreatDoor.hlt HA1.out)).trans HA1.out)
  have HS2 := Lib.hid (HS1.out.bel hb2)
  clear hb2
  go_wp2_with fail
  refine (log_any _ xs HX.out W2 HS2.out).mono ?_
  rintro e W3 ⟨lv, es, rfl, hys, hI⟩
  obtain ⟨la, lc, rfl⟩ := hI.row.shape
  have hyl : es.length ≤ 24 := by rw [← List.length_map (f := FctE.f), hys]; exact logF_len xs
  have HES := Lib.hid hI.es
  have HB3 := Lib.hid (HB2.out.trans (hI.bel.mono HB2.out.size))
  have HA3 := Lib.hid ((hI.bel.block _ (Go.Proofs.YtgbihmafmmeicaaGreatDoor.hlt HA2.out)).trans HA2.out)
  have HTY : Hid (∀ e ∈ es, Tidy e.f) := Lib.hid (fun e he => logF_tidy xs _ (by rw [← hys]; exact List.mem_map_of_mem he))
  clear hI hys
  go_wp2_with fail
  refine (clean_any _ es HES.out HTY.out (by omega) W3 (fun a u h => h)).mono ?_
  rintro e W4 ⟨cv, rfl, hC⟩
  obtain ⟨ca, cc, rfl⟩ := hC.row.shape
  have hcl : (goodE es).length ≤ 24 := by
    have h := List.length_filter_le (fun e : FctE => validF e.f) es
    unfold goodE
    omega
  have HTG : Hid (∀ e ∈ goodE es, Tidy e.f ∧ validF e.f = true) := Lib.hid (fun e he => by
    unfold goodE at he
    exact ⟨HTY.out e (List.mem_filter.1 he).1, (List.mem_filter.1 he).2⟩)
  have HC := Lib.hid hC
  clear hC HES
  generalize goodE es = gs at *
  go_wp2_with fail
  refine (c1.out _).mono ?_
  rintro e w5 ⟨rfl, rfl⟩
  go_upto_region 3 with (first
    | ((with_reducible refine at_fbuild _ rfl ?_); go_must (refine wpList_buildTo rfl 45 _ rfl _ rfl _ (by simp [Act.eval, Act.put]; with_reducible exact lt1 _) ?_))
    | ((with_reducible refine at_fslice _ rfl ?_); go_must (refine wpList_fct_slice rfl _ rfl (plainE (tkF (1 + pd))) (by simp [Act.eval, Act.put]) ?_))
    | (at_builtin
       go_must (refine wpList_app_fct rfl _ _ rfl W3.heap.size _ gs rfl (HC.out.row.same fun k hk => Below.heap_alloc _ _ _ (HC.out.row.ge k hk).2) (plainE (tkF (1 + pd))) W4.heap.size 1 rfl (World.alloc_heap_new _ _) (by omega) (by have := HC.out.bel.size; simp; omega) ?_)
       intro v5 W5 h5 hg5 hn5
       have H5 := Lib.hid (HC.out.app (tkEs_ok (s := 1 + pd) (by omega) (by omega) _ List.mem_cons_self _) h5 hg5)
       clear h5 hg5 hn5))
  have hdl : (gs ++ [plainE (tkF (1 + pd))]).length ≤ 25 := by rw [List.length_append]; show gs.length + 1 ≤ 25; omega
  have HTD : Hid (∀ e ∈ gs ++ [plainE (tkF (1 + pd))], Tidy e.f ∧ validF e.f = true) := Lib.hid (fun e he => by
    rcases List.mem_append.1 he with he | he
    · exact HTG.out e he
    · obtain rfl := List.mem_singleton.1 he
      exact ⟨tk_tidy _, tk_valid (by omega) (by omega)⟩)
  generalize gs ++ [plainE (tkF (1 + pd))] = ds at *
  obtain ⟨da, dc, rfl⟩ := H5.out.row.shape
  have HED := Lib.hid (H5.out.es (fun a u h => sees_bel H5.out.bel a u h))
  have HB5 := Lib.hid (HB3.out.trans (H5.out.bel.mono HB3.out.size))
  have hA5 := (H5.out.bel.block _ (Go.Proofs.YtgbihmafmmeicaaGreatDoor.hlt HA3.out)).trans HA3.out
  have k0 : W5.cell? ⟨w.heap.size, 0, none⟩ = some (.int .i64 a) := blk_cell hA5 0
  have k1 : W5.cell? ⟨w.heap.size, 1, none⟩ = some (.int .i64 b) := blk_cell hA5 1
  clear hA5 H5 HC HTG hcl hyl HTY
  go_wp2_with fail
  refine (c2.out _).mono ?_
  rintro e W6 ⟨rfl, hb6⟩
  have HB6 := Lib.hid (HB5.out.trans (hb6.mono HB5.out.size))
  have HED6 := Lib.hid (HED.out.mono (sees_bel hb6))
  clear k0 k1 hb6 HED HB5
  obtain ⟨_, _, eb, eo, hse, hem, hea, hee⟩ := HED6.out.open_
  injection hse with he1 he2 he3
  subst he1 he3
  clear he2 hem
  have HEA := Lib.hid hea
  have HEE := Lib.hid hee
  clear hea hee
  have HDF := Lib.hid HED6.out.facts
  have hdl2 : (ds.length : Int) ≤ 25 := by omega
  obtain ⟨D, hDD⟩ : ∃ D, D = ds.map FctE.f := ⟨_, rfl⟩
  have HDD := Lib.hid hDD
  rw [← hDD] at HDF
  clear hDD
  go_wp2_with fail
  go_loopw [11, 12] (fun v i wr => ∃ k : Nat, k ≤ ds.length ∧ i = .int .i64 k ∧ Hid (ListC (fun a => W6.cell? a) W6 v ((ds.take k).map (redInE D)) wr)) (fun _ i _ => ds.length - (intOf i).toNat)
  case atStart => exact ⟨0, Nat.zero_le _, rfl, Lib.hid ListC.start⟩
  case round =>
    obtain ⟨k, hk, rfl, HI⟩ := hrel
    obtain ⟨wo, rfl⟩ : ∃ wo, wo = wr := ⟨_, rfl⟩
    obtain ⟨va, vc, rfl⟩ := HI.out.shape
    by_cases hlt : k < ds.length
    · obtain rfl := HEA.out (by omega)
      obtain ⟨hok, hat0⟩ := HEE.out k hlt
      have HAT : Hid (ds[k].at (fun p => wo.cell? p) eb (eo + k * 23)) := Lib.hid (fun j u hj => sees_bel HI.out.bel _ _ (hat0 j u hj))
      have HOK := Lib.hid hok
      have HYS : Hid ((ds.take (k + 1)).map (redInE D) = (ds.take k).map (redInE D) ++ [redInE D ds[k]]) := Lib.hid (by rw [List.take_succ_eq_append_getElem hlt, List.map_append]; rfl)
      have hyl : ((ds.take k).map (redInE D)).length ≤ 25 := by rw [List.length_map, List.length_take]; omega
      generalize (ds.take k).map (redInE D) = ys at *
      generalize ds[k] = x at *
      have hsz : Hid (x.cells.size = 23) := Lib.hid rfl
      have hone := Lib.hid x.one
      have HNEW := Lib.hid (World.alloc_heap_new wo (.cells x.cells 45))
      have HN : Hid (Below wo.heap.size wo (wo.alloc (.cells x.cells 45))) := Lib.hid ((Below.refl _ wo).alloc (Nat.le_refl _) _)
      clear hok hat0
      go_upto_region 9 with (first
        | ((with_reducible refine at_fload _ rfl ?_); go_must (refine wpList_fct_mid rfl _ rfl (by simp [Act.eval]) HAT.out ?_))
        | ((with_reducible refine at_fstore _ _ rfl ?_); go_must (refine wpList_fct_new rfl _ _ rfl rfl _ _ _ (by simp [Act.eval]) (by simp [Act.eval]) (by rfl) hsz.out hone.out ?_)))
      generalize hW7 : wo.alloc (.cells x.cells 45) = w7 at *
      clear hW7
      have k3 : w7.cell? ⟨wo.heap.size, 3, none⟩ = some (.int .i64 x.f.story) := blk_cell HNEW.out 3
      have HTK := Lib.hid (takenR_any HDF.out x.f.story w7 (fun a u h => sees_bel (HI.out.bel.trans (HN.out.mono HI.out.bel.size)) a u h))
      have HRY : Hid (0 < x.f.story → takenF D x.f.story = true → redInE D x = redE x) := Lib.hid (fun h1 h2 => by unfold redInE; rw [if_pos ⟨h1, h2⟩])
      have HRN : Hid (¬ (0 < x.f.story ∧ takenF D x.f.story = true) → redInE D x = x) := Lib.hid (fun h1 => by unfold redInE; rw [if_neg h1])
      have HRD := Lib.hid (fun W => redact_any x W)
      generalize takenF D x.f.story = tk at *
      -- behind the branch: the fact in its block is appended
      have HEND : Hid (∀ (y : FctE) (wq : World), redInE D x = y → Below wo.heap.size wo wq → wq.heap[wo.heap.size]? = some (.cells y.cells 45 (0, 0)) → ∀ v2 w2, FRow w2 W6.heap.size v2 (ys ++ [y]) → (wq.alloc (.cells y.cells 45)).grownBy w2 (Value.slice va ys.length vc).ownBlock → ListC (fun a => W6.cell? a) W6 v2 ((ds.take (k + 1)).map (redInE D)) w2) := Lib.hid (fun y wq hy hbq hq v2 w2 h2 hg2 => by
        rw [HYS.out, hy]
        exact (HI.out.below hbq).app (by rw [← hy]; exact redInE_ok HOK.out) h2 hg2)
      by_cases hst : 0 < x.f.story
      · have b0 : decide (0 < x.f.story) = true := decide_eq_true hst
        go_wp2_with fail
        refine HTK.out.mono ?_
        rintro e w8 ⟨rfl, rfl⟩
        clear HTK
        cases tk with
        | true =>
          have hy := HRY.out hst rfl
          go_wp2_with ((with_reducible refine at_fload _ rfl ?_); go_must (refine wpList_fct_load rfl _ rfl wo.heap.size (by simp [Act.eval]) _ HNEW.out hsz.out ?_))
          refine (HRD.out w7).mono ?_
          rintro e w8 ⟨rfl, hb8⟩
          have HN8 := Lib.hid ((hb8.block _ (Go.Proofs.YtgbihmafmmeicaaGreatDoor.hlt HNEW.out)).trans HNEW.out)
          have HB8 := Lib.hid (HN.out.trans (hb8.mono HN.out.size))
          have hsz2 : Hid ((redE x).cells.size = 23) := Lib.hid rfl
          have hone2 := Lib.hid (redE x).one
          have HY := Lib.hid hy
          clear hb8 hy k3 HRD
          go_upto_region 12 with ((with_reducible refine at_fstore _ _ rfl ?_); go_must (refine wpList_store_rowTo rfl 45 _ _ rfl rfl wo.heap.size _ (by simp [Act.eval]) (by simp [Act.eval]) 45 _ HN8.out (by rw [fct_size, hsz2.out]) (by rw [hsz2.out]; rfl) hone2.out ?_))
          have HN9 : Hid ((w8.setRow wo.heap.size (redE x).cells).heap[wo.heap.size]? = some (.cells (redE x).cells 45 (0, 0))) := Lib.hid (setRow_heap _ _ _ _ _ _ HN8.out)
          have HB9 : Hid (Below wo.heap.size wo (w8.setRow wo.heap.size (redE x).cells)) := Lib.hid (below_setRow HB8.out (Nat.le_refl _) _)
          generalize w8.setRow wo.heap.size (redE x).cells = w9 at *
          have HR9 := Lib.hid (HI.out.below HB9.out)
          go_wp2_with (first
            | ((with_reducible refine at_fload _ rfl ?_); go_must (refine wpList_fct_load rfl _ rfl wo.heap.size (by simp [Act.eval]) _ HN9.out hsz2.out ?_))
            | ((with_reducible refine at_fslice _ rfl ?_); go_must (refine wpList_fct_slice rfl _ rfl (redE x) (by first | (simp [Act.eval]; done) | simp [Act.eval, Act.put]) ?_))
            | (at_builtin
               go_must (refine wpList_app_fct rfl _ _ rfl W6.heap.size _ ys rfl (HR9.out.row.same fun k hk => Below.heap_alloc _ _ _ (HR9.out.row.ge k hk).2) (redE x) w9.heap.size 1 rfl (World.alloc_heap_new _ _) (by omega) (by have := HR9.out.bel.size; simp; omega) ?_)
               intro v2 w2 h2 hg2 hn2
               have H2 := Lib.hid (HEND.out _ _ HY.out HB9.out HN9.out _ _ h2 hg2)
               clear h2 hg2 hn2))
          go_roundw
          case rel => exact ⟨k + 1, by omega, by go_num, H2⟩
          case measure => simp [intOf]; omega
        | false =>
          have hy := HRN.out (fun h => by cases h.2)
          have HY := Lib.hid hy
          have HR9 := Lib.hid (HI.out.below HN.out)
          clear hy k3 HRD
          go_wp2_with (first
            | ((with_reducible refine at_fload _ rfl ?_); go_must (refine wpList_fct_load rfl _ rfl wo.heap.size (by simp [Act.eval]) _ HNEW.out hsz.out ?_))
            | ((with_reducible refine at_fslice _ rfl ?_); go_must (refine wpList_fct_slice rfl _ rfl x (by first | (simp [Act.eval]; done) | simp [Act.eval, Act.put]) ?_))
            | (at_builtin
               go_must (refine wpList_app_fct rfl _ _ rfl W6.heap.size _ ys rfl (HR9.out.row.same fun k hk => Below.heap_alloc _ _ _ (HR9.out.row.ge k hk).2) x w7.heap.size 1 rfl (World.alloc_heap_new _ _) (by omega) (by have := HR9.out.bel.size; simp; omega) ?_)
               intro v2 w2 h2 hg2 hn2
               have H2 := Lib.hid (HEND.out _ _ HY.out HN.out HNEW.out _ _ h2 hg2)
               clear h2 hg2 hn2))
          go_roundw
          case rel => exact ⟨k + 1, by omega, by go_num, H2⟩
          case measure => simp [intOf]; omega
      · have b0 : decide (0 < x.f.story) = false := decide_eq_false hst
        have hy := HRN.out (fun h => hst h.1)
        have HY := Lib.hid hy
        have HR9 := Lib.hid (HI.out.below HN.out)
        clear hy HRD HTK
        go_wp2_with (first
          | ((with_reducible refine at_fload _ rfl ?_); go_must (refine wpList_fct_load rfl _ rfl wo.heap.size (by simp [Act.eval]) _ HNEW.out hsz.out ?_))
          | ((with_reducible refine at_fslice _ rfl ?_); go_must (refine wpList_fct_slice rfl _ rfl x (by first | (simp [Act.eval]; done) | simp [Act.eval, Act.put]) ?_))
          | (at_builtin
             go_must (refine wpList_app_fct rfl _ _ rfl W6.heap.size _ ys rfl (HR9.out.row.same fun k hk => Below.heap_alloc _ _ _ (HR9.out.row.ge k hk).2) x w7.heap.size 1 rfl (World.alloc_heap_new _ _) (by omega) (by have := HR9.out.bel.size; simp; omega) ?_)
             intro v2 w2 h2 hg2 hn2
             have H2 := Lib.hid (HEND.out _ _ HY.out HN.out HNEW.out _ _ h2 hg2)
             clear h2 hg2 hn2))
        go_roundw
        case rel => exact ⟨k + 1, by omega, by go_num, H2⟩
        case measure => simp [intOf]; omega
    · obtain rfl : k = ds.length := by omega
      have HMF : Hid (((ds.take ds.length).map (redInE D)).map FctE.f = D.map (redIn D)) := Lib.hid (by
        rw [List.take_length, List.map_map, HDD.out, List.map_map]
        refine List.map_congr_left fun e _ => ?_
        exact redInE_f _ _)
      have HTM : Hid (∀ e ∈ (ds.take ds.length).map (redInE D), Tidy e.f ∧ validF e.f = true) := Lib.hid (fun e he => by
        rw [List.take_length] at he
        obtain ⟨z, hz, rfl⟩ := List.mem_map.1 he
        rw [redInE_f]
        exact ⟨red_tidy (HTD.out z hz).1, red_valid (HTD.out z hz).2⟩)
      have hml : ((ds.take ds.length).map (redInE D)).length ≤ 25 := by rw [List.length_map, List.take_length]; exact hdl
      have HMW := Lib.hid (HI.out.es (fun a u h => sees_bel HI.out.bel a u h))
      have HBW := Lib.hid (HB6.out.trans (HI.out.bel.mono HB6.out.size))
      have HDW := Lib.hid (HED6.out.mono (sees_bel HI.out.bel))
      have HFD : Hid ((ds.map FctE.f).filter validF = D) := Lib.hid (by
        rw [HDD.out]
        exact List.filter_eq_self.2 (fun f hf => by obtain ⟨e, he, rfl⟩ := List.mem_map.1 hf; exact (HTD.out e he).2))
      generalize (ds.take ds.length).map (redInE D) = ms at *
      have HFM : Hid ((ms.map FctE.f).filter validF = D.map (redIn D)) := Lib.hid (by
        rw [← HMF.out]
        exact List.filter_eq_self.2 (fun f hf => by obtain ⟨e, he, rfl⟩ := List.mem_map.1 hf; exact (HTM.out e he).2))
      clear HI HED6 HB6 HEA HEE HDF hlt hk HMF
      go_wp2_with fail
      refine (access_out_any _ ds HDW.out (fun e he => (HTD.out e he).1) (by omega) pa pb wo (fun a u h => h) (cells_lt wo)).mono ?_
      rintro e w7 ⟨ov, L, rfl, hor, ho, hb⟩
      obtain ⟨o1, o2, rfl⟩ := hor.shape
      rw [HFD.out] at ho
      have HO := Lib.hid ho
      have HOR := Lib.hid hor.ints
      have HB7 := Lib.hid (HBW.out.trans (hb.mono HBW.out.size))
      have HD7 := Lib.hid (HDW.out.mono (sees_bel hb))
      have HM7 := Lib.hid (HMW.out.mono (sees_bel hb))
      clear ho hor hb HBW HDW HMW
      go_wp2_with fail
      refine (access_out_any _ ms HM7.out (fun e he => (HTM.out e he).1) (by omega) pa pb w7 (fun a u h => h) (cells_lt w7)).mono ?_
      rintro e w8 ⟨ov, L2, rfl, hor, ho, hb⟩
      obtain ⟨o3, o4, rfl⟩ := hor.shape
      rw [HFM.out, dig_red] at ho
      obtain rfl : L2 = L := out_one ho HO.out
      have HW : Hid (Calls Tryz.prog 20 #[.slice o1 L2.length o2, .slice o3 L2.length o4] w8 fun e w' => e = .returned (.int .i64 1) ∧ w8 = w') := Lib.hid (by
        have h := withinL_any (mem := fun a => w8.cell? a) (HOR.out.mono (sees_bel hb)) hor.ints w8 (fun a u h => h)
        rw [within_one (fun x hx => hx)] at h
        exact h)
      have HB8 := Lib.hid (HB7.out.trans (hb.mono HB7.out.size))
      have HD8 := Lib.hid (HD7.out.mono (sees_bel hb))
      have HM8 := Lib.hid (HM7.out.mono (sees_bel hb))
      clear ho hor hb HB7 HD7 HM7 HOR
      go_wp2_with fail
      refine HW.out.mono ?_
      rintro e w9 ⟨rfl, rfl⟩
      clear HW
      go_wp2_with fail
      refine (access_visible_any _ ds HD8.out (fun e he => (HTD.out e he).1) (by omega) pa pb w8 (fun a u h => h) (cells_lt w8)).mono ?_
      rintro e w10 ⟨v2, ys, L3, rfl, hL, hys, hyr, hyok, hb⟩
      obtain ⟨y1, y2, y3, rfl⟩ := hyr.sl
      have HY10 := Lib.hid (hyr.es (fun y hy => (hyok y hy).mono (memFr_sees _ _)))
      rw [HFD.out] at hL hys
      have h3 := hL q0 q1
      rw [out_one h3 HO.out] at hys
      have HYS := Lib.hid hys
      have HB10 := Lib.hid (HB8.out.trans (hb.mono HB8.out.size))
      have HM10 := Lib.hid (HM8.out.mono (sees_bel hb))
      clear hL hys hyr hyok hb h3 HB8 HD8 HM8
      go_wp2_with fail
      refine (access_visible_any _ ms HM10.out (fun e he => (HTM.out e he).1) (by omega) pa pb w10 (fun a u h => h) (cells_lt w10)).mono ?_
      rintro e w11 ⟨v2, us, L4, rfl, hL, hus, hur, huok, hb⟩
      obtain ⟨u1, u2, u3, rfl⟩ := hur.sl
      have HU11 := Lib.hid (hur.es (fun y hy => (huok y hy).mono (memFr_sees _ _)))
      have HY11 := Lib.hid (HY10.out.mono (sees_bel hb))
      rw [HFM.out] at hL hus
      have h3 := hL q0 q1
      rw [dig_red] at h3
      rw [out_one h3 HO.out] at hus
      have HE : Hid (ys.map FctE.f = us.map FctE.f) := Lib.hid (by
        rw [HYS.out, hus]
        unfold visOf
        rw [vis_red])
      have HB11 := Lib.hid (HB10.out.trans (hb.mono HB10.out.size))
      clear hL hus hur huok hb h3 HB10 HM10 HY10
      go_wp2_with fail
      refine (rsameList_any _ _ ys us HY11.out HU11.out HE.out w11 (fun a u h => h)).mono ?_
      rintro e w12 ⟨rfl, hb⟩
      have HB12 := Lib.hid (HB11.out.trans (hb.mono HB11.out.size))
      clear hb
      go_wp2_with fail
      go_ret
      exact ⟨rfl, HB12.out⟩
end Go.Proofs.YtgbihmafmmeicaaGreatDoor
/-
  WHAT IS PROVED HERE: AccessRedacted returns true and leaves its arguments as they were, for all arguments. Conditions: those of the card (the listed tables of Go's library lie as their text lays them).
-/
namespace Go.Proofs.YtgbihmafmmeicaaGreatDoor.fnARed
open Go.ChangeShapes Go.WideShapes Go.ChangeAt Go.RowKit Go.ChangeMaps Mg

set_option maxRecDepth 100000 in
theorem contract (H : Type) (enc : TypeId × Value → H) (W : World) (base : Nat) (args : Array Value) (ds gs : List (DataW H)) (before : List MemPlace)
    (hval : ∀ (j : Nat) t v, Tryz.f7.params[j]? = some t → args[j]? = some v → Value.okWide Tryz.prog W .any base t v)
    (hW : DataW.Whole enc Tryz.prog Tryz.f7.params.toList Rows.accessRedactedSpec.vars false W args.toList ds gs before) :
    Calls Tryz.prog 7 args W fun e W' => ∃ v, e = .returned v ∧ Rows.accessRedactedSpec.post enc Tryz.prog Tryz.f7 false true false false W args v W' := by
  have hread : ∀ t ∈ Tryz.f7.params.toList, Tryz.prog.readableRec t = true ∧ t < Tryz.prog.types.size := by
    have hall : (Tryz.f7.params.toList.all fun t => Tryz.prog.readableRec t && decide (t < Tryz.prog.types.size)) = true := by kernel_rfl
    intro t ht
    have := List.all_eq_true.1 hall t ht
    simpa using this
  have hclose : ∀ W', Below W.heap.size W W' → (Rows.accessRedactedSpec.fn H ds).results = [.lit (.bool true)] ∧ (Rows.accessRedactedSpec.fn H ds).args = ds ∧ (Rows.accessRedactedSpec.fn H ds).vars = [] → Rows.accessRedactedSpec.post enc Tryz.prog Tryz.f7 false true false false W args (.bool true) W' :=
    fun W' hg hs => close_law hW rfl (by kernel_rfl) hs hread hg
  obtain ⟨p, q, hA0, hV, rfl, hfz, hnd⟩ := hW
  have hA : DataW.TrodAll enc Tryz.prog W 0 (fun _ => true) true Tryz.f7.params.toList args.toList ds p := hA0
  obtain ⟨rfl, rfl⟩ := trodVars_none hV
  rw [Tryz.params7] at hA hval
  clear hA0 hread hfz hnd hV
  obtain ⟨v0, vs0, d0, ds0, p0, q0, hargs, rfl, rfl, h0, r0⟩ := trodAll_cons hA
  obtain ⟨v1, vs1, d1, ds1, p1, q1, rfl, rfl, rfl, h1, r1⟩ := trodAll_cons r0
  obtain ⟨v2, vs2, d2, ds2, p2, q2, rfl, rfl, rfl, h2, r2⟩ := trodAll_cons r1
  obtain ⟨rfl, rfl, rfl⟩ := trodAll_nil r2
  obtain rfl : args = #[v0, v1, v2] := by cases args; simp_all
  obtain ⟨l0, b0⟩ := sixes_in (hval 0 22 v0 rfl rfl) h0
  obtain ⟨x1, y1, rfl, ka1, kb1⟩ := pair_in (hval 1 23 v1 rfl rfl) h1
  obtain ⟨x2, rfl, ka2⟩ := int_in (hval 2 3 v2 rfl rfl) h2
  refine (law_redacted b0 ka1 kb1 ka2 W (Sees.self W)).mono fun e W' ⟨he, hg⟩ => ?_
  exact ⟨_, he, hclose W' hg ⟨rfl, rfl, rfl⟩⟩

theorem laid_met (os : Os) : laidMet Tryz.prog Rows.accessRedactedRow.laid ((laidWorld os).forCall (fun _ _ => 0) ⟨#[], #[.slice none 0 0, .agg #[.int .i64 0, .int .i64 0], .int .i64 0], []⟩).memory :=
  laidMet_of_run' 8 (by kernel_rfl) (by kernel_rfl)
theorem reads (os : Os) {H : Type} (enc : TypeId × Value → H) : ∃ places, DataW.whole enc Tryz.prog ((laidWorld os).forCall (fun _ _ => 0) ⟨#[], #[.slice none 0 0, .agg #[.int .i64 0, .int .i64 0], .int .i64 0], []⟩).memory Tryz.f7.params.toList Rows.accessRedactedSpec.vars false (#[Value.slice none 0 0, .agg #[.int .i64 0, .int .i64 0], .int .i64 0] : Array Value).toList 8 = some ([.nil, .agg [.lit (.int .i64 0), .lit (.int .i64 0)], .lit (.int .i64 0)], [], places) :=
  ⟨[], by kernel_rfl⟩

set_option maxRecDepth 100000 in
theorem lifted (os : Os) (started : os.Started) (H : Type) (enc : TypeId × Value → H) (F : Stop.Interp) :
    ReturnsInHanded {} Tryz.checked os 7 .any ((OpenSpec.ofChange Rows.accessRedactedSpec).preRow enc Tryz.prog Tryz.f7 Rows.accessRedactedRow.domain false Rows.accessRedactedRow.laid) (((OpenSpec.ofChange Rows.accessRedactedSpec).at F).post enc Tryz.prog Tryz.f7 false true false false) := by
  obtain ⟨places, hx⟩ := reads os enc
  refine returnsInHanded_of_row (C := Tryz.checked) (s := OpenSpec.ofChange Rows.accessRedactedSpec) own started (by kernel_rfl) Tryz.func7
    (witness_row_at (enc := enc) (C := Tryz.checked) false (laidWorld os) #[.slice none 0 0, .agg #[.int .i64 0, .int .i64 0], .int .i64 0] rfl (by kernel_rfl) (by kernel_rfl) (by kernel_rfl)
      (OpenSpec.preRow_of_cond 8 hx (by kernel_rfl) (fun k hk => by cases hk) (by kernel_rfl) (laid_met os))) ?_
  intro W base args ds gs before hval hW _ _ _ _ _ _
  exact contract H enc W base args ds gs before hval hW

theorem said : Rows.AccessRedactedSaid :=
  OpenClaim.holds_of_cond 7 Tryz.f7 rfl rfl rfl rfl rfl rfl rfl ⟨rfl, rfl, rfl, rfl, rfl⟩ rfl rfl rfl rfl rfl (by kernel_rfl) Tryz.func7 (by kernel_rfl)
    (of_decide_eq_true (by kernel_rfl)) (by unfold Func.isWrapper; first | (rw [if_pos (by decide +kernel)]; kernel_rfl) | (rw [if_neg (by decide +kernel)]; exact ⟨rfl, rfl⟩))
    (fun os started H enc _ F => by rw [OpenClaim.pre_eq_preRow]; exact lifted os started H enc F)

/-- No parameter wants a stand-in; the program's own looks are off: what both cards ask. -/
theorem plain (f : FuncId) (fn : Func) (hf : Tryz.pinned.checked.prog.funcNamed "copydesk/copydesklaw06.AccessRedacted" = some f) (hfn : Tryz.pinned.checked.prog.funcs[f]? = some fn) :
    false = Tryz.pinned.checked.prog.looks [] ∧ ∀ (j : Nat) t, fn.params[j]? = some t → Tryz.pinned.checked.prog.wantsStandIn t = false := by
  obtain rfl : f = 7 := Option.some.inj ((show Tryz.prog.funcNamed "copydesk/copydesklaw06.AccessRedacted" = some 7 by kernel_rfl).symm.trans hf) |>.symm
  obtain rfl : fn = Tryz.f7 := (Option.some.inj (Tryz.func7.symm.trans hfn)).symm
  refine ⟨by kernel_rfl, fun j t ht => ?_⟩
  have hall : Tryz.f7.params.all (fun t => !Tryz.prog.wantsStandIn t) = true := by kernel_rfl
  have := Array.all_eq_true'.1 hall t (Array.mem_of_getElem? ht)
  exact (by simpa using this : Tryz.prog.wantsStandIn t = false)

/-- ████ THE CARD ████ -/
theorem card : Rows.AccessRedactedCardSaid :=
  Claim7.holds_tied_plain_at .later [] _ _ _ _ said (fun _ h => by cases h) (by kernel_rfl) (fun _ h => by cases h) accessRedacted_row_tie rfl ⟨rfl, rfl⟩ (by kernel_rfl) rfl plain (by kernel_rfl)
end Go.Proofs.YtgbihmafmmeicaaGreatDoor.fnARed

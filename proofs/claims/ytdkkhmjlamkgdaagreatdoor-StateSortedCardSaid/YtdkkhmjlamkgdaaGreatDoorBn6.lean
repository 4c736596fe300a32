/-
  WHAT IS PROVED HERE: 9 texts joined, each with its own head: what the walks of the program give. Conditions: each at its place.
-/
import Derived.Test.YtdkkhmjlamkgdaaGreatDoorBn5
import Derived.Laws.StructEq
import Derived.Test.YtdkkhmjlamkgdaaGreatDoorProg
import Derived.ProofKit
import Derived.OpenShut
import Derived.ChangeSame
import Derived.Deep.Fields
import Derived.Test.YtdkkhmjlamkgdaaGreatDoorCards
import Derived.Test.YtdkkhmjlamkgdaaGreatDoorTie
import Derived.ChangeMaps5
import Derived.Carry
import Derived.Deep.DeepHandedRow
/-
  WHAT IS PROVED HERE: the walks of slices.Equal at corrections, of state.sameStory and of slices.EqualFunc at stories (printed by tools/sxa.py). No condition.
-/
namespace Go.Proofs.YtdkkhmjlamkgdaaGreatDoor
open Go.RowKit Mg Go.Shelf Go.Maps

theorem wpStill_value {P : Program} {ops : Array Oper} {w : World} {Q : Act → Prop} {a : Act} {o : Oper} {rest : List Oper} (hg : o.guard = none) (v : Value) (hr : (execOp a.eval o).run P w = .ok (.value v) w) (h : wpStill P ops w Q rest (a.put o.dst v)) : wpStill P ops w Q (o :: rest) a := by
  refine wpStill_step fun K hK => ?_
  rw [if_pos (by simp [Region.wanted, hg])]
  unfold Oper.still
  rw [hr, Oper.stillUpon_value]
  exact hK _ h
theorem S_tpl : StructT Tryz.prog 52 2 := ⟨⟨_, Tryz.underlying52⟩, by kernel_rfl, by decide⟩
theorem toList_iff {a b : ByteArray} : (a.toList = b.toList) ↔ a = b := ⟨fun h => str_ext (by rw [← ByteArray.toList_eq, ← ByteArray.toList_eq]; exact h), fun h => by rw [h]⟩
theorem corrCells_neq (x y : Corr) (W : World) : (binOp .neq 69 (.agg (corrCells x)) (.agg (corrCells y))).run Tryz.prog W = .ok (.bool (!decide (x = y))) W := by
  obtain ⟨a0, a1, a2, a3, a4⟩ := x
  obtain ⟨b0, b1, b2, b3, b4⟩ := y
  rw [run_neq_struct, run_equalIn_agg _ _ _ _ _ (by kernel_rfl) (by kernel_rfl)]
  simp only [Program.fieldsOf, Tryz.underlying69]
  go_simp
  simp only [Corr.mk.injEq, toList_iff]
  by_cases h0 : a0 = b0 <;> by_cases h1 : a1 = b1 <;> by_cases h2 : a2 = b2 <;> by_cases h3 : a3 = b3 <;> by_cases h4 : a4 = b4 <;> simp [h0, h1, h2, h3, h4]
set_option maxRecDepth 10000 in
set_option maxHeartbeats 1000000 in
theorem eqCorrs_any {mem : Addr → Option Value} {v u : Value} {l m : List Corr} (h1 : CorrsM mem v l) (h2 : CorrsM mem u m) (w : World) (hs : Sees mem w) :
    Calls Tryz.prog 90 #[v, u] w fun e w' => e = .returned (.bool (decide (l = m))) ∧ Below w.heap.size w w' := by
  obtain ⟨ao, cap, b, o, rfl, hcap, hm, hao, hcells⟩ := SlM.open_ h1
  obtain ⟨ao2, cap2, b2, o2, rfl, hcap2, hm2, hao2, hcells2⟩ := SlM.open_ h2
  have HS := Lib.hid hs
  have HA := Lib.hid hao
  have HA2 := Lib.hid hao2
  have HC := Lib.hid hcells
  have HC2 := Lib.hid hcells2
  have hlen : (l.length : Int) ≤ 9223372036854775807 := by unfold maxLen at hm; omega
  have hlen2 : (m.length : Int) ≤ 9223372036854775807 := by unfold maxLen at hm2; omega
  clear hao hao2 hcells hcells2 hs h1 h2 hcap hcap2 hm hm2
  by_cases hl : l.length = m.length
  · have HL := Lib.hid hl
    rw [← hl]
    clear hl
    go_enter Tryz.func90, Tryz.ntmps90
    go_wp2_with fail
    go_loopw [13] (fun i wr => ∃ k : Nat, k ≤ l.length ∧ i = .int .i64 k ∧ Below w.heap.size w wr ∧ Hid (l.take k = m.take k)) (fun i _ => l.length - (intOf i).toNat)
    case atStart => exact ⟨0, Nat.zero_le _, rfl, Below.refl _ _, Lib.hid rfl⟩
    case round =>
      obtain ⟨k, hk, rfl, hb, ht⟩ := hrel
      by_cases hlt : k < l.length
      · have hlt2 : k < m.length := by rw [← HL.out]; exact hlt
        have g1 := cells_see (sz := 5) (HS.out.bel hb) (HC.out k hlt).2 rfl
        have g2 := cells_see (sz := 5) (HS.out.bel hb) (HC2.out k hlt2).2 rfl
        obtain rfl := HA.out (by omega)
        obtain rfl := HA2.out (by omega)
        have HE : Hid (l[k] = m[k] → l.take (k + 1) = m.take (k + 1)) := Lib.hid (take_step hlt hlt2 ht.out)
        have HN : Hid (l[k] ≠ m[k] → l ≠ m) := Lib.hid (ne_of_get hlt hlt2)
        generalize l[k] = x at *
        generalize m[k] = y at *
        have G1 := Lib.hid g1
        have G2 := Lib.hid g2
        clear g1 g2
        have hqr : ∀ W : World, (binOp .neq 69 (.agg (corrCells x)) (.agg (corrCells y))).run Tryz.prog W = .ok (.bool (!decide (x = y))) W := fun W => corrCells_neq x y W
        have hk0 : (0 : Int) ≤ k := by omega
        have hk1 : (k : Int) < l.length := by omega
        clear ht hlt2
        by_cases hxy : x = y
        · have HE2 := Lib.hid (HE.out hxy)
          have hxd : decide (x = y) = true := decide_eq_true hxy
          rw [hxd] at hqr
          clear hxy
          clear HE
          go_wp2_with fail
          refine wp_tail 8 (by kernel_rfl) (by kernel_rfl) ?_
          simp only [List.take_succ_cons, List.take_zero, List.drop_succ_cons, List.drop_zero]
          still_step
          still_step
          still_step
          refine wpStill_value rfl _ (exec_smid S_corr _ rfl (by simp [Act.eval]) (corrCells x) rfl G1.out) ?_
          simp only [Act.put, List.setIfInBounds_toArray, List.set_cons_zero, List.set_cons_succ]
          still_step
          still_step
          still_step
          refine wpStill_value rfl _ (exec_smid S_corr _ rfl (by simp [Act.eval]) (corrCells y) rfl G2.out) ?_
          simp only [Act.put, List.setIfInBounds_toArray, List.set_cons_zero, List.set_cons_succ]
          refine wpStill_nil ?_
          go_wp2_with fail
          go_roundw
          case rel => exact ⟨k + 1, by omega, by go_num, hb.drew, HE2⟩
          case measure => simp [intOf]; omega
        · have hxd : decide (x = y) = false := decide_eq_false hxy
          rw [hxd] at hqr
          have HNE := Lib.hid hxy
          clear hxy
          go_wp2_with fail
          refine wp_tail 8 (by kernel_rfl) (by kernel_rfl) ?_
          simp only [List.take_succ_cons, List.take_zero, List.drop_succ_cons, List.drop_zero]
          still_step
          still_step
          still_step
          refine wpStill_value rfl _ (exec_smid S_corr _ rfl (by simp [Act.eval]) (corrCells x) rfl G1.out) ?_
          simp only [Act.put, List.setIfInBounds_toArray, List.set_cons_zero, List.set_cons_succ]
          still_step
          still_step
          still_step
          refine wpStill_value rfl _ (exec_smid S_corr _ rfl (by simp [Act.eval]) (corrCells y) rfl G2.out) ?_
          simp only [Act.put, List.setIfInBounds_toArray, List.set_cons_zero, List.set_cons_succ]
          refine wpStill_nil ?_
          go_wp2_with fail
          go_ret
          exact ⟨ret_bool (by symm; exact decide_eq_false (HN.out HNE.out)), hb.drew⟩
      · have e : k = l.length := by omega
        subst e
        have HF : Hid (l = m) := Lib.hid (eq_full HL.out ht.out)
        go_wp2_with fail
        go_ret
        exact ⟨ret_bool (by symm; exact decide_eq_true HF.out), hb⟩
  · have hne : decide (l.length = m.length) = false := decide_eq_false hl
    have HNE : Hid (l ≠ m) := Lib.hid (fun e => hl (by rw [e]))
    go_enter Tryz.func90, Tryz.ntmps90
    go_wp2_with fail
    all_goals first
      | (go_ret
         exact ⟨ret_bool (by symm; exact decide_eq_false HNE.out), Below.refl _ _⟩)
      | (exfalso; simp_all; done)
set_option maxRecDepth 10000 in
set_option maxHeartbeats 4000000 in
theorem sameStory_any {mem : Addr → Option Value} {v u : Value} {x y : StyF} (h1 : StyV mem v x) (h2 : StyV mem u y) (w : World) (hs : Sees mem w) :
    Calls Tryz.prog 59 #[v, u] w fun e w' => e = .returned (.bool (decide (x = y))) ∧ Below w.heap.size w w' := by
  obtain ⟨_, tv, ev, cv, rfl, ht1, he1, hc1⟩ := h1
  obtain ⟨_, tv2, ev2, cv2, rfl, ht2, he2, hc2⟩ := h2
  obtain ⟨id, author, topics, eds, pub, corr, retr, taken⟩ := x
  obtain ⟨id2, author2, topics2, eds2, pub2, corr2, retr2, taken2⟩ := y
  have HT := Lib.hid (fun W hW => eqStrs_any ht1 ht2 W hW)
  have HE := Lib.hid (fun W hW => eqEdns_any he1 he2 W hW)
  have HC := Lib.hid (fun W hW => eqCorrs_any hc1 hc2 W hW)
  obtain ⟨ta, tc, rfl⟩ := ht1.slice
  obtain ⟨ta2, tc2, rfl⟩ := ht2.slice
  obtain ⟨ea, ec, rfl⟩ := SlM.slice he1
  obtain ⟨ea2, ec2, rfl⟩ := SlM.slice he2
  obtain ⟨ca, cc, rfl⟩ := SlM.slice hc1
  obtain ⟨ca2, cc2, rfl⟩ := SlM.slice hc2
  have HR := Lib.hid (sty_dec id author topics eds pub corr retr taken id2 author2 topics2 eds2 pub2 corr2 retr2 taken2)
  have HS := Lib.hid hs
  dsimp only at HT HE HC ⊢
  clear ht1 ht2 he1 he2 hc1 hc2 hs
  generalize hn1 : topics.length = n1 at *
  generalize hn2 : topics2.length = n2 at *
  generalize hn3 : eds.length = n3 at *
  generalize hn4 : eds2.length = n4 at *
  generalize hn5 : corr.length = n5 at *
  generalize hn6 : corr2.length = n6 at *
  clear hn1 hn2 hn3 hn4 hn5 hn6
  obtain ⟨W2, hW2⟩ : ∃ W2, W2 = (w.alloc (.cells #[.int .i64 id, .string author, .slice ta n1 tc, .slice ea n3 ec, .int .i64 pub, .slice ca n5 cc, .bool retr, .bool taken] 34)).alloc (.cells #[.int .i64 id2, .string author2, .slice ta2 n2 tc2, .slice ea2 n4 ec2, .int .i64 pub2, .slice ca2 n6 cc2, .bool retr2, .bool taken2] 34) := ⟨_, rfl⟩
  have hB2 : Below w.heap.size w W2 := by rw [hW2]; exact (bel1 w _).alloc (by simp) _
  have HN1 : Hid (W2.heap[w.heap.size]? = some (.cells #[.int .i64 id, .string author, .slice ta n1 tc, .slice ea n3 ec, .int .i64 pub, .slice ca n5 cc, .bool retr, .bool taken] 34 (0, 0))) := Lib.hid (by rw [hW2]; exact heap_new1 w _ _)
  have HN2 : Hid (W2.heap[w.heap.size + 1]? = some (.cells #[.int .i64 id2, .string author2, .slice ta2 n2 tc2, .slice ea2 n4 ec2, .int .i64 pub2, .slice ca2 n6 cc2, .bool retr2, .bool taken2] 34 (0, 0))) := Lib.hid (by
    rw [hW2]
    have := World.alloc_heap_new (w.alloc (.cells #[.int .i64 id, .string author, .slice ta n1 tc, .slice ea n3 ec, .int .i64 pub, .slice ca n5 cc, .bool retr, .bool taken] 34)) (.cells #[.int .i64 id2, .string author2, .slice ta2 n2 tc2, .slice ea2 n4 ec2, .int .i64 pub2, .slice ca2 n6 cc2, .bool retr2, .bool taken2] 34)
    simpa using this)
  have HB2 := Lib.hid hB2
  have HW2 := Lib.hid hW2
  have HS2 := Lib.hid (HS.out.bel hB2)
  clear hB2 hW2
  go_enter Tryz.func59, Tryz.ntmps59
  go_upto_region 1 with fail
  rw [← HW2.out]
  have HB := HB2
  have HSW := HS2
  have HH1 := HN1
  have HH2 := HN2
  clear HB2 HS2 HN1 HN2 HW2
  have p0 : W2.cell? ⟨w.heap.size, 0, none⟩ = some (.int .i64 id) := rowcell HH1.out
  have q0 : W2.cell? ⟨w.heap.size + 1, 0, none⟩ = some (.int .i64 id2) := rowcell HH2.out
  have p1 : W2.cell? ⟨w.heap.size, 1, none⟩ = some (.string author) := rowcell HH1.out
  have q1 : W2.cell? ⟨w.heap.size + 1, 1, none⟩ = some (.string author2) := rowcell HH2.out
  have p2 : W2.cell? ⟨w.heap.size, 2, none⟩ = some (.slice ta n1 tc) := rowcell HH1.out
  have q2 : W2.cell? ⟨w.heap.size + 1, 2, none⟩ = some (.slice ta2 n2 tc2) := rowcell HH2.out
  have p3 : W2.cell? ⟨w.heap.size, 3, none⟩ = some (.slice ea n3 ec) := rowcell HH1.out
  have q3 : W2.cell? ⟨w.heap.size + 1, 3, none⟩ = some (.slice ea2 n4 ec2) := rowcell HH2.out
  have p4 : W2.cell? ⟨w.heap.size, 4, none⟩ = some (.int .i64 pub) := rowcell HH1.out
  have q4 : W2.cell? ⟨w.heap.size + 1, 4, none⟩ = some (.int .i64 pub2) := rowcell HH2.out
  have p5 : W2.cell? ⟨w.heap.size, 5, none⟩ = some (.slice ca n5 cc) := rowcell HH1.out
  have q5 : W2.cell? ⟨w.heap.size + 1, 5, none⟩ = some (.slice ca2 n6 cc2) := rowcell HH2.out
  have p6 : W2.cell? ⟨w.heap.size, 6, none⟩ = some (.bool retr) := rowcell HH1.out
  have q6 : W2.cell? ⟨w.heap.size + 1, 6, none⟩ = some (.bool retr2) := rowcell HH2.out
  have p7 : W2.cell? ⟨w.heap.size, 7, none⟩ = some (.bool taken) := rowcell HH1.out
  have q7 : W2.cell? ⟨w.heap.size + 1, 7, none⟩ = some (.bool taken2) := rowcell HH2.out
  by_cases e0 : id = id2
  · subst e0
    by_cases e1 : author = author2
    · subst e1
      go_wp2_with fail
      refine (HT.out _ HSW.out).mono ?_
      rintro e w12 ⟨rfl, hb⟩
      have HB := Lib.hid (HB.out.trans (hb.mono HB.out.size))
      have HSW := Lib.hid (HSW.out.bel hb)
      have HH1 := Lib.hid ((hb.block _ (hlt HH1.out)).trans HH1.out)
      have HH2 := Lib.hid ((hb.block _ (hlt HH2.out)).trans HH2.out)
      clear hb p0 q0 p1 q1 p2 q2 p3 q3 p4 q4 p5 q5 p6 q6 p7 q7
      have p0 : w12.cell? ⟨w.heap.size, 0, none⟩ = some (.int .i64 id) := rowcell HH1.out
      have q0 : w12.cell? ⟨w.heap.size + 1, 0, none⟩ = some (.int .i64 id) := rowcell HH2.out
      have p1 : w12.cell? ⟨w.heap.size, 1, none⟩ = some (.string author) := rowcell HH1.out
      have q1 : w12.cell? ⟨w.heap.size + 1, 1, none⟩ = some (.string author) := rowcell HH2.out
      have p2 : w12.cell? ⟨w.heap.size, 2, none⟩ = some (.slice ta n1 tc) := rowcell HH1.out
      have q2 : w12.cell? ⟨w.heap.size + 1, 2, none⟩ = some (.slice ta2 n2 tc2) := rowcell HH2.out
      have p3 : w12.cell? ⟨w.heap.size, 3, none⟩ = some (.slice ea n3 ec) := rowcell HH1.out
      have q3 : w12.cell? ⟨w.heap.size + 1, 3, none⟩ = some (.slice ea2 n4 ec2) := rowcell HH2.out
      have p4 : w12.cell? ⟨w.heap.size, 4, none⟩ = some (.int .i64 pub) := rowcell HH1.out
      have q4 : w12.cell? ⟨w.heap.size + 1, 4, none⟩ = some (.int .i64 pub2) := rowcell HH2.out
      have p5 : w12.cell? ⟨w.heap.size, 5, none⟩ = some (.slice ca n5 cc) := rowcell HH1.out
      have q5 : w12.cell? ⟨w.heap.size + 1, 5, none⟩ = some (.slice ca2 n6 cc2) := rowcell HH2.out
      have p6 : w12.cell? ⟨w.heap.size, 6, none⟩ = some (.bool retr) := rowcell HH1.out
      have q6 : w12.cell? ⟨w.heap.size + 1, 6, none⟩ = some (.bool retr2) := rowcell HH2.out
      have p7 : w12.cell? ⟨w.heap.size, 7, none⟩ = some (.bool taken) := rowcell HH1.out
      have q7 : w12.cell? ⟨w.heap.size + 1, 7, none⟩ = some (.bool taken2) := rowcell HH2.out
      have EN : Hid (decide (topics = topics2) = false → decide (topics = topics2) = false) := Lib.hid (fun h => h)
      have EY : Hid (decide (topics = topics2) = true → topics = topics2) := Lib.hid of_decide_eq_true
      generalize hq : decide (topics = topics2) = q at *
      cases q with
      | false =>
        clear hq EY EN
        have EN := Lib.hid (Eq.refl false)
        go_wp2_with fail
        go_ret
        exact ⟨ret_false (by first | (rw [HR.out]; simp [EN.out]; done) | (simp [EN.out]; done)), HB.out⟩
      | true =>
        clear hq EY EN
        go_wp2_with fail
        refine (HE.out _ HSW.out).mono ?_
        rintro e w13 ⟨rfl, hb⟩
        have HB := Lib.hid (HB.out.trans (hb.mono HB.out.size))
        have HSW := Lib.hid (HSW.out.bel hb)
        have HH1 := Lib.hid ((hb.block _ (hlt HH1.out)).trans HH1.out)
        have HH2 := Lib.hid ((hb.block _ (hlt HH2.out)).trans HH2.out)
        clear hb p0 q0 p1 q1 p2 q2 p3 q3 p4 q4 p5 q5 p6 q6 p7 q7
        have p0 : w13.cell? ⟨w.heap.size, 0, none⟩ = some (.int .i64 id) := rowcell HH1.out
        have q0 : w13.cell? ⟨w.heap.size + 1, 0, none⟩ = some (.int .i64 id) := rowcell HH2.out
        have p1 : w13.cell? ⟨w.heap.size, 1, none⟩ = some (.string author) := rowcell HH1.out
        have q1 : w13.cell? ⟨w.heap.size + 1, 1, none⟩ = some (.string author) := rowcell HH2.out
        have p2 : w13.cell? ⟨w.heap.size, 2, none⟩ = some (.slice ta n1 tc) := rowcell HH1.out
        have q2 : w13.cell? ⟨w.heap.size + 1, 2, none⟩ = some (.slice ta2 n2 tc2) := rowcell HH2.out
        have p3 : w13.cell? ⟨w.heap.size, 3, none⟩ = some (.slice ea n3 ec) := rowcell HH1.out
        have q3 : w13.cell? ⟨w.heap.size + 1, 3, none⟩ = some (.slice ea2 n4 ec2) := rowcell HH2.out
        have p4 : w13.cell? ⟨w.heap.size, 4, none⟩ = some (.int .i64 pub) := rowcell HH1.out
        have q4 : w13.cell? ⟨w.heap.size + 1, 4, none⟩ = some (.int .i64 pub2) := rowcell HH2.out
        have p5 : w13.cell? ⟨w.heap.size, 5, none⟩ = some (.slice ca n5 cc) := rowcell HH1.out
        have q5 : w13.cell? ⟨w.heap.size + 1, 5, none⟩ = some (.slice ca2 n6 cc2) := rowcell HH2.out
        have p6 : w13.cell? ⟨w.heap.size, 6, none⟩ = some (.bool retr) := rowcell HH1.out
        have q6 : w13.cell? ⟨w.heap.size + 1, 6, none⟩ = some (.bool retr2) := rowcell HH2.out
        have p7 : w13.cell? ⟨w.heap.size, 7, none⟩ = some (.bool taken) := rowcell HH1.out
        have q7 : w13.cell? ⟨w.heap.size + 1, 7, none⟩ = some (.bool taken2) := rowcell HH2.out
        have EN : Hid (decide (eds = eds2) = false → decide (eds = eds2) = false) := Lib.hid (fun h => h)
        have EY : Hid (decide (eds = eds2) = true → eds = eds2) := Lib.hid of_decide_eq_true
        generalize hq : decide (eds = eds2) = q at *
        cases q with
        | false =>
          clear hq EY EN
          have EN := Lib.hid (Eq.refl false)
          go_wp2_with fail
          go_ret
          exact ⟨ret_false (by first | (rw [HR.out]; simp [EN.out]; done) | (simp [EN.out]; done)), HB.out⟩
        | true =>
          clear hq EY EN
          by_cases e4 : pub = pub2
          · subst e4
            go_wp2_with fail
            refine (HC.out _ HSW.out).mono ?_
            rintro e w15 ⟨rfl, hb⟩
            have HB := Lib.hid (HB.out.trans (hb.mono HB.out.size))
            have HSW := Lib.hid (HSW.out.bel hb)
            have HH1 := Lib.hid ((hb.block _ (hlt HH1.out)).trans HH1.out)
            have HH2 := Lib.hid ((hb.block _ (hlt HH2.out)).trans HH2.out)
            clear hb p0 q0 p1 q1 p2 q2 p3 q3 p4 q4 p5 q5 p6 q6 p7 q7
            have p0 : w15.cell? ⟨w.heap.size, 0, none⟩ = some (.int .i64 id) := rowcell HH1.out
            have q0 : w15.cell? ⟨w.heap.size + 1, 0, none⟩ = some (.int .i64 id) := rowcell HH2.out
            have p1 : w15.cell? ⟨w.heap.size, 1, none⟩ = some (.string author) := rowcell HH1.out
            have q1 : w15.cell? ⟨w.heap.size + 1, 1, none⟩ = some (.string author) := rowcell HH2.out
            have p2 : w15.cell? ⟨w.heap.size, 2, none⟩ = some (.slice ta n1 tc) := rowcell HH1.out
            have q2 : w15.cell? ⟨w.heap.size + 1, 2, none⟩ = some (.slice ta2 n2 tc2) := rowcell HH2.out
            have p3 : w15.cell? ⟨w.heap.size, 3, none⟩ = some (.slice ea n3 ec) := rowcell HH1.out
            have q3 : w15.cell? ⟨w.heap.size + 1, 3, none⟩ = some (.slice ea2 n4 ec2) := rowcell HH2.out
            have p4 : w15.cell? ⟨w.heap.size, 4, none⟩ = some (.int .i64 pub) := rowcell HH1.out
            have q4 : w15.cell? ⟨w.heap.size + 1, 4, none⟩ = some (.int .i64 pub) := rowcell HH2.out
            have p5 : w15.cell? ⟨w.heap.size, 5, none⟩ = some (.slice ca n5 cc) := rowcell HH1.out
            have q5 : w15.cell? ⟨w.heap.size + 1, 5, none⟩ = some (.slice ca2 n6 cc2) := rowcell HH2.out
            have p6 : w15.cell? ⟨w.heap.size, 6, none⟩ = some (.bool retr) := rowcell HH1.out
            have q6 : w15.cell? ⟨w.heap.size + 1, 6, none⟩ = some (.bool retr2) := rowcell HH2.out
            have p7 : w15.cell? ⟨w.heap.size, 7, none⟩ = some (.bool taken) := rowcell HH1.out
            have q7 : w15.cell? ⟨w.heap.size + 1, 7, none⟩ = some (.bool taken2) := rowcell HH2.out
            have EN : Hid (decide (corr = corr2) = false → decide (corr = corr2) = false) := Lib.hid (fun h => h)
            have EY : Hid (decide (corr = corr2) = true → corr = corr2) := Lib.hid of_decide_eq_true
            generalize hq : decide (corr = corr2) = q at *
            cases q with
            | false =>
              clear hq EY EN
              have EN := Lib.hid (Eq.refl false)
              go_wp2_with fail
              go_ret
              exact ⟨ret_false (by first | (rw [HR.out]; simp [EN.out]; done) | (simp [EN.out]; done)), HB.out⟩
            | true =>
              clear hq EY EN
              by_cases e6 : retr = retr2
              · subst e6
                by_cases e7 : taken = taken2
                · subst e7
                  go_wp2_with fail
                  go_ret
                  exact ⟨ret_true (by first | (rw [HR.out]; simp; done) | (simp; done)), HB.out⟩
                · have ne : (taken == taken2) = false := by simpa using e7
                  have EN := Lib.hid (decide_eq_false e7)
                  clear e7
                  go_wp2_with fail
                  go_ret
                  exact ⟨ret_false (by first | (rw [HR.out]; simp [EN.out]; done) | (simp [EN.out]; done)), HB.out⟩
              · have ne : (retr == retr2) = false := by simpa using e6
                have EN := Lib.hid (decide_eq_false e6)
                clear e6
                go_wp2_with fail
                go_ret
                exact ⟨ret_false (by first | (rw [HR.out]; simp [EN.out]; done) | (simp [EN.out]; done)), HB.out⟩
          · have ne : (pub == pub2) = false := by simpa using e4
            have EN := Lib.hid (decide_eq_false e4)
            clear e4
            go_wp2_with fail
            go_ret
            exact ⟨ret_false (by first | (rw [HR.out]; simp [EN.out]; done) | (simp [EN.out]; done)), HB.out⟩
    · have ne : (author.toList == author2.toList) = false := str_ne e1
      have EN := Lib.hid (decide_eq_false e1)
      clear e1
      go_wp2_with fail
      go_ret
      exact ⟨ret_false (by first | (rw [HR.out]; simp [EN.out]; done) | (simp [EN.out]; done)), HB.out⟩
  · have ne : (id == id2) = false := by simpa using e0
    have EN := Lib.hid (decide_eq_false e0)
    clear e0
    go_wp2_with fail
    go_ret
    exact ⟨ret_false (by first | (rw [HR.out]; simp [EN.out]; done) | (simp [EN.out]; done)), HB.out⟩
set_option maxRecDepth 10000 in
set_option maxHeartbeats 4000000 in
theorem eqStys_any {mem : Addr → Option Value} {v u : Value} {l m : List StyF} (h1 : StysM mem v l) (h2 : StysM mem u m) (w : World) (hs : Sees mem w) :
    Calls Tryz.prog 58 #[v, u, .func (.func 59) #[] #[]] w fun e w' => e = .returned (.bool (decide (l = m))) ∧ Below w.heap.size w w' := by
  obtain ⟨ao, cap, b, o, rfl, hcap, hm, hao, hblks⟩ := SlM.open_ h1
  obtain ⟨ao2, cap2, b2, o2, rfl, hcap2, hm2, hao2, hblks2⟩ := SlM.open_ h2
  have HA := Lib.hid hao
  have HA2 := Lib.hid hao2
  have HB := Lib.hid hblks
  have HB2 := Lib.hid hblks2
  have HS := Lib.hid hs
  have hlen : (l.length : Int) ≤ 9223372036854775807 := by unfold maxLen at hm; omega
  have hlen2 : (m.length : Int) ≤ 9223372036854775807 := by unfold maxLen at hm2; omega
  clear h1 h2 hao hao2 hblks hblks2 hs hcap hcap2 hm hm2
  by_cases hl : l.length = m.length
  · have HL := Lib.hid hl
    rw [← hl]
    clear hl
    go_enter Tryz.func58, Tryz.ntmps58
    go_wp2_with fail
    go_loopw [17] (fun i wr => ∃ k : Nat, k ≤ l.length ∧ i = .int .i64 k ∧ Below w.heap.size w wr ∧ Hid (l.take k = m.take k)) (fun i _ => l.length - (intOf i).toNat)
    case atStart => exact ⟨0, Nat.zero_le _, rfl, Below.refl _ _, Lib.hid rfl⟩
    case round =>
      obtain ⟨k, hk, rfl, hb, ht⟩ := hrel
      by_cases hlt : k < l.length
      · have hlt2 : k < m.length := by rw [← HL.out]; exact hlt
        obtain rfl := HA.out (by omega)
        obtain rfl := HA2.out (by omega)
        obtain ⟨hok, tv, ev, cv, hcells, hP⟩ := HB.out k hlt
        obtain ⟨hok2, tv2, ev2, cv2, hcells2, hP2⟩ := HB2.out k hlt2
        have HV1 : Hid (StyV mem (.agg (styCells l[k] tv ev cv)) l[k]) := Lib.hid ⟨hok, _, _, _, rfl, hP⟩
        have HV2 : Hid (StyV mem (.agg (styCells m[k] tv2 ev2 cv2)) m[k]) := Lib.hid ⟨hok2, _, _, _, rfl, hP2⟩
        have HD1 := Lib.hid (cells_see (sz := 8) (HS.out.bel hb) hcells rfl)
        have HD2 := Lib.hid (cells_see (sz := 8) (HS.out.bel hb) hcells2 rfl)
        obtain ⟨t1, t2, e1, e2, c1, c2, rfl, rfl, rfl⟩ := hP.shape
        obtain ⟨t3, t4, e3, e4, c3, c4, rfl, rfl, rfl⟩ := hP2.shape
        generalize l[k].topics.length = n1 at *
        generalize l[k].eds.length = n2 at *
        generalize l[k].corr.length = n3 at *
        generalize m[k].topics.length = n4 at *
        generalize m[k].eds.length = n5 at *
        generalize m[k].corr.length = n6 at *
        clear hok hok2 hcells hcells2 hP hP2
        have HE : Hid (l[k] = m[k] → l.take (k + 1) = m.take (k + 1)) := Lib.hid (take_step hlt hlt2 ht.out)
        have HN : Hid (l[k] ≠ m[k] → decide (l = m) = false) := Lib.hid (fun e => decide_eq_false (ne_of_get hlt hlt2 e))
        have hk0 : (0 : Int) ≤ k := by omega
        have hk1 : (k : Int) < l.length := by omega
        generalize l[k] = x at *
        generalize m[k] = y at *
        have HC : Hid (∀ W, Sees mem W → Calls Tryz.prog 59 #[.agg (styCells x (.slice t1 n1 t2) (.slice e1 n2 e2) (.slice c1 n3 c2)), .agg (styCells y (.slice t3 n4 t4) (.slice e3 n5 e4) (.slice c3 n6 c4))] W fun e w' => e = .returned (.bool (decide (x = y))) ∧ Below W.heap.size W w') :=
          Lib.hid (fun W hW => sameStory_any HV1.out HV2.out W hW)
        have HC9 : Hid (decide (x = y) = true → x = y) := Lib.hid of_decide_eq_true
        have HC8 : Hid (decide (x = y) = false → x ≠ y) := Lib.hid of_decide_eq_false
        generalize hq : decide (x = y) = q at *
        have HB0 := Lib.hid hb
        clear hq ht hb
        go_upto_region 6 with (first
          | ((with_reducible refine at_sload 34 _ rfl ?_); go_must (refine wpList_smid rfl S_sty _ rfl (by simp [Act.eval]) (styCells x (.slice t1 n1 t2) (.slice e1 n2 e2) (.slice c1 n3 c2)) rfl HD1.out ?_))
          | ((with_reducible refine at_sstore 34 _ _ rfl ?_); go_must (refine wpList_snew rfl S_sty _ _ rfl rfl _ _ (styCells x (.slice t1 n1 t2) (.slice e1 n2 e2) (.slice c1 n3 c2)) (by simp [Act.eval, Act.put]) (by simp [Act.eval, Act.put]) rfl rfl (by simp [Value.oneCell']) ?_)))
        obtain ⟨W4, hW4⟩ : ∃ W4, W4 = wr.alloc (.cells (styCells x (.slice t1 n1 t2) (.slice e1 n2 e2) (.slice c1 n3 c2)) 34) := ⟨_, rfl⟩
        rw [← hW4]
        have hb4 : Below wr.heap.size wr W4 := by rw [hW4]; exact bel1 _ _
        have HN4 : Hid (W4.heap[wr.heap.size]? = some (.cells (styCells x (.slice t1 n1 t2) (.slice e1 n2 e2) (.slice c1 n3 c2)) 34 (0, 0))) := Lib.hid (by rw [hW4]; exact World.alloc_heap_new _ _)
        have HD3 := Lib.hid (cells_in HD2.out hb4)
        have HB4 := Lib.hid hb4
        clear hW4 hb4
        go_upto_region 7 with (first
          | ((with_reducible refine at_sload 34 _ rfl ?_); go_must (refine wpList_smid rfl S_sty _ rfl (by simp [Act.eval]) (styCells y (.slice t3 n4 t4) (.slice e3 n5 e4) (.slice c3 n6 c4)) rfl HD3.out ?_))
          | ((with_reducible refine at_sstore 34 _ _ rfl ?_); go_must (refine wpList_snew rfl S_sty _ _ rfl rfl _ _ (styCells y (.slice t3 n4 t4) (.slice e3 n5 e4) (.slice c3 n6 c4)) (by simp [Act.eval, Act.put]) (by simp [Act.eval, Act.put]) rfl rfl (by simp [Value.oneCell']) ?_)))
        obtain ⟨W5, hW5⟩ : ∃ W5, W5 = W4.alloc (.cells (styCells y (.slice t3 n4 t4) (.slice e3 n5 e4) (.slice c3 n6 c4)) 34) := ⟨_, rfl⟩
        rw [← hW5]
        have hb5 : Below W4.heap.size W4 W5 := by rw [hW5]; exact bel1 _ _
        have HN6 : Hid (W5.heap[W4.heap.size]? = some (.cells (styCells y (.slice t3 n4 t4) (.slice e3 n5 e4) (.slice c3 n6 c4)) 34 (0, 0))) := Lib.hid (by rw [hW5]; exact World.alloc_heap_new _ _)
        have HN5 := Lib.hid ((hb5.block _ (Go.Proofs.YtdkkhmjlamkgdaaGreatDoor.hlt HN4.out)).trans HN4.out)
        have HB5 : Hid (Below w.heap.size w W5) := Lib.hid ((HB0.out.trans (HB4.out.mono HB0.out.size)).trans (hb5.mono (Nat.le_trans HB0.out.size HB4.out.size)))
        have HS5 := Lib.hid (HS.out.bel HB5.out)
        clear hW5 hb5
        go_wp2_with (first
          | ((with_reducible refine at_sload 34 (.tmp 8) rfl ?_); go_must (refine wpList_sload rfl S_sty _ rfl (by simp [Act.eval, Act.put]) (styCells x (.slice t1 n1 t2) (.slice e1 n2 e2) (.slice c1 n3 c2)) rfl HN5.out ?_))
          | ((with_reducible refine at_sload 34 (.tmp 9) rfl ?_); go_must (refine wpList_sload rfl S_sty _ rfl (by simp [Act.eval, Act.put]) (styCells y (.slice t3 n4 t4) (.slice e3 n5 e4) (.slice c3 n6 c4)) rfl HN6.out ?_)))
        refine (HC.out _ HS5.out).mono ?_
        rintro e w3 ⟨rfl, hb3⟩
        have hB3 : Below w.heap.size w w3 := HB5.out.trans (hb3.mono HB5.out.size)
        clear hb3 HB0
        cases q with
        | true =>
          have HE2 := Lib.hid (HE.out (HC9.out rfl))
          clear HE HN HC9 HC8
          go_wp2_with fail
          go_roundw
          case rel => exact ⟨k + 1, by omega, by go_num, hB3, HE2⟩
          case measure => simp [intOf]; omega
        | false =>
          have HN2 := Lib.hid (HN.out (HC8.out rfl))
          clear HE HN HC9 HC8
          go_wp2_with fail
          go_ret
          exact ⟨ret_false HN2.out, hB3⟩
      · have e : k = l.length := by omega
        subst e
        have HF : Hid (decide (l = m) = true) := Lib.hid (decide_eq_true (eq_full HL.out ht.out))
        go_wp2_with fail
        go_ret
        exact ⟨ret_true HF.out, hb⟩
  · have HNE : Hid (decide (l = m) = false) := Lib.hid (decide_eq_false (fun e => hl (by rw [e])))
    have hne : decide (l.length = m.length) = false := decide_eq_false hl
    go_enter Tryz.func58, Tryz.ntmps58
    go_wp2_with fail
    all_goals first
      | (go_ret
         exact ⟨ret_false HNE.out, Below.refl _ _⟩)
      | (exfalso; simp_all; done)
end Go.Proofs.YtdkkhmjlamkgdaaGreatDoor
/-
  WHAT IS PROVED HERE: the walks of slices.Equal at templates and of state.Same (printed by tools/sxa.py). No condition.
-/
namespace Go.Proofs.YtdkkhmjlamkgdaaGreatDoor
open Go.RowKit Mg Go.Shelf Go.Maps

theorem tplCells_neq (x y : TplF) (W : World) : (binOp .neq 52 (.agg (tplCells x)) (.agg (tplCells y))).run Tryz.prog W = .ok (.bool (!decide (x = y))) W := by
  obtain ⟨a0, a1⟩ := x
  obtain ⟨b0, b1⟩ := y
  rw [run_neq_struct, run_equalIn_agg _ _ _ _ _ (by kernel_rfl) (by kernel_rfl)]
  simp only [Program.fieldsOf, Tryz.underlying52]
  go_simp
  simp only [TplF.mk.injEq, toList_iff]
  by_cases h0 : a0 = b0 <;> by_cases h1 : a1 = b1 <;> simp [h0, h1]
set_option maxRecDepth 10000 in
set_option maxHeartbeats 1000000 in
theorem eqTpls_any {mem : Addr → Option Value} {v u : Value} {l m : List TplF} (h1 : TplsM mem v l) (h2 : TplsM mem u m) (w : World) (hs : Sees mem w) :
    Calls Tryz.prog 60 #[v, u] w fun e w' => e = .returned (.bool (decide (l = m))) ∧ Below w.heap.size w w' := by
  obtain ⟨ao, cap, b, o, rfl, hcap, hm, hao, hcells⟩ := SlM.open_ h1
  obtain ⟨ao2, cap2, b2, o2, rfl, hcap2, hm2, hao2, hcells2⟩ := SlM.open_ h2
  have HS := Lib.hid hs
  have HA := Lib.hid hao
  have HA2 := Lib.hid hao2
  have HC := Lib.hid hcells
  have HC2 := Lib.hid hcells2
  have hlen : (l.length : Int) ≤ 9223372036854775807 := by unfold maxLen at hm; omega
  have hlen2 : (m.length : Int) ≤ 9223372036854775807 := by unfold maxLen at hm2; omega
  clear hao hao2 hcells hcells2 hs h1 h2 hcap hcap2 hm hm2
  by_cases hl : l.length = m.length
  · have HL := Lib.hid hl
    rw [← hl]
    clear hl
    go_enter Tryz.func60, Tryz.ntmps60
    go_wp2_with fail
    go_loopw [13] (fun i wr => ∃ k : Nat, k ≤ l.length ∧ i = .int .i64 k ∧ Below w.heap.size w wr ∧ Hid (l.take k = m.take k)) (fun i _ => l.length - (intOf i).toNat)
    case atStart => exact ⟨0, Nat.zero_le _, rfl, Below.refl _ _, Lib.hid rfl⟩
    case round =>
      obtain ⟨k, hk, rfl, hb, ht⟩ := hrel
      by_cases hlt : k < l.length
      · have hlt2 : k < m.length := by rw [← HL.out]; exact hlt
        have g1 := cells_see (sz := 2) (HS.out.bel hb) (HC.out k hlt).2 rfl
        have g2 := cells_see (sz := 2) (HS.out.bel hb) (HC2.out k hlt2).2 rfl
        obtain rfl := HA.out (by omega)
        obtain rfl := HA2.out (by omega)
        have HE : Hid (l[k] = m[k] → l.take (k + 1) = m.take (k + 1)) := Lib.hid (take_step hlt hlt2 ht.out)
        have HN : Hid (l[k] ≠ m[k] → l ≠ m) := Lib.hid (ne_of_get hlt hlt2)
        generalize l[k] = x at *
        generalize m[k] = y at *
        have G1 := Lib.hid g1
        have G2 := Lib.hid g2
        clear g1 g2
        have hqr : ∀ W : World, (binOp .neq 52 (.agg (tplCells x)) (.agg (tplCells y))).run Tryz.prog W = .ok (.bool (!decide (x = y))) W := fun W => tplCells_neq x y W
        have hk0 : (0 : Int) ≤ k := by omega
        have hk1 : (k : Int) < l.length := by omega
        clear ht hlt2
        by_cases hxy : x = y
        · have HE2 := Lib.hid (HE.out hxy)
          have hxd : decide (x = y) = true := decide_eq_true hxy
          rw [hxd] at hqr
          clear hxy
          clear HE
          go_wp2_with fail
          refine wp_tail 8 (by kernel_rfl) (by kernel_rfl) ?_
          simp only [List.take_succ_cons, List.take_zero, List.drop_succ_cons, List.drop_zero]
          still_step
          still_step
          still_step
          refine wpStill_value rfl _ (exec_smid S_tpl _ rfl (by simp [Act.eval]) (tplCells x) rfl G1.out) ?_
          simp only [Act.put, List.setIfInBounds_toArray, List.set_cons_zero, List.set_cons_succ]
          still_step
          still_step
          still_step
          refine wpStill_value rfl _ (exec_smid S_tpl _ rfl (by simp [Act.eval]) (tplCells y) rfl G2.out) ?_
          simp only [Act.put, List.setIfInBounds_toArray, List.set_cons_zero, List.set_cons_succ]
          refine wpStill_nil ?_
          go_wp2_with fail
          go_roundw
          case rel => exact ⟨k + 1, by omega, by go_num, hb.drew, HE2⟩
          case measure => simp [intOf]; omega
        · have hxd : decide (x = y) = false := decide_eq_false hxy
          rw [hxd] at hqr
          have HNE := Lib.hid hxy
          clear hxy
          go_wp2_with fail
          refine wp_tail 8 (by kernel_rfl) (by kernel_rfl) ?_
          simp only [List.take_succ_cons, List.take_zero, List.drop_succ_cons, List.drop_zero]
          still_step
          still_step
          still_step
          refine wpStill_value rfl _ (exec_smid S_tpl _ rfl (by simp [Act.eval]) (tplCells x) rfl G1.out) ?_
          simp only [Act.put, List.setIfInBounds_toArray, List.set_cons_zero, List.set_cons_succ]
          still_step
          still_step
          still_step
          refine wpStill_value rfl _ (exec_smid S_tpl _ rfl (by simp [Act.eval]) (tplCells y) rfl G2.out) ?_
          simp only [Act.put, List.setIfInBounds_toArray, List.set_cons_zero, List.set_cons_succ]
          refine wpStill_nil ?_
          go_wp2_with fail
          go_ret
          exact ⟨ret_bool (by symm; exact decide_eq_false (HN.out HNE.out)), hb.drew⟩
      · have e : k = l.length := by omega
        subst e
        have HF : Hid (l = m) := Lib.hid (eq_full HL.out ht.out)
        go_wp2_with fail
        go_ret
        exact ⟨ret_bool (by symm; exact decide_eq_true HF.out), hb⟩
  · have hne : decide (l.length = m.length) = false := decide_eq_false hl
    have HNE : Hid (l ≠ m) := Lib.hid (fun e => hl (by rw [e]))
    go_enter Tryz.func60, Tryz.ntmps60
    go_wp2_with fail
    all_goals first
      | (go_ret
         exact ⟨ret_bool (by symm; exact decide_eq_false HNE.out), Below.refl _ _⟩)
      | (exfalso; simp_all; done)
set_option maxRecDepth 10000 in
set_option maxHeartbeats 4000000 in
theorem same_law {mem : Addr → Option Value} {v u : Value} {x y : StF} (h1 : StateM mem v x) (h2 : StateM mem u y) (w : World) (hs : Sees mem w) :
    Calls Tryz.prog 31 #[v, u] w fun e w' => e = .returned (.bool (decide (x = y))) ∧ Below w.heap.size w w' := by
  obtain ⟨sv, tv, rfl, hs1, ht1⟩ := h1
  obtain ⟨sv2, tv2, rfl, hs2, ht2⟩ := h2
  obtain ⟨sts, tps⟩ := x
  obtain ⟨sts2, tps2⟩ := y
  dsimp only at hs1 ht1 hs2 ht2
  have HL := Lib.hid (fun W hW => eqStys_any hs1 hs2 W hW)
  have HT := Lib.hid (fun W hW => eqTpls_any ht1 ht2 W hW)
  obtain ⟨a, c, rfl⟩ := SlM.slice hs1
  obtain ⟨a2, c2, rfl⟩ := SlM.slice hs2
  obtain ⟨b, d, rfl⟩ := SlM.slice ht1
  obtain ⟨b2, d2, rfl⟩ := SlM.slice ht2
  have HR : Hid (decide ((⟨sts, tps⟩ : StF) = ⟨sts2, tps2⟩) = (decide (sts = sts2) && decide (tps = tps2))) := Lib.hid (by simp only [StF.mk.injEq, Bool.decide_and])
  have HS := Lib.hid hs
  clear hs1 hs2 ht1 ht2 hs
  generalize hn1 : sts.length = n1 at *
  generalize hn2 : sts2.length = n2 at *
  generalize hn3 : tps.length = n3 at *
  generalize hn4 : tps2.length = n4 at *
  clear hn1 hn2 hn3 hn4
  obtain ⟨W2, hW2⟩ : ∃ W2, W2 = (w.alloc (.cells #[.slice a n1 c, .slice b n3 d] 27)).alloc (.cells #[.slice a2 n2 c2, .slice b2 n4 d2] 27) := ⟨_, rfl⟩
  have hB2 : Below w.heap.size w W2 := by rw [hW2]; exact (bel1 w _).alloc (by simp) _
  have HN1 : Hid (W2.heap[w.heap.size]? = some (.cells #[.slice a n1 c, .slice b n3 d] 27 (0, 0))) := Lib.hid (by rw [hW2]; exact heap_new1 w _ _)
  have HN2 : Hid (W2.heap[w.heap.size + 1]? = some (.cells #[.slice a2 n2 c2, .slice b2 n4 d2] 27 (0, 0))) := Lib.hid (by
    rw [hW2]
    have := World.alloc_heap_new (w.alloc (.cells #[.slice a n1 c, .slice b n3 d] 27)) (.cells #[.slice a2 n2 c2, .slice b2 n4 d2] 27)
    simpa using this)
  have HB2 := Lib.hid hB2
  have HW2 := Lib.hid hW2
  have HS2 := Lib.hid (HS.out.bel hB2)
  clear hB2 hW2
  go_enter Tryz.func31, Tryz.ntmps31
  go_upto_region 1 with fail
  rw [← HW2.out]
  have HB := HB2
  have HSW := HS2
  have HH1 := HN1
  have HH2 := HN2
  clear HB2 HS2 HN1 HN2 HW2
  have p0 : W2.cell? ⟨w.heap.size, 0, none⟩ = some (.slice a n1 c) := rowcell HH1.out
  have q0 : W2.cell? ⟨w.heap.size + 1, 0, none⟩ = some (.slice a2 n2 c2) := rowcell HH2.out
  have p1 : W2.cell? ⟨w.heap.size, 1, none⟩ = some (.slice b n3 d) := rowcell HH1.out
  have q1 : W2.cell? ⟨w.heap.size + 1, 1, none⟩ = some (.slice b2 n4 d2) := rowcell HH2.out
  go_wp2_with fail
  refine (HL.out _ HSW.out).mono ?_
  rintro e w10 ⟨rfl, hb⟩
  have HB := Lib.hid (HB.out.trans (hb.mono HB.out.size))
  have HSW := Lib.hid (HSW.out.bel hb)
  have HH1 := Lib.hid ((hb.block _ (hlt HH1.out)).trans HH1.out)
  have HH2 := Lib.hid ((hb.block _ (hlt HH2.out)).trans HH2.out)
  clear hb p0 q0 p1 q1
  have p0 : w10.cell? ⟨w.heap.size, 0, none⟩ = some (.slice a n1 c) := rowcell HH1.out
  have q0 : w10.cell? ⟨w.heap.size + 1, 0, none⟩ = some (.slice a2 n2 c2) := rowcell HH2.out
  have p1 : w10.cell? ⟨w.heap.size, 1, none⟩ = some (.slice b n3 d) := rowcell HH1.out
  have q1 : w10.cell? ⟨w.heap.size + 1, 1, none⟩ = some (.slice b2 n4 d2) := rowcell HH2.out
  have EN : Hid (decide (sts = sts2) = false → decide (sts = sts2) = false) := Lib.hid (fun h => h)
  have EY : Hid (decide (sts = sts2) = true → sts = sts2) := Lib.hid of_decide_eq_true
  generalize hq : decide (sts = sts2) = q at *
  cases q with
  | false =>
    clear hq EY EN
    have EN := Lib.hid (Eq.refl false)
    go_wp2_with fail
    go_ret
    exact ⟨ret_false (by first | (rw [HR.out]; simp [EN.out]; done) | (simp [EN.out]; done)), HB.out⟩
  | true =>
    clear hq EY EN
    go_wp2_with fail
    refine (HT.out _ HSW.out).mono ?_
    rintro e w11 ⟨rfl, hb⟩
    have HB := Lib.hid (HB.out.trans (hb.mono HB.out.size))
    have HSW := Lib.hid (HSW.out.bel hb)
    have HH1 := Lib.hid ((hb.block _ (hlt HH1.out)).trans HH1.out)
    have HH2 := Lib.hid ((hb.block _ (hlt HH2.out)).trans HH2.out)
    clear hb p0 q0 p1 q1
    have p0 : w11.cell? ⟨w.heap.size, 0, none⟩ = some (.slice a n1 c) := rowcell HH1.out
    have q0 : w11.cell? ⟨w.heap.size + 1, 0, none⟩ = some (.slice a2 n2 c2) := rowcell HH2.out
    have p1 : w11.cell? ⟨w.heap.size, 1, none⟩ = some (.slice b n3 d) := rowcell HH1.out
    have q1 : w11.cell? ⟨w.heap.size + 1, 1, none⟩ = some (.slice b2 n4 d2) := rowcell HH2.out
    have EN : Hid (decide (tps = tps2) = false → decide (tps = tps2) = false) := Lib.hid (fun h => h)
    have EY : Hid (decide (tps = tps2) = true → tps = tps2) := Lib.hid of_decide_eq_true
    generalize hq : decide (tps = tps2) = q at *
    cases q with
    | false =>
      clear hq EY EN
      have EN := Lib.hid (Eq.refl false)
      go_wp2_with fail
      go_ret
      exact ⟨ret_false (by first | (rw [HR.out]; simp [EN.out]; done) | (simp [EN.out]; done)), HB.out⟩
    | true =>
      clear hq EY EN
      go_wp2_with fail
      go_ret
      exact ⟨ret_true (by first | (rw [HR.out]; simp; done) | (simp; done)), HB.out⟩
end Go.Proofs.YtdkkhmjlamkgdaaGreatDoor
/-
  WHAT IS PROVED HERE: the laws' pick. Condition: the number is an int, the bound is small and positive.
-/
namespace Go.Proofs.YtdkkhmjlamkgdaaGreatDoor
open Go.RowKit Mg Go.Shelf

/-- a number cut down to one below n -/
def pickF (c n : Int) : Int := (if c < 0 then -(c + 1) else c) % n
theorem pickF_lt {c n : Int} (h : 0 < n) : 0 ≤ pickF c n ∧ pickF c n < n := ⟨Int.emod_nonneg _ (by omega), Int.emod_lt_of_pos _ h⟩
theorem pick_any (c n : Int) (hc : okI c) (hn : 0 < n) (hn2 : n ≤ 1000000) (w : World) :
    Calls Tryz.prog 27 #[.int .i64 c, .int .i64 n] w fun e w' => e = .returned (.int .i64 (pickF c n)) ∧ w = w' := by
  obtain ⟨hc1, hc2⟩ := hc
  by_cases h : c < 0
  · have HR : Hid (pickF c n = -(c + 1) % n) := Lib.hid (by unfold pickF; rw [if_pos h])
    have h0 : 0 ≤ -(c + 1) := by omega
    go_enter Tryz.func27, Tryz.ntmps27
    go_wp2_with fail
    go_ret
    exact ⟨ret_int (by rw [HR.out, ← Int.neg_tmod]; exact Int.tmod_eq_emod_of_nonneg h0), rfl⟩
  · have HR : Hid (pickF c n = c % n) := Lib.hid (by unfold pickF; rw [if_neg h])
    have h0 : 0 ≤ c := by omega
    go_enter Tryz.func27, Tryz.ntmps27
    go_wp2_with fail
    go_ret
    exact ⟨ret_int (by rw [HR.out]), rfl⟩
end Go.Proofs.YtdkkhmjlamkgdaaGreatDoor
/-
  WHAT IS PROVED HERE: the law's word. Condition: the number is an int.
-/
namespace Go.Proofs.YtdkkhmjlamkgdaaGreatDoor
open Go.RowKit Mg Go.Shelf

/-- the law's seven words -/
def wordsB : List ByteArray := [⟨#[114, 97, 105, 110]⟩, ⟨#[118, 111, 116, 101]⟩, ⟨#[104, 97, 108, 108]⟩, ⟨#[109, 97, 121, 111, 114]⟩, ⟨#[98, 114, 105, 100, 103, 101]⟩, ⟨#[115, 99, 104, 111, 111, 108]⟩, ⟨#[114, 105, 118, 101, 114]⟩]
def wordB (j : Nat) : ByteArray := wordsB[j]?.getD ⟨#[]⟩
def wordO (n : Int) : ByteArray := wordB (pickF n 7).toNat
theorem words_cell : ∀ j, j < 7 → ((wordsB.map Value.string).toArray)[j]? = some (.string (wordB j))
  | 0, _ => rfl
  | 1, _ => rfl
  | 2, _ => rfl
  | 3, _ => rfl
  | 4, _ => rfl
  | 5, _ => rfl
  | 6, _ => rfl
theorem fill_words : Instr.fill (fun i => some (i * 1, 1)) ((Array.range (7 * 1)).map ((Value.string .empty).cells[· % (Value.string .empty).cells.size]!)) [(0, .string ⟨#[114, 97, 105, 110]⟩), (1, .string ⟨#[118, 111, 116, 101]⟩), (2, .string ⟨#[104, 97, 108, 108]⟩), (3, .string ⟨#[109, 97, 121, 111, 114]⟩), (4, .string ⟨#[98, 114, 105, 100, 103, 101]⟩), (5, .string ⟨#[115, 99, 104, 111, 111, 108]⟩), (6, .string ⟨#[114, 105, 118, 101, 114]⟩)] = some (wordsB.map Value.string).toArray := by kernel_rfl
set_option maxHeartbeats 1000000 in
theorem word_any (n : Int) (hn : okI n) (w : World) :
    Calls Tryz.prog 28 #[.int .i64 n] w fun e w' => e = .returned (.string (wordO n)) ∧ Below w.heap.size w w' := by
  have c1 := fun W => pick_any n 7 hn (by omega) (by omega) W
  obtain ⟨k0, k7⟩ := pickF_lt (c := n) (n := 7) (by omega)
  obtain ⟨j, hj⟩ : ∃ j : Nat, pickF n 7 = (j : Int) := ⟨(pickF n 7).toNat, by omega⟩
  rw [hj] at c1
  have hj7 : j < 7 := by omega
  have HW : Hid (wordO n = wordB j) := Lib.hid (by unfold wordO; rw [hj]; rfl)
  have HN : Hid (∀ o, o = Obj.cells (wordsB.map Value.string).toArray 9 (0, 0) → (w.alloc o).cell? ⟨w.heap.size, j, none⟩ = some (.string (wordB j))) := Lib.hid (by
    rintro o rfl
    rw [rowcell (World.alloc_heap_new w _)]
    exact words_cell j hj7)
  clear hj k0 k7
  go_enter Tryz.func28, Tryz.ntmps28
  go_upto_region 2 with ((with_reducible refine at_sslice 30 _ _ rfl ?_); go_must (refine wpList_n_slice rfl E_str 7 (by decide) (by decide) _ rfl [(0, .string ⟨#[114, 97, 105, 110]⟩), (1, .string ⟨#[118, 111, 116, 101]⟩), (2, .string ⟨#[104, 97, 108, 108]⟩), (3, .string ⟨#[109, 97, 121, 111, 114]⟩), (4, .string ⟨#[98, 114, 105, 100, 103, 101]⟩), (5, .string ⟨#[115, 99, 104, 111, 111, 108]⟩), (6, .string ⟨#[114, 105, 118, 101, 114]⟩)] (by simp [Act.eval, Act.put]) _ fill_words ?_))
  obtain ⟨W1, hW1⟩ : ∃ W1, W1 = w.alloc (.cells (wordsB.map Value.string).toArray 9) := ⟨_, rfl⟩
  rw [← hW1]
  have hc : W1.cell? ⟨w.heap.size, j, none⟩ = some (.string (wordB j)) := by rw [hW1]; exact HN.out _ rfl
  have HB : Hid (Below w.heap.size w W1) := Lib.hid (by rw [hW1]; exact bel1 w _)
  clear hW1
  go_wp2_with fail
  refine (c1 _).mono ?_
  rintro e w' ⟨rfl, rfl⟩
  go_wp2_with fail
  go_ret
  exact ⟨by rw [HW.out]; rfl, HB.out⟩
end Go.Proofs.YtdkkhmjlamkgdaaGreatDoor
/-
  WHAT IS PROVED HERE: plain: the texts that StateQuotesCorrected builds. No program, no condition.
-/
namespace Go.Proofs.YtdkkhmjlamkgdaaGreatDoor
open Go.RowKit Mg Go.Shelf

def numL (l : List Int) (i : Nat) : Int := l[i]?.getD i
def senL (x : Int) : List UInt8 := (wordO x).data.toList ++ [32, 105, 116, 32, 105, 115, 46]
def neverL (x : Int) : List UInt8 := [78, 111, 32] ++ (wordO x).data.toList ++ [33]
def senS (l : List Int) (n : Nat) : List (List UInt8) := (List.range n).map fun i => senL (numL l i)
def wantL (l : List Int) (k : Nat) (f : Int) (n : Nat) : List (List UInt8) := (List.range n).map fun i => if i = k then neverL f else senL (numL l i)
theorem senS_len (l : List Int) (n : Nat) : (senS l n).length = n := by unfold senS; rw [List.length_map, List.length_range]
theorem senS_snoc (l : List Int) (n : Nat) : senS l (n + 1) = senS l n ++ [senL (numL l n)] := by unfold senS; rw [List.range_succ, List.map_append]; rfl
theorem wantL_snoc (l : List Int) (k : Nat) (f : Int) (n : Nat) : wantL l k f (n + 1) = wantL l k f n ++ [if n = k then neverL f else senL (numL l n)] := by unfold wantL; rw [List.range_succ, List.map_append]; rfl
theorem wantL_len (l : List Int) (k : Nat) (f : Int) (n : Nat) : (wantL l k f n).length = n := by unfold wantL; rw [List.length_map, List.length_range]
theorem joinB_snoc : ∀ (ps : List (List UInt8)) (p : List UInt8), joinB (ps ++ [p]) = joinB ps ++ (if ps = [] then [] else [32]) ++ p
  | [], p => rfl
  | [a], p => by
    show a ++ [32] ++ p = a ++ (if [a] = [] then [] else [32]) ++ p
    rw [if_neg (by simp)]
  | a :: b :: r, p => by
    show a ++ [32] ++ joinB ((b :: r) ++ [p]) = a ++ [32] ++ joinB (b :: r) ++ _ ++ p
    rw [joinB_snoc (b :: r) p, if_neg (by simp), if_neg (by simp)]
    simp only [List.append_assoc]
theorem wantL_set (l : List Int) (k : Nat) (f : Int) (n : Nat) : wantL l k f n = (senS l n).set k (neverL f) := by
  unfold wantL senS
  refine List.ext_getElem (by simp) (fun i h1 h2 => ?_)
  rw [List.getElem_set]
  simp only [List.getElem_map, List.getElem_range]
  by_cases h : i = k
  · rw [if_pos h, if_pos h.symm]
  · rw [if_neg h, if_neg (fun q => h q.symm)]
theorem body_next (l : List Int) (n : Nat) : bodyS [] (senS l (n + 1)) = bodyS [] (senS l n) ++ (if n = 0 then [] else [32, 32]) ++ senL (numL l n) := by
  rw [senS_snoc, bodyS_snoc]
  by_cases h : n = 0
  · subst h; rfl
  · rw [if_neg h, if_neg (fun q => h (by have := senS_len l n; rw [q] at this; exact this.symm))]
theorem want_next (l : List Int) (k : Nat) (f : Int) (n : Nat) : joinB (wantL l k f (n + 1)) = joinB (wantL l k f n) ++ (if n = 0 then [] else [32]) ++ (if n = k then neverL f else senL (numL l n)) := by
  rw [wantL_snoc, joinB_snoc]
  by_cases h : n = 0
  · subst h; rfl
  · rw [if_neg h, if_neg (fun q => h (by have := wantL_len l k f n; rw [q] at this; exact this.symm))]
theorem sen_word : ∀ j, j < 7 → Sen ((wordB j).data.toList ++ [32, 105, 116, 32, 105, 115, 46])
  | 0, _ => ⟨114, [97, 105, 110, 32, 105, 116, 32, 105, 115], rfl, by decide, by decide⟩
  | 1, _ => ⟨118, [111, 116, 101, 32, 105, 116, 32, 105, 115], rfl, by decide, by decide⟩
  | 2, _ => ⟨104, [97, 108, 108, 32, 105, 116, 32, 105, 115], rfl, by decide, by decide⟩
  | 3, _ => ⟨109, [97, 121, 111, 114, 32, 105, 116, 32, 105, 115], rfl, by decide, by decide⟩
  | 4, _ => ⟨98, [114, 105, 100, 103, 101, 32, 105, 116, 32, 105, 115], rfl, by decide, by decide⟩
  | 5, _ => ⟨115, [99, 104, 111, 111, 108, 32, 105, 116, 32, 105, 115], rfl, by decide, by decide⟩
  | 6, _ => ⟨114, [105, 118, 101, 114, 32, 105, 116, 32, 105, 115], rfl, by decide, by decide⟩
theorem sen_all (l : List Int) (n : Nat) : ∀ p ∈ senS l n, Sen p := fun p hp => by
  unfold senS at hp
  obtain ⟨i, _, rfl⟩ := List.mem_map.1 hp
  obtain ⟨h0, h7⟩ := pickF_lt (c := numL l i) (n := 7) (by omega)
  exact sen_word _ (by omega)
theorem sents_body7 (l : List Int) (n : Nat) : sentF (bs (bodyS [] (senS l n))) = senS l n := sents_of _ (sen_all l n)
theorem wordB_len : ∀ j, j < 7 → (wordB j).data.toList.length ≤ 6
  | 0, _ => by decide
  | 1, _ => by decide
  | 2, _ => by decide
  | 3, _ => by decide
  | 4, _ => by decide
  | 5, _ => by decide
  | 6, _ => by decide
theorem wordO_len (x : Int) : (wordO x).data.toList.length ≤ 6 := by
  obtain ⟨h0, h7⟩ := pickF_lt (c := x) (n := 7) (by omega)
  exact wordB_len _ (by omega)
theorem senL_len (x : Int) : (senL x).length ≤ 13 := by
  have := wordO_len x
  unfold senL
  rw [List.length_append]
  show _ + 7 ≤ 13
  omega
theorem neverL_len (x : Int) : (neverL x).length ≤ 13 := by
  have := wordO_len x
  unfold neverL
  rw [List.length_append, List.length_append]
  show 3 + _ + 1 ≤ 13
  omega
theorem body_len (l : List Int) : ∀ n, (bodyS [] (senS l n)).length ≤ 15 * n
  | 0 => Nat.le_refl _
  | n + 1 => by
    have h1 := body_len l n
    have h2 := senL_len (numL l n)
    rw [body_next, List.length_append, List.length_append]
    have h3 : (if n = 0 then ([] : List UInt8) else [32, 32]).length ≤ 2 := by split <;> decide
    omega
theorem want_len (l : List Int) (k : Nat) (f : Int) : ∀ n, (joinB (wantL l k f n)).length ≤ 15 * n
  | 0 => Nat.le_refl _
  | n + 1 => by
    have h1 := want_len l k f n
    have h2 := senL_len (numL l n)
    have h4 := neverL_len f
    rw [want_next, List.length_append, List.length_append]
    have h3 : (if n = 0 then ([] : List UInt8) else [32]).length ≤ 2 := by split <;> decide
    have h5 : (if n = k then neverL f else senL (numL l n)).length ≤ 13 := by split <;> assumption
    omega
end Go.Proofs.YtdkkhmjlamkgdaaGreatDoor
/-
  WHAT IS PROVED HERE: an argument that reads as a list of blocks lies in memory as the contracts want it. No condition.
-/
namespace Go.Proofs.YtdkkhmjlamkgdaaGreatDoor
open Go.ChangeShapes Go.WideShapes Go.RowKit Go.Deep Mg

theorem cell_add {w : World} {a : Addr} {k : Nat} {v : Value} (h : w.cell? (a.add k) = some v) : w.cell? ⟨a.block, a.off + k, none⟩ = some v := by
  by_cases hk : k = 0
  · subst hk
    have e : a.add 0 = a := by simp [Addr.add]
    rw [e] at h
    obtain ⟨b, o, s⟩ := a
    cases s with
    | none => exact h
    | some x =>
      unfold World.cell? at h
      simp at h
      split at h <;> simp at h
  · unfold Addr.add at h
    rwa [if_neg hk] at h
theorem cell_spot {w : World} {a : Addr} {v : Value} (h : w.cell? a = some v) : a = ⟨a.block, a.off, none⟩ := by
  obtain ⟨b, o, s⟩ := a
  cases s with
  | none => rfl
  | some x =>
    unfold World.cell? at h
    simp at h
    split at h <;> simp at h
theorem add_zero (a : Addr) : a.add 0 = a := by simp [Addr.add]
section
variable {H : Type} {enc : TypeId × Value → H} {P : Program} {w W : World} {base : Nat} {spare : Nat → Bool} {held : Bool}
/-- a slice's cells, element by element -/
theorem open_rows {t e : TypeId} {fuel n : Nat} {cs : List Value} {x : DataW H × List MemPlace} (ht : P.underlying t = some (.slice e)) (hC : P.cellsOf e = n) (hpos : 0 < n) (h : DataW.trod enc P w base spare held fuel t cs = some x) :
    cs = [.slice none 0 0] ∨
    ∃ (a : Addr) (len cap : Nat), cs = [.slice (some a) len cap] ∧ len ≤ cap ∧ cap ≤ maxLen ∧ (0 < len → a = ⟨a.block, a.off, none⟩) ∧
      ∀ i, i < len → ∃ (cs' : List Value) (y : DataW H × List MemPlace) (m : Nat), cs'.length = n ∧ DataW.trod enc P w base spare held m e cs' = some y ∧ ∀ j (hj : j < cs'.length), w.cell? ⟨a.block, a.off + i * n + j, none⟩ = some cs'[j] := by
  subst hC
  rcases DataW.trod_slice ht h with ⟨h0, _⟩ | ⟨a, len, cap, elems, rest, n, rfl, hcs, hx, _, hl, hm, hlen, hel, _, _⟩
  · exact .inl h0
  · refine .inr ⟨a, len, cap, hcs, hl, hm, fun h0 => ?_, fun i hi => ?_⟩
    · have h1 := hel 0 h0
      rw [List.getElem?_eq_getElem (by omega), Option.bind_eq_some_iff, Nat.zero_mul, add_zero] at h1
      obtain ⟨cs', hc, ht'⟩ := h1
      obtain ⟨_, hcl, hat⟩ := World.cells?_some hc
      have h2 := hat 0 hpos
      rw [List.getElem?_eq_getElem (by rw [hcl]; exact hpos), add_zero] at h2
      exact cell_spot h2
    have h1 := hel i hi
    rw [List.getElem?_eq_getElem (by omega)] at h1
    rw [Option.bind_eq_some_iff] at h1
    obtain ⟨cs', hc, ht'⟩ := h1
    obtain ⟨_, hcl, hat⟩ := World.cells?_some hc
    refine ⟨cs', _, n, hcl, ht', fun j hj => ?_⟩
    have h2 := hat j (by omega)
    rw [List.getElem?_eq_getElem hj, Go.Deep.add_add] at h2
    rw [Nat.add_assoc]
    exact cell_add h2
theorem int_arg {fuel : Nat} {v : Value} {x : DataW H × List MemPlace} (h : DataW.trod enc Tryz.prog w base spare held fuel 3 [v] = some x) : ∃ n : Int, v = .int .i64 n ∧ okI n := by
  obtain ⟨n, h1, _, h2⟩ := DataW.trod_int Tryz.underlying3 h
  injection h1 with h1 _
  refine ⟨n, h1, ?_⟩
  have e1 : IntKind.i64.min = -9223372036854775808 := by decide
  have e2 : IntKind.i64.max = 9223372036854775807 := by decide
  simp only [Lit.wf, e1, e2, Bool.and_eq_true, decide_eq_true_eq] at h2
  exact h2
theorem string_arg {fuel : Nat} {v : Value} {x : DataW H × List MemPlace} (h : DataW.trod enc Tryz.prog w base spare held fuel 9 [v] = some x) : ∃ s : ByteArray, v = .string s ∧ s.size ≤ maxLen := by
  obtain ⟨s, h1, _, h3⟩ := DataW.trod_string Tryz.underlying9 h
  injection h1 with h1 _
  exact ⟨s, h1, h3⟩
theorem each_ints {mem : Addr → Option Value} {b : Nat} : ∀ (n o : Nat), (∀ i, i < n → ∃ x : Int, mem ⟨b, o + i, none⟩ = some (.int .i64 x)) → ∃ l : List Int, l.length = n ∧ ∀ j (h : j < l.length), mem ⟨b, o + j, none⟩ = some (.int .i64 l[j])
  | 0, o, _ => ⟨[], rfl, fun j h => absurd h (by simp)⟩
  | n + 1, o, h => by
    obtain ⟨x, hx⟩ := h 0 (by omega)
    obtain ⟨l, h1, h2⟩ := each_ints n (o + 1) (fun i hi => by rw [show o + 1 + i = o + (i + 1) by omega]; exact h (i + 1) (by omega))
    refine ⟨x :: l, by simp [h1], fun j hj => ?_⟩
    cases j with
    | zero => exact hx
    | succ j => rw [show o + (j + 1) = o + 1 + j by omega]; exact h2 j (by simpa using hj)
theorem cells3 : Tryz.prog.cellsOf 3 = 1 := by kernel_rfl
theorem cells9 : Tryz.prog.cellsOf 9 = 1 := by kernel_rfl
theorem cells25 : Tryz.prog.cellsOf 46 = 1 := by kernel_rfl
theorem cells37 : Tryz.prog.cellsOf 48 = 4 := by kernel_rfl
theorem cells39 : Tryz.prog.cellsOf 58 = 9 := by kernel_rfl
theorem ints_arg {fuel : Nat} {v : Value} {x : DataW H × List MemPlace} (h : DataW.trod enc Tryz.prog w base spare held fuel 46 [v] = some x) : ∃ l : List Int, IntsM (fun a => w.cell? a) v l := by
  rcases open_rows Tryz.underlying46 cells3 (by omega) h with h0 | ⟨a, len, cap, hcs, hl, hm, hsp, hi⟩
  · injection h0 with h0 _
    subst h0
    exact ⟨[], IntsM.nil _⟩
  · injection hcs with hcs _
    subst hcs
    obtain ⟨l, h1, h2⟩ := each_ints (mem := fun a => w.cell? a) (b := a.block) len a.off (fun i hil => by
      obtain ⟨cs', y, m, hcl, ht, hc⟩ := hi i hil
      match cs', hcl with
      | [u], _ =>
        obtain ⟨n, rfl, _⟩ := int_arg ht
        have := hc 0 (by simp)
        exact ⟨n, by simpa using this⟩)
    subst h1
    exact ⟨l, a.block, a.off, ⟨Nat.le_trans hl hm, some a, cap, rfl, hl, hm, fun h0 => by rw [← hsp h0]⟩, h2⟩
theorem one37 : ∃ fs, Tryz.prog.underlying 48 = some (.struct fs) ∧ (fs.map (·.type)).toList = [3, 46, 3, 3] ∧ (fs.map (·.offset)).toList = [0, 1, 2, 3] :=
  ⟨_, Tryz.underlying48, by simp, by simp⟩
theorem one39 : ∃ fs, Tryz.prog.underlying 58 = some (.struct fs) ∧ (fs.map (·.type)).toList = [3, 3, 9, 3, 3, 48] ∧ (fs.map (·.offset)).toList = [0, 1, 2, 3, 4, 5] :=
  ⟨_, Tryz.underlying58, by simp, by simp⟩
theorem field_arg {t : TypeId} {fs : Array Field} {fuel : Nat} {cs : List Value} {x : DataW H × List MemPlace} (hu : P.underlying t = some (.struct fs)) (h : DataW.trod enc P w base spare held fuel t cs = some x) :
    ∃ m, ∀ (j : Nat) (t' : TypeId) (o : Nat), (fs.map (·.type)).toList[j]? = some t' → (fs.map (·.offset)).toList[j]? = some o → ∃ y : DataW H × List MemPlace, DataW.trod enc P w base spare held m t' ((cs.drop o).take (P.cellsOf t')) = some y := by
  obtain ⟨xs, n, _, _, _, hlen, hg⟩ := DataW.trod_struct hu h
  refine ⟨n, fun j t' o ht ho => ?_⟩
  rw [Array.getElem?_toList, Array.getElem?_map, Option.map_eq_some_iff] at ht ho
  obtain ⟨f, hj, rfl⟩ := ht
  obtain ⟨f', hj', rfl⟩ := ho
  obtain rfl := Option.some.inj (hj.symm.trans hj')
  have hjl : j < xs.length := by rw [hlen]; exact (Array.getElem?_eq_some_iff.1 hj).1
  exact ⟨xs[j], (hg j f hj).trans (List.getElem?_eq_getElem hjl)⟩
set_option maxRecDepth 100000 in
theorem blk_arg {fuel : Nat} {cs : List Value} {x : DataW H × List MemPlace} (hl : cs.length = 9) (h : DataW.trod enc Tryz.prog w base spare held fuel 58 cs = some x) {b o : Nat} (hc : ∀ j (hj : j < cs.length), w.cell? ⟨b, o + j, none⟩ = some cs[j]) :
    ∃ y : Blk, BlkAt (fun a => w.cell? a) y b o := by
  obtain ⟨fs, hu, hty, hof⟩ := one39
  obtain ⟨m, key⟩ := field_arg hu h
  rw [hty, hof] at key
  match cs, hl with
  | [c0, c1, c2, c3, c4, c5, c6, c7, c8], _ =>
    obtain ⟨y0, t0⟩ := key 0 3 0 rfl rfl
    obtain ⟨y1, t1⟩ := key 1 3 1 rfl rfl
    obtain ⟨y2, t2⟩ := key 2 9 2 rfl rfl
    obtain ⟨y3, t3⟩ := key 3 3 3 rfl rfl
    obtain ⟨y4, t4⟩ := key 4 3 4 rfl rfl
    obtain ⟨y5, t5⟩ := key 5 48 5 rfl rfl
    rw [cells3] at t0 t1 t3 t4
    rw [cells9] at t2
    rw [cells37] at t5
    obtain ⟨gs, hu', hty', hof'⟩ := one37
    obtain ⟨m', key'⟩ := field_arg hu' t5
    rw [hty', hof'] at key'
    obtain ⟨z0, s0⟩ := key' 0 3 0 rfl rfl
    obtain ⟨z1, s1⟩ := key' 1 46 1 rfl rfl
    obtain ⟨z2, s2⟩ := key' 2 3 2 rfl rfl
    obtain ⟨z3, s3⟩ := key' 3 3 3 rfl rfl
    rw [cells3] at s0 s2 s3
    rw [cells25] at s1
    obtain ⟨id, rfl, k0⟩ := int_arg (v := c0) t0
    obtain ⟨kind, rfl, k1⟩ := int_arg (v := c1) t1
    obtain ⟨text, rfl, k2⟩ := string_arg (v := c2) t2
    obtain ⟨story, rfl, _⟩ := int_arg (v := c3) t3
    obtain ⟨ref, rfl, _⟩ := int_arg (v := c4) t4
    obtain ⟨till, rfl, _⟩ := int_arg (v := c5) s0
    obtain ⟨after, ka⟩ := ints_arg (v := c6) s1
    obtain ⟨appr, rfl, _⟩ := int_arg (v := c7) s2
    obtain ⟨den, rfl, _⟩ := int_arg (v := c8) s3
    exact ⟨⟨id, kind, text, story, ref, ⟨till, after, appr, den⟩⟩, ⟨hc 0 (by simp), hc 1 (by simp), hc 2 (by simp), hc 3 (by simp), hc 4 (by simp)⟩, ⟨hc 5 (by simp), hc 7 (by simp), hc 8 (by simp)⟩, ⟨k2, k1, k0⟩, c6, hc 6 (by simp), ka⟩
theorem each_blks {mem : Addr → Option Value} {b : Nat} : ∀ (n o : Nat), (∀ i, i < n → ∃ y : Blk, BlkAt mem y b (o + i * 9)) → ∃ l : List Blk, l.length = n ∧ BlksAt mem l b o
  | 0, o, _ => ⟨[], rfl, fun j h => absurd h (by simp)⟩
  | n + 1, o, h => by
    obtain ⟨x, hx⟩ := h 0 (by omega)
    obtain ⟨l, h1, h2⟩ := each_blks n (o + 9) (fun i hi => by rw [show o + 9 + i * 9 = o + (i + 1) * 9 by omega]; exact h (i + 1) (by omega))
    refine ⟨x :: l, by simp [h1], fun j hj => ?_⟩
    cases j with
    | zero => exact hx
    | succ j => rw [show o + (j + 1) * 9 = o + 9 + j * 9 by omega]; exact h2 j (by simpa using hj)
theorem blks_arg {fuel : Nat} {v : Value} {x : DataW H × List MemPlace} (h : DataW.trod enc Tryz.prog w base spare held fuel 37 [v] = some x) : ∃ l : List Blk, BlksM (fun a => w.cell? a) v l := by
  rcases open_rows Tryz.underlying37 cells39 (by omega) h with h0 | ⟨a, len, cap, hcs, hl, hm, hsp, hi⟩
  · injection h0 with h0 _
    subst h0
    exact ⟨[], BlksM.nil _⟩
  · injection hcs with hcs _
    subst hcs
    obtain ⟨l, h1, h2⟩ := each_blks (mem := fun a => w.cell? a) (b := a.block) len a.off (fun i hil => by
      obtain ⟨cs', y, m, hcl, ht, hc⟩ := hi i hil
      exact blk_arg hcl ht hc)
    subst h1
    exact ⟨l, a.block, a.off, ⟨Nat.le_trans hl hm, some a, cap, rfl, hl, hm, fun h0 => by rw [← hsp h0]⟩, h2⟩
set_option maxRecDepth 100000 in
theorem blks_in {b0 : Nat} {v : Value} {d : DataW H} {p : List MemPlace} (hv : Value.okWide Tryz.prog W .any b0 37 v) (h : DataW.Trod enc Tryz.prog W 0 (fun _ => true) true 37 v d p) : ∃ l : List Blk, BlksM (fun a => W.cell? a) v l := by
  obtain ⟨a, len, cap, rfl⟩ := okWide_slice Tryz.underlying37 hv
  obtain ⟨fuel, h⟩ := h
  exact blks_arg h
end
end Go.Proofs.YtdkkhmjlamkgdaaGreatDoor
/-
  WHAT IS PROVED HERE: lists of lists of blocks in memory that is only read. No condition.
-/
namespace Go.Proofs.YtdkkhmjlamkgdaaGreatDoor
open Go.RowKit Mg Go.Shelf

def BlkssM (mem : Addr → Option Value) (v : Value) (ls : List (List Blk)) : Prop := SlM 1 (fun l b o => ∃ u, mem ⟨b, o, none⟩ = some u ∧ BlksM mem u l) v ls
end Go.Proofs.YtdkkhmjlamkgdaaGreatDoor
/-
  WHAT IS PROVED HERE: an argument that reads as a list of facts, or as a block, lies in memory as the walks want it (printed by tools/argf.py). No condition.
-/
namespace Go.Proofs.YtdkkhmjlamkgdaaGreatDoor
open Go.ChangeShapes Go.WideShapes Go.RowKit Go.Deep Mg

section
variable {H : Type} {enc : TypeId × Value → H} {w W : World} {base : Nat} {spare : Nat → Bool} {held : Bool}
theorem cellsSS : Tryz.prog.cellsOf 30 = 1 := by kernel_rfl
theorem cellsBB : Tryz.prog.cellsOf 37 = 1 := by kernel_rfl
theorem cellsFF : Tryz.prog.cellsOf 50 = 23 := by kernel_rfl
theorem each_strs {mem : Addr → Option Value} {b : Nat} : ∀ (n o : Nat), (∀ i, i < n → ∃ x : ByteArray, mem ⟨b, o + i, none⟩ = some (.string x) ∧ x.size ≤ maxLen) → ∃ l : List ByteArray, l.length = n ∧ (∀ s ∈ l, s.size ≤ maxLen) ∧ ∀ j (h : j < l.length), mem ⟨b, o + j, none⟩ = some (.string l[j])
  | 0, o, _ => ⟨[], rfl, (fun s h => by cases h), fun j h => absurd h (by simp)⟩
  | n + 1, o, h => by
    obtain ⟨x, hx, hx2⟩ := h 0 (by omega)
    obtain ⟨l, h1, h3, h2⟩ := each_strs n (o + 1) (fun i hi => by rw [show o + 1 + i = o + (i + 1) by omega]; exact h (i + 1) (by omega))
    refine ⟨x :: l, by simp [h1], fun s hs => ?_, fun j hj => ?_⟩
    · rcases List.mem_cons.1 hs with rfl | hs
      · exact hx2
      · exact h3 s hs
    cases j with
    | zero => exact hx
    | succ j => rw [show o + (j + 1) = o + 1 + j by omega]; exact h2 j (by simpa using hj)
theorem strs_arg {fuel : Nat} {v : Value} {x : DataW H × List MemPlace} (h : DataW.trod enc Tryz.prog w base spare held fuel 30 [v] = some x) : ∃ l : List ByteArray, StrsM (fun a => w.cell? a) v l := by
  rcases open_rows Tryz.underlying30 cells9 (by omega) h with h0 | ⟨a, len, cap, hcs, hl, hm, hsp, hi⟩
  · injection h0 with h0 _
    subst h0
    exact ⟨[], StrsM.nil _⟩
  · injection hcs with hcs _
    subst hcs
    obtain ⟨l, h1, h3, h2⟩ := each_strs (mem := fun a => w.cell? a) (b := a.block) len a.off (fun i hil => by
      obtain ⟨cs', y, m, hcl, ht, hc⟩ := hi i hil
      match cs', hcl with
      | [u], _ =>
        obtain ⟨n, rfl, hn⟩ := string_arg ht
        have := hc 0 (by simp)
        exact ⟨n, by simpa using this, hn⟩)
    subst h1
    exact ⟨l, a.block, a.off, ⟨Nat.le_trans hl hm, some a, cap, rfl, hl, hm, fun h0 => by rw [← hsp h0]⟩, h3, h2⟩
theorem oneFF : ∃ fs, Tryz.prog.underlying 50 = some (.struct fs) ∧ (fs.map (·.type)).toList = [3, 3, 3, 3, 9, 3, 3, 9, 9, 30, 37, 48, 3, 3, 3, 9, 9, 3, 3, 3] ∧ (fs.map (·.offset)).toList = [0, 1, 2, 3, 4, 5, 6, 7, 8, 9, 10, 11, 15, 16, 17, 18, 19, 20, 21, 22] :=
  ⟨_, Tryz.underlying50, by simp, by simp⟩
set_option maxRecDepth 100000 in
set_option maxHeartbeats 1000000 in
theorem fct_arg {fuel : Nat} {cs : List Value} {x : DataW H × List MemPlace} (hl : cs.length = 23) (h : DataW.trod enc Tryz.prog w base spare held fuel 50 cs = some x) : ∃ e : FctE, e.ok (fun a => w.cell? a) ∧ e.cells.toList = cs := by
  obtain ⟨fs, hu, hty, hof⟩ := oneFF
  obtain ⟨m, key⟩ := field_arg hu h
  rw [hty, hof] at key
  match cs, hl with
  | [c0, c1, c2, c3, c4, c5, c6, c7, c8, c9, c10, c11, c12, c13, c14, c15, c16, c17, c18, c19, c20, c21, c22], _ =>
    obtain ⟨y0, t0⟩ := key 0 3 0 rfl rfl
    rw [cells3] at t0
    obtain ⟨y1, t1⟩ := key 1 3 1 rfl rfl
    rw [cells3] at t1
    obtain ⟨y2, t2⟩ := key 2 3 2 rfl rfl
    rw [cells3] at t2
    obtain ⟨y3, t3⟩ := key 3 3 3 rfl rfl
    rw [cells3] at t3
    obtain ⟨y4, t4⟩ := key 4 9 4 rfl rfl
    rw [cells9] at t4
    obtain ⟨y5, t5⟩ := key 5 3 5 rfl rfl
    rw [cells3] at t5
    obtain ⟨y6, t6⟩ := key 6 3 6 rfl rfl
    rw [cells3] at t6
    obtain ⟨y7, t7⟩ := key 7 9 7 rfl rfl
    rw [cells9] at t7
    obtain ⟨y8, t8⟩ := key 8 9 8 rfl rfl
    rw [cells9] at t8
    obtain ⟨y9, t9⟩ := key 9 30 9 rfl rfl
    rw [cellsSS] at t9
    obtain ⟨y10, t10⟩ := key 10 37 10 rfl rfl
    rw [cellsBB] at t10
    obtain ⟨y11, t11⟩ := key 11 48 11 rfl rfl
    rw [cells37] at t11
    obtain ⟨y12, t12⟩ := key 12 3 15 rfl rfl
    rw [cells3] at t12
    obtain ⟨y13, t13⟩ := key 13 3 16 rfl rfl
    rw [cells3] at t13
    obtain ⟨y14, t14⟩ := key 14 3 17 rfl rfl
    rw [cells3] at t14
    obtain ⟨y15, t15⟩ := key 15 9 18 rfl rfl
    rw [cells9] at t15
    obtain ⟨y16, t16⟩ := key 16 9 19 rfl rfl
    rw [cells9] at t16
    obtain ⟨y17, t17⟩ := key 17 3 20 rfl rfl
    rw [cells3] at t17
    obtain ⟨y18, t18⟩ := key 18 3 21 rfl rfl
    rw [cells3] at t18
    obtain ⟨y19, t19⟩ := key 19 3 22 rfl rfl
    rw [cells3] at t19
    obtain ⟨n, rfl, k0⟩ := int_arg (v := c0) t0
    obtain ⟨time, rfl, k1⟩ := int_arg (v := c1) t1
    obtain ⟨kind, rfl, k2⟩ := int_arg (v := c2) t2
    obtain ⟨story, rfl, k3⟩ := int_arg (v := c3) t3
    obtain ⟨lang, rfl, k4⟩ := string_arg (v := c4) t4
    obtain ⟨rev, rfl, k5⟩ := int_arg (v := c5) t5
    obtain ⟨base, rfl, k6⟩ := int_arg (v := c6) t6
    obtain ⟨title, rfl, k7⟩ := string_arg (v := c7) t7
    obtain ⟨author, rfl, k8⟩ := string_arg (v := c8) t8
    obtain ⟨topics, kt⟩ := strs_arg (v := c9) t9
    obtain ⟨blocks, kb⟩ := blks_arg (v := c10) t10
    obtain ⟨gs, hu', hty', hof'⟩ := one37
    obtain ⟨m', key'⟩ := field_arg hu' t11
    rw [hty', hof'] at key'
    obtain ⟨z0, s0⟩ := key' 0 3 0 rfl rfl
    obtain ⟨z1, s1⟩ := key' 1 46 1 rfl rfl
    obtain ⟨z2, s2⟩ := key' 2 3 2 rfl rfl
    obtain ⟨z3, s3⟩ := key' 3 3 3 rfl rfl
    rw [cells3] at s0 s2 s3
    rw [cells25] at s1
    obtain ⟨ltill, rfl, l0⟩ := int_arg (v := c11) s0
    obtain ⟨after, ka⟩ := ints_arg (v := c12) s1
    obtain ⟨appr, rfl, l2⟩ := int_arg (v := c13) s2
    obtain ⟨den, rfl, l3⟩ := int_arg (v := c14) s3
    obtain ⟨editor, rfl, k12⟩ := int_arg (v := c15) t12
    obtain ⟨block, rfl, k13⟩ := int_arg (v := c16) t13
    obtain ⟨sentence, rfl, k14⟩ := int_arg (v := c17) t14
    obtain ⟨text, rfl, k15⟩ := string_arg (v := c18) t15
    obtain ⟨name, rfl, k16⟩ := string_arg (v := c19) t16
    obtain ⟨partner, rfl, k17⟩ := int_arg (v := c20) t17
    obtain ⟨cls, rfl, k18⟩ := int_arg (v := c21) t18
    obtain ⟨till, rfl, k19⟩ := int_arg (v := c22) t19
    obtain ⟨ta, tc, rfl⟩ := kt.slice
    obtain ⟨ba, bc, rfl⟩ := kb.slice
    obtain ⟨aa, ac, rfl⟩ := ka.slice
    exact ⟨⟨⟨n, time, kind, story, lang, rev, base, title, author, topics, blocks, ⟨ltill, after, appr, den⟩, editor, block, sentence, text, name, partner, cls, till⟩, ta, tc, ba, bc, aa, ac⟩, ⟨⟨k0, k1, k2, k3, k4, k5, k6, k7, k8, l0, l2, l3, k12, k13, k14, k15, k16, k17, k18, k19, blks_ok kb⟩, kt, kb, ka⟩, rfl⟩
theorem each_fct {mem : Addr → Option Value} {b : Nat} : ∀ (n o : Nat), (∀ i, i < n → ∃ y : FctE, y.ok mem ∧ y.at mem b (o + i * 23)) → ∃ l : List FctE, l.length = n ∧ ∀ j (h : j < l.length), l[j].ok mem ∧ l[j].at mem b (o + j * 23)
  | 0, o, _ => ⟨[], rfl, fun j h => absurd h (by simp)⟩
  | n + 1, o, h => by
    obtain ⟨x, hx⟩ := h 0 (by omega)
    obtain ⟨l, h1, h2⟩ := each_fct n (o + 23) (fun i hi => by rw [show o + 23 + i * 23 = o + (i + 1) * 23 by omega]; exact h (i + 1) (by omega))
    refine ⟨x :: l, by simp [h1], fun j hj => ?_⟩
    cases j with
    | zero => exact hx
    | succ j => rw [show o + (j + 1) * 23 = o + 23 + j * 23 by omega]; exact h2 j (by simpa using hj)
set_option maxRecDepth 100000 in
theorem facts_in {b0 : Nat} {v : Value} {d : DataW H} {p : List MemPlace} (hv : Value.okWide Tryz.prog W .any b0 22 v) (h : DataW.Trod enc Tryz.prog W 0 (fun _ => true) true 22 v d p) : ∃ l : List FctE, EsM (fun a => W.cell? a) v l := by
  obtain ⟨a, len, cap, rfl⟩ := okWide_slice Tryz.underlying22 hv
  obtain ⟨fuel, h⟩ := h
  rcases open_rows Tryz.underlying22 cellsFF (by omega) h with h0 | ⟨a, len, cap, hcs, hl, hm, hsp, hi⟩
  · injection h0 with h0 _
    rw [h0]
    exact ⟨[], 0, 0, sliceNil, fun j hj => absurd hj (by simp)⟩
  · injection hcs with hcs _
    rw [hcs]
    obtain ⟨l, h1, h2⟩ := each_fct (mem := fun a => W.cell? a) (b := a.block) len a.off (fun i hil => by
      obtain ⟨cs', y, m, hcl, ht, hc⟩ := hi i hil
      obtain ⟨e, he, hec⟩ := fct_arg hcl ht
      refine ⟨e, he, fun j u hj => ?_⟩
      subst hec
      have hj2 := (Array.getElem?_eq_some_iff.1 hj).1
      have := hc j (by rw [Array.length_toList]; exact hj2)
      rw [Array.getElem?_eq_getElem hj2] at hj
      rw [Array.getElem_toList] at this
      exact this.trans hj)
    subst h1
    exact ⟨l, a.block, a.off, ⟨Nat.le_trans hl hm, some a, cap, rfl, hl, hm, fun h0 => by rw [← hsp h0]⟩, h2⟩
theorem okI_lit {n : Int} (h : (Lit.int .i64 n).wf = true) : okI n := by
  have e1 : IntKind.i64.min = -9223372036854775808 := by decide
  have e2 : IntKind.i64.max = 9223372036854775807 := by decide
  simp only [Lit.wf, e1, e2, Bool.and_eq_true, decide_eq_true_eq] at h
  exact h
set_option maxRecDepth 100000 in
theorem int_in {b0 : Nat} {v : Value} {d : DataW H} {p : List MemPlace} (hv : Value.okWide Tryz.prog W .any b0 3 v) (h : DataW.Trod enc Tryz.prog W 0 (fun _ => true) true 3 v d p) : ∃ a : Int, v = .int .i64 a ∧ okI a := by
  obtain ⟨n, rfl⟩ := okWide_int Tryz.underlying3 hv
  obtain ⟨fuel, h⟩ := h
  obtain ⟨m, e, hm⟩ := int_arg (v := .int .i64 n) h
  exact ⟨m, e, hm⟩
set_option maxRecDepth 100000 in
theorem fact_in {b0 : Nat} {v : Value} {d : DataW H} {p : List MemPlace} (hv : Value.okWide Tryz.prog W .any b0 50 v) (h : DataW.Trod enc Tryz.prog W 0 (fun _ => true) true 50 v d p) : ∃ e : FctE, v = .agg e.cells ∧ e.ok (fun a => W.cell? a) := by
  obtain ⟨fs, hu, _, _⟩ := oneFF
  obtain ⟨cs, rfl, hcs⟩ := okWide_struct hu hv
  rw [cellsFF] at hcs
  obtain ⟨fuel, h⟩ := h
  obtain ⟨e, he, hec⟩ := fct_arg (cs := cs.toList) (by rw [Array.length_toList]; exact hcs) h
  exact ⟨e, by rw [Array.toList_inj.1 hec], he⟩
set_option maxRecDepth 100000 in
theorem block_in {b0 : Nat} {v : Value} {d : DataW H} {p : List MemPlace} (hv : Value.okWide Tryz.prog W .any b0 58 v) (h : DataW.Trod enc Tryz.prog W 0 (fun _ => true) true 58 v d p) : ∃ x : Blk, BlkV (fun a => W.cell? a) v x := by
  obtain ⟨fs, hu, hty, hof⟩ := one39
  obtain ⟨cs, rfl, hcs⟩ := okWide_struct hu hv
  rw [cells39] at hcs
  obtain ⟨fuel, h⟩ := h
  obtain ⟨m, key⟩ := field_arg hu h
  rw [hty, hof] at key
  obtain ⟨l⟩ := cs
  have hl : l.length = 9 := hcs
  match l, hl with
  | [c0, c1, c2, c3, c4, c5, c6, c7, c8], _ =>
    obtain ⟨y0, t0⟩ := key 0 3 0 rfl rfl
    obtain ⟨y1, t1⟩ := key 1 3 1 rfl rfl
    obtain ⟨y2, t2⟩ := key 2 9 2 rfl rfl
    obtain ⟨y3, t3⟩ := key 3 3 3 rfl rfl
    obtain ⟨y4, t4⟩ := key 4 3 4 rfl rfl
    obtain ⟨y5, t5⟩ := key 5 48 5 rfl rfl
    rw [cells3] at t0 t1 t3 t4
    rw [cells9] at t2
    rw [cells37] at t5
    obtain ⟨gs, hu', hty', hof'⟩ := one37
    obtain ⟨m', key'⟩ := field_arg hu' t5
    rw [hty', hof'] at key'
    obtain ⟨z0, s0⟩ := key' 0 3 0 rfl rfl
    obtain ⟨z1, s1⟩ := key' 1 46 1 rfl rfl
    obtain ⟨z2, s2⟩ := key' 2 3 2 rfl rfl
    obtain ⟨z3, s3⟩ := key' 3 3 3 rfl rfl
    rw [cells3] at s0 s2 s3
    rw [cells25] at s1
    obtain ⟨id, rfl, k0⟩ := int_arg (v := c0) t0
    obtain ⟨kind, rfl, k1⟩ := int_arg (v := c1) t1
    obtain ⟨text, rfl, k2⟩ := string_arg (v := c2) t2
    obtain ⟨story, rfl, _⟩ := int_arg (v := c3) t3
    obtain ⟨ref, rfl, _⟩ := int_arg (v := c4) t4
    obtain ⟨till, rfl, _⟩ := int_arg (v := c5) s0
    obtain ⟨after, ka⟩ := ints_arg (v := c6) s1
    obtain ⟨appr, rfl, _⟩ := int_arg (v := c7) s2
    obtain ⟨den, rfl, _⟩ := int_arg (v := c8) s3
    obtain ⟨aa, ac, rfl⟩ := ka.slice
    exact ⟨⟨id, kind, text, story, ref, ⟨till, after, appr, den⟩⟩, aa, ac, rfl, ka, k2, k1, k0⟩
set_option maxRecDepth 100000 in
theorem string_in {b0 : Nat} {v : Value} {d : DataW H} {p : List MemPlace} (hv : Value.okWide Tryz.prog W .any b0 9 v) (h : DataW.Trod enc Tryz.prog W 0 (fun _ => true) true 9 v d p) : ∃ s : ByteArray, v = .string s ∧ s.size ≤ maxLen := by
  obtain ⟨n, rfl⟩ := okWide_string Tryz.underlying9 hv
  obtain ⟨fuel, h⟩ := h
  exact string_arg (v := .string n) h
theorem cellsII : Tryz.prog.cellsOf 46 = 1 := by kernel_rfl
theorem each_ints2 {mem : Addr → Option Value} {b : Nat} : ∀ (n o : Nat), (∀ i, i < n → ∃ x : Int, mem ⟨b, o + i, none⟩ = some (.int .i64 x) ∧ okI x) → ∃ l : List Int, l.length = n ∧ (∀ s ∈ l, okI s) ∧ ∀ j (h : j < l.length), mem ⟨b, o + j, none⟩ = some (.int .i64 l[j])
  | 0, o, _ => ⟨[], rfl, (fun s h => by cases h), fun j h => absurd h (by simp)⟩
  | n + 1, o, h => by
    obtain ⟨x, hx, hx2⟩ := h 0 (by omega)
    obtain ⟨l, h1, h3, h2⟩ := each_ints2 n (o + 1) (fun i hi => by rw [show o + 1 + i = o + (i + 1) by omega]; exact h (i + 1) (by omega))
    refine ⟨x :: l, by simp [h1], fun s hs => ?_, fun j hj => ?_⟩
    · rcases List.mem_cons.1 hs with rfl | hs
      · exact hx2
      · exact h3 s hs
    cases j with
    | zero => exact hx
    | succ j => rw [show o + (j + 1) = o + 1 + j by omega]; exact h2 j (by simpa using hj)
set_option maxRecDepth 100000 in
theorem ints_in {b0 : Nat} {v : Value} {d : DataW H} {p : List MemPlace} (hv : Value.okWide Tryz.prog W .any b0 46 v) (h : DataW.Trod enc Tryz.prog W 0 (fun _ => true) true 46 v d p) : ∃ l : List Int, IntsM (fun a => W.cell? a) v l ∧ ∀ x ∈ l, okI x := by
  obtain ⟨a, len, cap, rfl⟩ := okWide_slice Tryz.underlying46 hv
  obtain ⟨fuel, h⟩ := h
  rcases open_rows Tryz.underlying46 cells3 (by omega) h with h0 | ⟨a, len, cap, hcs, hl, hm, hsp, hi⟩
  · injection h0 with h0 _
    rw [h0]
    exact ⟨[], IntsM.nil _, fun x hx => by cases hx⟩
  · injection hcs with hcs _
    rw [hcs]
    obtain ⟨l, h1, h3, h2⟩ := each_ints2 (mem := fun a => W.cell? a) (b := a.block) len a.off (fun i hil => by
      obtain ⟨cs', y, m, hcl, ht, hc⟩ := hi i hil
      match cs', hcl with
      | [u], _ =>
        obtain ⟨n, rfl, hn⟩ := int_arg ht
        have := hc 0 (by simp)
        exact ⟨n, by simpa using this, hn⟩)
    subst h1
    exact ⟨l, ⟨a.block, a.off, ⟨Nat.le_trans hl hm, some a, cap, rfl, hl, hm, fun h0 => by rw [← hsp h0]⟩, h2⟩, h3⟩
theorem each_bss {mem : Addr → Option Value} {b : Nat} : ∀ (n o : Nat), (∀ i, i < n → ∃ y : List Blk, ∃ u, mem ⟨b, o + i, none⟩ = some u ∧ BlksM mem u y) → ∃ l : List (List Blk), l.length = n ∧ ∀ j (h : j < l.length), ∃ u, mem ⟨b, o + j * 1, none⟩ = some u ∧ BlksM mem u l[j]
  | 0, o, _ => ⟨[], rfl, fun j h => absurd h (by simp)⟩
  | n + 1, o, h => by
    obtain ⟨x, hx⟩ := h 0 (by omega)
    obtain ⟨l, h1, h2⟩ := each_bss n (o + 1) (fun i hi => by rw [show o + 1 + i = o + (i + 1) by omega]; exact h (i + 1) (by omega))
    refine ⟨x :: l, by simp [h1], fun j hj => ?_⟩
    cases j with
    | zero => exact hx
    | succ j => rw [show o + (j + 1) * 1 = o + 1 + j * 1 by omega]; exact h2 j (by simpa using hj)
set_option maxRecDepth 100000 in
theorem blkss_in {b0 : Nat} {v : Value} {d : DataW H} {p : List MemPlace} (hv : Value.okWide Tryz.prog W .any b0 65 v) (h : DataW.Trod enc Tryz.prog W 0 (fun _ => true) true 65 v d p) : ∃ l : List (List Blk), BlkssM (fun a => W.cell? a) v l := by
  obtain ⟨a, len, cap, rfl⟩ := okWide_slice Tryz.underlying65 hv
  obtain ⟨fuel, h⟩ := h
  rcases open_rows Tryz.underlying65 cellsBB (by omega) h with h0 | ⟨a, len, cap, hcs, hl, hm, hsp, hi⟩
  · injection h0 with h0 _
    rw [h0]
    exact ⟨[], SlM.nil _ _⟩
  · injection hcs with hcs _
    rw [hcs]
    obtain ⟨l, h1, h2⟩ := each_bss (mem := fun a => W.cell? a) (b := a.block) len a.off (fun i hil => by
      obtain ⟨cs', y, m, hcl, ht, hc⟩ := hi i hil
      match cs', hcl with
      | [u], _ =>
        obtain ⟨l, hl⟩ := blks_arg ht
        have := hc 0 (by simp)
        exact ⟨l, u, by simpa using this, hl⟩)
    subst h1
    exact ⟨l, a.block, a.off, ⟨Nat.le_trans hl hm, some a, cap, rfl, hl, hm, fun h0 => by rw [← hsp h0]⟩, h2⟩
set_option maxRecDepth 100000 in
theorem bool_in {b0 : Nat} {v : Value} (hv : Value.okWide Tryz.prog W .any b0 4 v) : ∃ b : Bool, v = .bool b := okWide_bool Tryz.underlying4 hv
end
end Go.Proofs.YtdkkhmjlamkgdaaGreatDoor
/-
  WHAT IS PROVED HERE: what the rows of this seat list holds in memory, a world for the witness, and the last step of a law's row. No condition.
-/
namespace Go.Proofs.YtdkkhmjlamkgdaaGreatDoor
open Go.ChangeShapes Go.WideShapes Go.ChangeAt Go.RowKit Go.ChangeMaps Go.Deep
section
variable {H : Type} {enc : TypeId × Value → H} {P : Program}
theorem post_of_below {f : Func} {s : ChangeSpec} {apart fresh handsOn again : Bool} {W W' : World} {args : Array Value} {v : Value} {ds gs : List (DataW H)} {before pa pv : List MemPlace}
    (hW : DataW.Whole enc P f.params.toList s.vars apart W args.toList ds gs before)
    (hres : ∀ (b : Nat) (sp : Nat → Bool) (hd : Bool), DataW.TrodAll enc P W' b sp hd f.resultTypes.toList (v.resultList f.resultTypes.size) (s.fn H (ds ++ gs)).results [])
    (hargs : ∀ sp : Nat → Bool, (∀ p ∈ before, sp p.block = true) → DataW.TrodAll enc P W' 0 sp true f.params.toList args.toList (s.fn H (ds ++ gs)).args pa)
    (hvars : ∀ sp : Nat → Bool, (∀ p ∈ before, sp p.block = true) → DataW.TrodVars enc P W' sp s.vars (s.fn H (ds ++ gs)).vars pv)
    (hps : before = pa ++ pv) (hb : Below W.heap.size W W')
    (hok : ∀ (j : Nat) (t : TypeId) (r : Value), f.resultTypes[j]? = some t → (v.resultList f.resultTypes.size)[j]? = some r → Value.okWide P W' .any 0 t r) :
    s.post enc P f apart fresh handsOn again W args v W' := by
  have hlt : ∀ p ∈ before, p.block < W.heap.size := fun p hp => hW.lt p hp
  have hold : ∀ p ∈ before, (fun b => decide (b < W.heap.size)) p.block = true := fun p hp => by simpa using hlt p hp
  refine ⟨ds, gs, before, [], pa, pv, hW, hres _ _ _, hargs _ hold, hvars _ hold, World.keptBut_mono (fun p hp => ⟨hp, ?_⟩) (hb.frame (· ∈ before)), fun _ => ?_⟩
  · rw [hps, List.mem_append] at hp
    exact Or.inr hp
  · obtain ⟨_, _, _, _, _, hz, hn⟩ := hW
    refine ⟨hok, _, _, ([] ++ pa) ++ pv, ⟨[] ++ pa, pv, trodAll_append (hargs _ (fun _ _ => rfl)) (hres _ _ _), hvars _ (fun _ _ => rfl), rfl, ?_, ?_⟩, ?_⟩
    · intro b off hp
      have hin : MemPlace.cell b off ∈ before := by rw [hps]; simpa using hp
      rw [hb.frozen (hlt _ hin)]
      exact hz b off hin
    · intro ha
      have := hn ha
      rw [hps] at this
      simpa using this
    · intro p hp _
      rw [hps]
      simpa using hp
end

theorem own : ownKnob Tryz.prog.godebug = none := by kernel_rfl
/-- what the rows of this seat list -/
def laidAll : List (String × DataW Unit) := Rows.stateSortedRow.laid
noncomputable def lit1 : DataW Unit → List Value
  | .lit (.int k n) => [.int k n]
  | .agg ps => ps.flatMap fun
    | .lit (.int k n) => [.int k n]
    | _ => []
  | _ => []
noncomputable def lit2 : DataW Unit → List Value
  | .agg ps => ps.flatMap lit1
  | _ => []
noncomputable def layIn (h : Array Obj) (x : String × DataW Unit) : Array Obj :=
  match Tryz.prog.globalNamed x.1 with
  | some g => h.modify g (fun o => match o with
    | .cells _ t _ => .cells (lit2 x.2).toArray t (0, 0)
    | o => o)
  | none => h
/-- a world for the witness: the settled one, each listed table holding what the row lists -/
noncomputable def laidWorld (os : Os) : World :=
  { World.holding Tryz.prog os ⟨#[], #[], []⟩ with heap := laidAll.foldl layIn (World.holding Tryz.prog os ⟨#[], #[], []⟩).heap }
theorem laidOut : laidOutB Tryz.prog = true := by kernel_rfl
theorem trodAll_stays {H : Type} {enc : TypeId × Value → H} {W W' : World} (hb : Below W.heap.size W W') (sp : Nat → Bool) : ∀ {ts : List TypeId} {vs : List Value} {ds : List (DataW H)} {ps : List MemPlace},
    (∀ t ∈ ts, Tryz.prog.readableRec t = true ∧ t < Tryz.prog.types.size) → DataW.TrodAll enc Tryz.prog W 0 (fun _ => true) true ts vs ds ps → (∀ p ∈ ps, p.block < W.heap.size) → (∀ p ∈ ps, sp p.block = true) →
    DataW.TrodAll enc Tryz.prog W' 0 sp true ts vs ds ps
  | [], [], [], _, _, h, _, _ => h
  | t :: ts, v :: vs, d :: ds, _, hr, h, hlt, hsp => by
    obtain ⟨p, q, h1, h2, rfl⟩ := h
    refine ⟨p, q, WideElems.Trod_stays laidOut (hr t (by simp)).1 (hr t (by simp)).2 h1 (fun x hx => hb.same (hlt x (by simp [hx]))) (fun x hx => hsp x (by simp [hx])), ?_, rfl⟩
    exact trodAll_stays hb sp (fun t ht => hr t (by simp [ht])) h2 (fun x hx => hlt x (by simp [hx])) (fun x hx => hsp x (by simp [hx]))
  | [], _ :: _, _, _, _, h, _, _ => h.elim
  | [], [], _ :: _, _, _, h, _, _ => h.elim
  | _ :: _, [], _, _, _, h, _, _ => h.elim
  | _ :: _, _ :: _, [], _, _, h, _, _ => h.elim
set_option maxRecDepth 100000 in
theorem close_law {H : Type} {enc : TypeId × Value → H} {f : Func} {s : ChangeSpec} {W W' : World} {args : Array Value} {ds gs : List (DataW H)} {before : List MemPlace}
    (hW : DataW.Whole enc Tryz.prog f.params.toList s.vars false W args.toList ds gs before) (hv : s.vars = []) (hres : f.resultTypes = #[4])
    (hspec : (s.fn H ds).results = [.lit (.bool true)] ∧ (s.fn H ds).args = ds ∧ (s.fn H ds).vars = []) (hread : ∀ t ∈ f.params.toList, Tryz.prog.readableRec t = true ∧ t < Tryz.prog.types.size) (hb : Below W.heap.size W W') :
    s.post enc Tryz.prog f false true false false W args (.bool true) W' := by
  have hW2 := hW
  obtain ⟨p, q, hA, hV, rfl, _, _⟩ := hW
  rw [hv] at hV
  obtain ⟨rfl, rfl⟩ := trodVars_none hV
  obtain ⟨s1, s2, s3⟩ := hspec
  have hlt := hW2.lt
  refine post_of_below (pa := p) (pv := []) hW2 (fun _ _ _ => ?_) (fun sp hsp => ?_) (fun _ _ => ?_) rfl hb ?_
  · rw [List.append_nil, s1, hres]
    exact trodAll_cons_mk (shut_bool Tryz.underlying4 _) trodAll_mk0
  · rw [List.append_nil, s2]
    exact trodAll_stays hb sp hread hA (fun x hx => hlt x (by simp [hx])) (fun x hx => hsp x (by simp [hx]))
  · rw [List.append_nil, s3, hv]
    exact rfl
  · exact ok_one hres rfl (okWide_bool_mk Tryz.underlying4 _)

/-- what a row's closed cells ask besides what is shown apart -/
def joinedRest (P : Program) (fn : Func) (s : ChangeSpec) (c : OpenClaim) : Bool :=
  c.wf (OpenSpec.ofChange s) && laidOutB P && mapsRowed P &&
  fn.params.all (P.readableRec ·) && namedTie P c.named s.vars &&
  (c.stops == []) && (P.stops == []) && (c.knobs == []) && (P.stopKnobs == []) &&
  (c.maps == (fn.params.toList ++ s.plain.varTypes P).any (P.mapsRec ·)) && (c.ifaces == (fn.params.toList ++ s.plain.varTypes P).any (P.ifacesRec ·)) && (c.mapsOut == P.mapsAmong fn.resultTypes.toList) &&
  (c.loops == (fn.params.toList ++ s.plain.varTypes P).any (P.loopsFrom ·)) && (c.wideKeys == (fn.params.toList ++ s.plain.varTypes P ++ fn.resultTypes.toList).any (P.wideKeysFrom ·)) &&
  s.vars.all (P.varReadable ·) && fn.resultTypes.all (fun t => P.readableRec t && decide (t < P.types.size)) && (c.ifacesOut == fn.resultTypes.toList.any (P.ifacesRec ·)) && (c.loopsOut == fn.resultTypes.toList.any (P.loopsFrom ·)) && (c.plainKeys == P.plainKeys) && c.shortTexts.isNone && (c.kinds == (if c.domain.isEmpty then [] else fn.params.toList.map fun t => match P.underlying t with | some (.int k) => some k | _ => none)) && (c.pinned == c.pinnedBy) &&
  (c.veiled == (fn.params.toList ++ s.plain.varTypes P ++ fn.resultTypes.toList).any (P.veiledRec ·)) && c.veiledFits P fn.params.toList (fn.params.toList ++ s.plain.varTypes P ++ fn.resultTypes.toList)
theorem joined_of {P : Program} {f : FuncId} {fn : Func} {s : ChangeSpec} {c : OpenClaim} (p1 : (c.inPlace == P.inPlace f) = true) (p2 : (c.unfollowed == P.unfollowed f) = true) (p3 : (c.recurses == P.recurses f) = true) (p4 : (c.named == P.varsNamed f) = true)
    (p5 : P.stopsHeard = true) (p6 : P.mayEnter = true) (p7 : (c.lifted == P.liftsFinal) = true) (p8 : (P.make == some c.make) = true) (hr : joinedRest P fn s c = true) : joinedFacts P f fn s c = true := by
  unfold joinedRest at hr
  unfold joinedFacts
  rw [p1, p2, p3, p4, p5, p6, p7, p8]
  simp only [Bool.and_true, Bool.and_assoc] at hr ⊢
  exact hr
theorem pr_heard : Tryz.prog.stopsHeard = true := by kernel_rfl
theorem pr_enter : Tryz.prog.mayEnter = true := by kernel_rfl
theorem pr_lifts : (Rows.stateSortedRow.lifted == Tryz.prog.liftsFinal) = true := by kernel_rfl
theorem pr_make : (Tryz.prog.make == some Rows.stateSortedRow.make) = true := by kernel_rfl

end Go.Proofs.YtdkkhmjlamkgdaaGreatDoor

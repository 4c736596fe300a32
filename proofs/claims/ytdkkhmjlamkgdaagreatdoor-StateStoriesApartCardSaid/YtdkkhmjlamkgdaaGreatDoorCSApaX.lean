/-
  WHAT IS PROVED HERE: a law returns true and leaves its arguments as they were, for all arguments (5 texts joined). Conditions: those of the card.
-/
import Derived.Test.YtdkkhmjlamkgdaaGreatDoorBn6
import Derived.Laws.StructEq
/-
  WHAT IS PROVED HERE: the walks of slices.Equal at strings, of state.sameEdition and of slices.EqualFunc at editions (printed by tools/sxa.py). No condition.
-/
namespace Go.Proofs.YtdkkhmjlamkgdaaGreatDoor
open Go.RowKit Mg Go.Shelf Go.Maps

set_option maxHeartbeats 1000000 in
theorem eqStrs_any {mem : Addr → Option Value} {v u : Value} {l m : List ByteArray} (h1 : StrsM mem v l) (h2 : StrsM mem u m) (w : World) (hs : Sees mem w) :
    Calls Tryz.prog 87 #[v, u] w fun e w' => e = .returned (.bool (decide (l = m))) ∧ Below w.heap.size w w' := by
  obtain ⟨ao, cap, b, o, rfl, hcap, hm, hao, _, hcells⟩ := h1.open_ hs
  obtain ⟨ao2, cap2, b2, o2, rfl, hcap2, hm2, hao2, _, hcells2⟩ := h2.open_ hs
  have HA := Lib.hid hao
  have HA2 := Lib.hid hao2
  have HC := Lib.hid hcells
  have HC2 := Lib.hid hcells2
  have hlen : (l.length : Int) ≤ 9223372036854775807 := by unfold maxLen at hm; omega
  have hlen2 : (m.length : Int) ≤ 9223372036854775807 := by unfold maxLen at hm2; omega
  clear hao hao2 hcells hcells2 hs h1 h2 hcap hcap2 hm hm2
  by_cases hl : l.length = m.length
  · have HL := Lib.hid hl
    rw [← hl]
    clear hl
    go_enter Tryz.func87, Tryz.ntmps87
    go_wp2_with fail
    go_loopw [13] (fun i wr => ∃ k : Nat, k ≤ l.length ∧ i = .int .i64 k ∧ Below w.heap.size w wr ∧ Hid (l.take k = m.take k)) (fun i _ => l.length - (intOf i).toNat)
    case atStart => exact ⟨0, Nat.zero_le _, rfl, Below.refl _ _, Lib.hid rfl⟩
    case round =>
      obtain ⟨k, hk, rfl, hb, ht⟩ := hrel
      by_cases hlt : k < l.length
      · have hlt2 : k < m.length := by rw [← HL.out]; exact hlt
        have c1 := HC.out k hlt
        have c2 := HC2.out k hlt2
        obtain rfl := HA.out (by omega)
        obtain rfl := HA2.out (by omega)
        replace c1 := (hb.cell (p := ⟨b, o + k, none⟩) (World.block_lt_of_cell? w _ c1)).trans c1
        replace c2 := (hb.cell (p := ⟨b2, o2 + k, none⟩) (World.block_lt_of_cell? w _ c2)).trans c2
        have HE : Hid (l[k] = m[k] → l.take (k + 1) = m.take (k + 1)) := Lib.hid (take_step hlt hlt2 ht.out)
        have HN : Hid (l[k] ≠ m[k] → l ≠ m) := Lib.hid (ne_of_get hlt hlt2)
        generalize l[k] = x at *
        generalize m[k] = y at *
        have hk0 : (0 : Int) ≤ k := by omega
        have hk1 : (k : Int) < l.length := by omega
        clear ht hlt2
        by_cases hxy : x = y
        · subst hxy
          have HE2 := Lib.hid (HE.out rfl)
          clear HE
          go_wp2_with fail
          go_quiet (fail)
          go_wp2_with fail
          go_roundw
          case rel => exact ⟨k + 1, by omega, by go_num, below_drewN hb _, HE2⟩
          case measure => simp [intOf]; omega
        · have hne : (x.toList != y.toList) = true := by
            rw [bne_iff_ne]
            intro e
            exact hxy (str_ext (by simpa [ByteArray.toList_eq] using e))
          have hne2 : (x.toList == y.toList) = false := by
            rw [beq_eq_false_iff_ne]
            intro e
            exact hxy (str_ext (by simpa [ByteArray.toList_eq] using e))
          have HNE := Lib.hid hxy
          clear hxy
          go_wp2_with fail
          go_quiet (fail)
          go_wp2_with fail
          go_ret
          exact ⟨ret_bool (by symm; exact decide_eq_false (HN.out HNE.out)), below_drewN hb _⟩
      · have e : k = l.length := by omega
        subst e
        have HF : Hid (l = m) := Lib.hid (eq_full HL.out ht.out)
        go_wp2_with fail
        go_ret
        exact ⟨ret_bool (by symm; exact decide_eq_true HF.out), hb⟩
  · have hne : decide (l.length = m.length) = false := decide_eq_false hl
    have HNE : Hid (l ≠ m) := Lib.hid (fun e => hl (by rw [e]))
    go_enter Tryz.func87, Tryz.ntmps87
    go_wp2_with fail
    all_goals first
      | (go_ret
         exact ⟨ret_bool (by symm; exact decide_eq_false HNE.out), Below.refl _ _⟩)
      | (exfalso; simp_all; done)
theorem cells_in {w w' : World} {b o sz : Nat} {cs : Array Value} (h : ∀ t, t < sz → w.cell? ⟨b, o + t, none⟩ = cs[t]?) (hb : Below w.heap.size w w') (hz : cs.size = sz := by rfl) : ∀ t, t < sz → w'.cell? ⟨b, o + t, none⟩ = cs[t]? := fun t ht => by
  have h1 := h t ht
  rw [Array.getElem?_eq_getElem (by omega)] at h1 ⊢
  exact sees_bel hb _ _ h1
theorem edn_dec (lang : ByteArray) (rev : Int) (title : ByteArray) (blocks : List Blk) (changed : Int) (lang2 : ByteArray) (rev2 : Int) (title2 : ByteArray) (blocks2 : List Blk) (changed2 : Int) : decide ((⟨lang, rev, title, blocks, changed⟩ : EdnF) = ⟨lang2, rev2, title2, blocks2, changed2⟩) =
    (decide (lang = lang2) && (decide (rev = rev2) && (decide (title = title2) && (decide (blocks = blocks2) && decide (changed = changed2))))) := by
  simp only [EdnF.mk.injEq, Bool.decide_and]
theorem sty_dec (id : Int) (author : ByteArray) (topics : List ByteArray) (eds : List EdnF) (pub : Int) (corr : List Corr) (retr taken : Bool) (id2 : Int) (author2 : ByteArray) (topics2 : List ByteArray) (eds2 : List EdnF) (pub2 : Int) (corr2 : List Corr) (retr2 taken2 : Bool) : decide ((⟨id, author, topics, eds, pub, corr, retr, taken⟩ : StyF) = ⟨id2, author2, topics2, eds2, pub2, corr2, retr2, taken2⟩) =
    (decide (id = id2) && (decide (author = author2) && (decide (topics = topics2) && (decide (eds = eds2) && (decide (pub = pub2) && (decide (corr = corr2) && (decide (retr = retr2) && decide (taken = taken2)))))))) := by
  simp only [StyF.mk.injEq, Bool.decide_and]
theorem str_ne {a b : ByteArray} (h : a ≠ b) : (a.toList == b.toList) = false := by
  simp only [beq_eq_false_iff_ne, ne_eq, ByteArray.toList_eq]
  intro e
  exact h (str_ext e)
set_option maxRecDepth 10000 in
set_option maxHeartbeats 4000000 in
theorem sameEdition_any {mem : Addr → Option Value} {v u : Value} {x y : EdnF} (h1 : EdnV mem v x) (h2 : EdnV mem u y) (w : World) (hs : Sees mem w) :
    Calls Tryz.prog 89 #[v, u] w fun e w' => e = .returned (.bool (decide (x = y))) ∧ Below w.heap.size w w' := by
  obtain ⟨_, bv, rfl, hb1⟩ := h1
  obtain ⟨_, bv2, rfl, hb2⟩ := h2
  obtain ⟨lang, rev, title, blocks, changed⟩ := x
  obtain ⟨lang2, rev2, title2, blocks2, changed2⟩ := y
  have HL := Lib.hid (fun W hW => sameList_any hb1 hb2 W hW)
  obtain ⟨ao, cap, rfl⟩ := hb1.slice
  obtain ⟨ao2, cap2, rfl⟩ := hb2.slice
  have HR := Lib.hid (edn_dec lang rev title blocks changed lang2 rev2 title2 blocks2 changed2)
  have HS := Lib.hid hs
  dsimp only at HL ⊢
  clear hb1 hb2 hs
  generalize hn1 : blocks.length = n1 at *
  generalize hn2 : blocks2.length = n2 at *
  clear hn1 hn2
  obtain ⟨W2, hW2⟩ : ∃ W2, W2 = (w.alloc (.cells #[.string lang, .int .i64 rev, .string title, .slice ao n1 cap, .int .i64 changed] 39)).alloc (.cells #[.string lang2, .int .i64 rev2, .string title2, .slice ao2 n2 cap2, .int .i64 changed2] 39) := ⟨_, rfl⟩
  have hB2 : Below w.heap.size w W2 := by rw [hW2]; exact (bel1 w _).alloc (by simp) _
  have HN1 : Hid (W2.heap[w.heap.size]? = some (.cells #[.string lang, .int .i64 rev, .string title, .slice ao n1 cap, .int .i64 changed] 39 (0, 0))) := Lib.hid (by rw [hW2]; exact heap_new1 w _ _)
  have HN2 : Hid (W2.heap[w.heap.size + 1]? = some (.cells #[.string lang2, .int .i64 rev2, .string title2, .slice ao2 n2 cap2, .int .i64 changed2] 39 (0, 0))) := Lib.hid (by
    rw [hW2]
    have := World.alloc_heap_new (w.alloc (.cells #[.string lang, .int .i64 rev, .string title, .slice ao n1 cap, .int .i64 changed] 39)) (.cells #[.string lang2, .int .i64 rev2, .string title2, .slice ao2 n2 cap2, .int .i64 changed2] 39)
    simpa using this)
  have HB2 := Lib.hid hB2
  have HW2 := Lib.hid hW2
  have HS2 := Lib.hid (HS.out.bel hB2)
  clear hB2 hW2
  go_enter Tryz.func89, Tryz.ntmps89
  go_upto_region 1 with fail
  rw [← HW2.out]
  have HB := HB2
  have HSW := HS2
  have HH1 := HN1
  have HH2 := HN2
  clear HB2 HS2 HN1 HN2 HW2
  have p0 : W2.cell? ⟨w.heap.size, 0, none⟩ = some (.string lang) := rowcell HH1.out
  have q0 : W2.cell? ⟨w.heap.size + 1, 0, none⟩ = some (.string lang2) := rowcell HH2.out
  have p1 : W2.cell? ⟨w.heap.size, 1, none⟩ = some (.int .i64 rev) := rowcell HH1.out
  have q1 : W2.cell? ⟨w.heap.size + 1, 1, none⟩ = some (.int .i64 rev2) := rowcell HH2.out
  have p2 : W2.cell? ⟨w.heap.size, 2, none⟩ = some (.string title) := rowcell HH1.out
  have q2 : W2.cell? ⟨w.heap.size + 1, 2, none⟩ = some (.string title2) := rowcell HH2.out
  have p3 : W2.cell? ⟨w.heap.size, 3, none⟩ = some (.slice ao n1 cap) := rowcell HH1.out
  have q3 : W2.cell? ⟨w.heap.size + 1, 3, none⟩ = some (.slice ao2 n2 cap2) := rowcell HH2.out
  have p4 : W2.cell? ⟨w.heap.size, 4, none⟩ = some (.int .i64 changed) := rowcell HH1.out
  have q4 : W2.cell? ⟨w.heap.size + 1, 4, none⟩ = some (.int .i64 changed2) := rowcell HH2.out
  by_cases e0 : lang = lang2
  · subst e0
    by_cases e1 : rev = rev2
    · subst e1
      by_cases e2 : title = title2
      · subst e2
        go_wp2_with fail
        refine (HL.out _ HSW.out).mono ?_
        rintro e w13 ⟨rfl, hb⟩
        have HB := Lib.hid (HB.out.trans (hb.mono HB.out.size))
        have HSW := Lib.hid (HSW.out.bel hb)
        have HH1 := Lib.hid ((hb.block _ (hlt HH1.out)).trans HH1.out)
        have HH2 := Lib.hid ((hb.block _ (hlt HH2.out)).trans HH2.out)
        clear hb p0 q0 p1 q1 p2 q2 p3 q3 p4 q4
        have p0 : w13.cell? ⟨w.heap.size, 0, none⟩ = some (.string lang) := rowcell HH1.out
        have q0 : w13.cell? ⟨w.heap.size + 1, 0, none⟩ = some (.string lang) := rowcell HH2.out
        have p1 : w13.cell? ⟨w.heap.size, 1, none⟩ = some (.int .i64 rev) := rowcell HH1.out
        have q1 : w13.cell? ⟨w.heap.size + 1, 1, none⟩ = some (.int .i64 rev) := rowcell HH2.out
        have p2 : w13.cell? ⟨w.heap.size, 2, none⟩ = some (.string title) := rowcell HH1.out
        have q2 : w13.cell? ⟨w.heap.size + 1, 2, none⟩ = some (.string title) := rowcell HH2.out
        have p3 : w13.cell? ⟨w.heap.size, 3, none⟩ = some (.slice ao n1 cap) := rowcell HH1.out
        have q3 : w13.cell? ⟨w.heap.size + 1, 3, none⟩ = some (.slice ao2 n2 cap2) := rowcell HH2.out
        have p4 : w13.cell? ⟨w.heap.size, 4, none⟩ = some (.int .i64 changed) := rowcell HH1.out
        have q4 : w13.cell? ⟨w.heap.size + 1, 4, none⟩ = some (.int .i64 changed2) := rowcell HH2.out
        have EN : Hid (decide (blocks = blocks2) = false → decide (blocks = blocks2) = false) := Lib.hid (fun h => h)
        have EY : Hid (decide (blocks = blocks2) = true → blocks = blocks2) := Lib.hid of_decide_eq_true
        generalize hq : decide (blocks = blocks2) = q at *
        cases q with
        | false =>
          clear hq EY EN
          have EN := Lib.hid (Eq.refl false)
          go_wp2_with fail
          go_ret
          exact ⟨ret_false (by first | (rw [HR.out]; simp; done) | (simp [EN.out]; done)), HB.out⟩
        | true =>
          clear hq EY EN
          by_cases e4 : changed = changed2
          · subst e4
            go_wp2_with fail
            go_ret
            exact ⟨ret_true (by first | (rw [HR.out]; simp; done) | (simp; done)), HB.out⟩
          · have ne : (changed == changed2) = false := by simpa using e4
            have EN := Lib.hid (decide_eq_false e4)
            clear e4
            go_wp2_with fail
            go_ret
            exact ⟨ret_false (by first | (rw [HR.out]; simp [EN.out]; done) | (simp [EN.out]; done)), HB.out⟩
      · have ne : (title.toList == title2.toList) = false := str_ne e2
        have EN := Lib.hid (decide_eq_false e2)
        clear e2
        go_wp2_with fail
        go_ret
        exact ⟨ret_false (by first | (rw [HR.out]; simp [EN.out]; done) | (simp [EN.out]; done)), HB.out⟩
    · have ne : (rev == rev2) = false := by simpa using e1
      have EN := Lib.hid (decide_eq_false e1)
      clear e1
      go_wp2_with fail
      go_ret
      exact ⟨ret_false (by first | (rw [HR.out]; simp [EN.out]; done) | (simp [EN.out]; done)), HB.out⟩
  · have ne : (lang.toList == lang2.toList) = false := str_ne e0
    have EN := Lib.hid (decide_eq_false e0)
    clear e0
    go_wp2_with fail
    go_ret
    exact ⟨ret_false (by first | (rw [HR.out]; simp [EN.out]; done) | (simp [EN.out]; done)), HB.out⟩
set_option maxRecDepth 10000 in
set_option maxHeartbeats 4000000 in
theorem eqEdns_any {mem : Addr → Option Value} {v u : Value} {l m : List EdnF} (h1 : EdnsM mem v l) (h2 : EdnsM mem u m) (w : World) (hs : Sees mem w) :
    Calls Tryz.prog 88 #[v, u, .func (.func 89) #[] #[]] w fun e w' => e = .returned (.bool (decide (l = m))) ∧ Below w.heap.size w w' := by
  obtain ⟨ao, cap, b, o, rfl, hcap, hm, hao, hblks⟩ := SlM.open_ h1
  obtain ⟨ao2, cap2, b2, o2, rfl, hcap2, hm2, hao2, hblks2⟩ := SlM.open_ h2
  have HA := Lib.hid hao
  have HA2 := Lib.hid hao2
  have HB := Lib.hid hblks
  have HB2 := Lib.hid hblks2
  have HS := Lib.hid hs
  have hlen : (l.length : Int) ≤ 9223372036854775807 := by unfold maxLen at hm; omega
  have hlen2 : (m.length : Int) ≤ 9223372036854775807 := by unfold maxLen at hm2; omega
  clear h1 h2 hao hao2 hblks hblks2 hs hcap hcap2 hm hm2
  by_cases hl : l.length = m.length
  · have HL := Lib.hid hl
    rw [← hl]
    clear hl
    go_enter Tryz.func88, Tryz.ntmps88
    go_wp2_with fail
    go_loopw [17] (fun i wr => ∃ k : Nat, k ≤ l.length ∧ i = .int .i64 k ∧ Below w.heap.size w wr ∧ Hid (l.take k = m.take k)) (fun i _ => l.length - (intOf i).toNat)
    case atStart => exact ⟨0, Nat.zero_le _, rfl, Below.refl _ _, Lib.hid rfl⟩
    case round =>
      obtain ⟨k, hk, rfl, hb, ht⟩ := hrel
      by_cases hlt : k < l.length
      · have hlt2 : k < m.length := by rw [← HL.out]; exact hlt
        obtain rfl := HA.out (by omega)
        obtain rfl := HA2.out (by omega)
        obtain ⟨hok, bv, hcells, hP⟩ := HB.out k hlt
        obtain ⟨hok2, bv2, hcells2, hP2⟩ := HB2.out k hlt2
        have HV1 : Hid (EdnV mem (.agg (ednCells l[k] bv)) l[k]) := Lib.hid ⟨hok, _, rfl, hP⟩
        have HV2 : Hid (EdnV mem (.agg (ednCells m[k] bv2)) m[k]) := Lib.hid ⟨hok2, _, rfl, hP2⟩
        have HD1 := Lib.hid (cells_see (sz := 5) (HS.out.bel hb) hcells rfl)
        have HD2 := Lib.hid (cells_see (sz := 5) (HS.out.bel hb) hcells2 rfl)
        obtain ⟨a1, q1, rfl⟩ := hP.slice
        obtain ⟨a2, q2, rfl⟩ := hP2.slice
        generalize l[k].blocks.length = n1 at *
        generalize m[k].blocks.length = n2 at *
        clear hok hok2 hcells hcells2 hP hP2
        have HE : Hid (l[k] = m[k] → l.take (k + 1) = m.take (k + 1)) := Lib.hid (take_step hlt hlt2 ht.out)
        have HN : Hid (l[k] ≠ m[k] → decide (l = m) = false) := Lib.hid (fun e => decide_eq_false (ne_of_get hlt hlt2 e))
        have hk0 : (0 : Int) ≤ k := by omega
        have hk1 : (k : Int) < l.length := by omega
        generalize l[k] = x at *
        generalize m[k] = y at *
        have HC : Hid (∀ W, Sees mem W → Calls Tryz.prog 89 #[.agg (ednCells x (.slice a1 n1 q1)), .agg (ednCells y (.slice a2 n2 q2))] W fun e w' => e = .returned (.bool (decide (x = y))) ∧ Below W.heap.size W w') :=
          Lib.hid (fun W hW => sameEdition_any HV1.out HV2.out W hW)
        have HC9 : Hid (decide (x = y) = true → x = y) := Lib.hid of_decide_eq_true
        have HC8 : Hid (decide (x = y) = false → x ≠ y) := Lib.hid of_decide_eq_false
        generalize hq : decide (x = y) = q at *
        have HB0 := Lib.hid hb
        clear hq ht hb
        go_upto_region 6 with (first
          | ((with_reducible refine at_sload 39 _ rfl ?_); go_must (refine wpList_smid rfl S_edn _ rfl (by simp [Act.eval]) (ednCells x (.slice a1 n1 q1)) rfl HD1.out ?_))
          | ((with_reducible refine at_sstore 39 _ _ rfl ?_); go_must (refine wpList_snew rfl S_edn _ _ rfl rfl _ _ (ednCells x (.slice a1 n1 q1)) (by simp [Act.eval]) (by simp [Act.eval]) rfl rfl (by simp [Value.oneCell']) ?_)))
        obtain ⟨W4, hW4⟩ : ∃ W4, W4 = wr.alloc (.cells (ednCells x (.slice a1 n1 q1)) 39) := ⟨_, rfl⟩
        rw [← hW4]
        have hb4 : Below wr.heap.size wr W4 := by rw [hW4]; exact bel1 _ _
        have HN4 : Hid (W4.heap[wr.heap.size]? = some (.cells (ednCells x (.slice a1 n1 q1)) 39 (0, 0))) := Lib.hid (by rw [hW4]; exact World.alloc_heap_new _ _)
        have HD3 := Lib.hid (cells_in HD2.out hb4)
        have HB4 := Lib.hid hb4
        clear hW4 hb4
        go_upto_region 7 with (first
          | ((with_reducible refine at_sload 39 _ rfl ?_); go_must (refine wpList_smid rfl S_edn _ rfl (by simp [Act.eval]) (ednCells y (.slice a2 n2 q2)) rfl HD3.out ?_))
          | ((with_reducible refine at_sstore 39 _ _ rfl ?_); go_must (refine wpList_snew rfl S_edn _ _ rfl rfl _ _ (ednCells y (.slice a2 n2 q2)) (by simp [Act.eval]) (by simp [Act.eval]) rfl rfl (by simp [Value.oneCell']) ?_)))
        obtain ⟨W5, hW5⟩ : ∃ W5, W5 = W4.alloc (.cells (ednCells y (.slice a2 n2 q2)) 39) := ⟨_, rfl⟩
        rw [← hW5]
        have hb5 : Below W4.heap.size W4 W5 := by rw [hW5]; exact bel1 _ _
        have HN6 : Hid (W5.heap[W4.heap.size]? = some (.cells (ednCells y (.slice a2 n2 q2)) 39 (0, 0))) := Lib.hid (by rw [hW5]; exact World.alloc_heap_new _ _)
        have HN5 := Lib.hid ((hb5.block _ (Go.Proofs.YtdkkhmjlamkgdaaGreatDoor.hlt HN4.out)).trans HN4.out)
        have HB5 : Hid (Below w.heap.size w W5) := Lib.hid ((HB0.out.trans (HB4.out.mono HB0.out.size)).trans (hb5.mono (Nat.le_trans HB0.out.size HB4.out.size)))
        have HS5 := Lib.hid (HS.out.bel HB5.out)
        clear hW5 hb5
        go_wp2_with (first
          | ((with_reducible refine at_sload 39 (.tmp 8) rfl ?_); go_must (refine wpList_sload rfl S_edn _ rfl (by simp [Act.eval]) (ednCells x (.slice a1 n1 q1)) rfl HN5.out ?_))
          | ((with_reducible refine at_sload 39 (.tmp 9) rfl ?_); go_must (refine wpList_sload rfl S_edn _ rfl (by simp [Act.eval, Act.put]) (ednCells y (.slice a2 n2 q2)) rfl HN6.out ?_)))
        refine (HC.out _ HS5.out).mono ?_
        rintro e w3 ⟨rfl, hb3⟩
        have hB3 : Below w.heap.size w w3 := HB5.out.trans (hb3.mono HB5.out.size)
        clear hb3 HB0
        cases q with
        | true =>
          have HE2 := Lib.hid (HE.out (HC9.out rfl))
          clear HE HN HC9 HC8
          go_wp2_with fail
          go_roundw
          case rel => exact ⟨k + 1, by omega, by go_num, hB3, HE2⟩
          case measure => simp [intOf]; omega
        | false =>
          have HN2 := Lib.hid (HN.out (HC8.out rfl))
          clear HE HN HC9 HC8
          go_wp2_with fail
          go_ret
          exact ⟨ret_false HN2.out, hB3⟩
      · have e : k = l.length := by omega
        subst e
        have HF : Hid (decide (l = m) = true) := Lib.hid (decide_eq_true (eq_full HL.out ht.out))
        go_wp2_with fail
        go_ret
        exact ⟨ret_true HF.out, hb⟩
  · have HNE : Hid (decide (l = m) = false) := Lib.hid (decide_eq_false (fun e => hl (by rw [e])))
    have hne : decide (l.length = m.length) = false := decide_eq_false hl
    go_enter Tryz.func88, Tryz.ntmps88
    go_wp2_with fail
    all_goals first
      | (go_ret
         exact ⟨ret_false HNE.out, Below.refl _ _⟩)
      | (exfalso; simp_all; done)
end Go.Proofs.YtdkkhmjlamkgdaaGreatDoor
/-
  WHAT IS PROVED HERE: the walks of slices.Equal at corrections, of state.sameStory and of slices.EqualFunc at stories (printed by tools/sxa.py). No condition.
-/
namespace Go.Proofs.YtdkkhmjlamkgdaaGreatDoor
open Go.RowKit Mg Go.Shelf Go.Maps

theorem wpStill_value {P : Program} {ops : Array Oper} {w : World} {Q : Act → Prop} {a : Act} {o : Oper} {rest : List Oper} (hg : o.guard = none) (v : Value) (hr : (execOp a.eval o).run P w = .ok (.value v) w) (h : wpStill P ops w Q rest (a.put o.dst v)) : wpStill P ops w Q (o :: rest) a := by
  refine wpStill_step fun K hK => ?_
  rw [if_pos (by simp [Region.wanted, hg])]
  unfold Oper.still
  rw [hr, Oper.stillUpon_value]
  exact hK _ h
theorem S_tpl : StructT Tryz.prog 52 2 := ⟨⟨_, Tryz.underlying52⟩, by kernel_rfl, by decide⟩
theorem toList_iff {a b : ByteArray} : (a.toList = b.toList) ↔ a = b := ⟨fun h => str_ext (by rw [← ByteArray.toList_eq, ← ByteArray.toList_eq]; exact h), fun h => by rw [h]⟩
theorem corrCells_neq (x y : Corr) (W : World) : (binOp .neq 69 (.agg (corrCells x)) (.agg (corrCells y))).run Tryz.prog W = .ok (.bool (!decide (x = y))) W := by
  obtain ⟨a0, a1, a2, a3, a4⟩ := x
  obtain ⟨b0, b1, b2, b3, b4⟩ := y
  rw [run_neq_struct, run_equalIn_agg _ _ _ _ _ (by kernel_rfl) (by kernel_rfl)]
  simp only [Program.fieldsOf, Tryz.underlying69]
  go_simp
  simp only [toList_iff]
  by_cases h0 : a0 = b0 <;> by_cases h1 : a1 = b1 <;> by_cases h2 : a2 = b2 <;> by_cases h3 : a3 = b3 <;> by_cases h4 : a4 = b4 <;> simp [h0, h1, h2, h3, h4]
set_option maxRecDepth 10000 in
set_option maxHeartbeats 1000000 in
theorem eqCorrs_any {mem : Addr → Option Value} {v u : Value} {l m : List Corr} (h1 : CorrsM mem v l) (h2 : CorrsM mem u m) (w : World) (hs : Sees mem w) :
    Calls Tryz.prog 90 #[v, u] w fun e w' => e = .returned (.bool (decide (l = m))) ∧ Below w.heap.size w w' := by
  obtain ⟨ao, cap, b, o, rfl, hcap, hm, hao, hcells⟩ := SlM.open_ h1
  obtain ⟨ao2, cap2, b2, o2, rfl, hcap2, hm2, hao2, hcells2⟩ := SlM.open_ h2
  have HS := Lib.hid hs
  have HA := Lib.hid hao
  have HA2 := Lib.hid hao2
  have HC := Lib.hid hcells
  have HC2 := Lib.hid hcells2
  have hlen : (l.length : Int) ≤ 9223372036854775807 := by unfold maxLen at hm; omega
  have hlen2 : (m.length : Int) ≤ 9223372036854775807 := by unfold maxLen at hm2; omega
  clear hao hao2 hcells hcells2 hs h1 h2 hcap hcap2 hm hm2
  by_cases hl : l.length = m.length
  · have HL := Lib.hid hl
    rw [← hl]
    clear hl
    go_enter Tryz.func90, Tryz.ntmps90
    go_wp2_with fail
    go_loopw [13] (fun i wr => ∃ k : Nat, k ≤ l.length ∧ i = .int .i64 k ∧ Below w.heap.size w wr ∧ Hid (l.take k = m.take k)) (fun i _ => l.length - (intOf i).toNat)
    case atStart => exact ⟨0, Nat.zero_le _, rfl, Below.refl _ _, Lib.hid rfl⟩
    case round =>
      obtain ⟨k, hk, rfl, hb, ht⟩ := hrel
      by_cases hlt : k < l.length
      · have hlt2 : k < m.length := by rw [← HL.out]; exact hlt
        have g1 := cells_see (sz := 5) (HS.out.bel hb) (HC.out k hlt).2 rfl
        have g2 := cells_see (sz := 5) (HS.out.bel hb) (HC2.out k hlt2).2 rfl
        obtain rfl := HA.out (by omega)
        obtain rfl := HA2.out (by omega)
        have HE : Hid (l[k] = m[k] → l.take (k + 1) = m.take (k + 1)) := Lib.hid (take_step hlt hlt2 ht.out)
        have HN : Hid (l[k] ≠ m[k] → l ≠ m) := Lib.hid (ne_of_get hlt hlt2)
        generalize l[k] = x at *
        generalize m[k] = y at *
        have G1 := Lib.hid g1
        have G2 := Lib.hid g2
        clear g1 g2
        have hqr : ∀ W : World, (binOp .neq 69 (.agg (corrCells x)) (.agg (corrCells y))).run Tryz.prog W = .ok (.bool (!decide (x = y))) W := fun W => corrCells_neq x y W
        have hk0 : (0 : Int) ≤ k := by omega
        have hk1 : (k : Int) < l.length := by omega
        clear ht hlt2
        by_cases hxy : x = y
        · have HE2 := Lib.hid (HE.out hxy)
          have hxd : decide (x = y) = true := decide_eq_true hxy
          rw [hxd] at hqr
          clear hxy
          clear HE
          go_wp2_with fail
          refine wp_tail 8 (by kernel_rfl) (by kernel_rfl) ?_
          simp only [List.take_succ_cons, List.take_zero, List.drop_succ_cons, List.drop_zero]
          still_step
          still_step
          still_step
          refine wpStill_value rfl _ (exec_smid S_corr _ rfl (by simp [Act.eval]) (corrCells x) rfl G1.out) ?_
          simp only [Act.put, List.setIfInBounds_toArray, List.set_cons_zero, List.set_cons_succ]
          still_step
          still_step
          still_step
          refine wpStill_value rfl _ (exec_smid S_corr _ rfl (by simp [Act.eval]) (corrCells y) rfl G2.out) ?_
          simp only [Act.put, List.setIfInBounds_toArray, List.set_cons_zero, List.set_cons_succ]
          refine wpStill_nil ?_
          go_wp2_with fail
          go_roundw
          case rel => exact ⟨k + 1, by omega, by go_num, hb.drew, HE2⟩
          case measure => simp [intOf]; omega
        · have hxd : decide (x = y) = false := decide_eq_false hxy
          rw [hxd] at hqr
          have HNE := Lib.hid hxy
          clear hxy
          go_wp2_with fail
          refine wp_tail 8 (by kernel_rfl) (by kernel_rfl) ?_
          simp only [List.take_succ_cons, List.take_zero, List.drop_succ_cons, List.drop_zero]
          still_step
          still_step
          still_step
          refine wpStill_value rfl _ (exec_smid S_corr _ rfl (by simp [Act.eval]) (corrCells x) rfl G1.out) ?_
          simp only [Act.put, List.setIfInBounds_toArray, List.set_cons_zero, List.set_cons_succ]
          still_step
          still_step
          still_step
          refine wpStill_value rfl _ (exec_smid S_corr _ rfl (by simp [Act.eval]) (corrCells y) rfl G2.out) ?_
          simp only [Act.put, List.setIfInBounds_toArray, List.set_cons_zero, List.set_cons_succ]
          refine wpStill_nil ?_
          go_wp2_with fail
          go_ret
          exact ⟨ret_bool (by symm; exact decide_eq_false (HN.out HNE.out)), hb.drew⟩
      · have e : k = l.length := by omega
        subst e
        have HF : Hid (l = m) := Lib.hid (eq_full HL.out ht.out)
        go_wp2_with fail
        go_ret
        exact ⟨ret_bool (by symm; exact decide_eq_true HF.out), hb⟩
  · have hne : decide (l.length = m.length) = false := decide_eq_false hl
    have HNE : Hid (l ≠ m) := Lib.hid (fun e => hl (by rw [e]))
    go_enter Tryz.func90, Tryz.ntmps90
    go_wp2_with fail
    all_goals first
      | (go_ret
         exact ⟨ret_bool (by symm; exact decide_eq_false HNE.out), Below.refl _ _⟩)
      | (exfalso; simp_all; done)
set_option maxRecDepth 10000 in
set_option maxHeartbeats 4000000 in
theorem sameStory_any {mem : Addr → Option Value} {v u : Value} {x y : StyF} (h1 : StyV mem v x) (h2 : StyV mem u y) (w : World) (hs : Sees mem w) :
    Calls Tryz.prog 59 #[v, u] w fun e w' => e = .returned (.bool (decide (x = y))) ∧ Below w.heap.size w w' := by
  obtain ⟨_, tv, ev, cv, rfl, ht1, he1, hc1⟩ := h1
  obtain ⟨_, tv2, ev2, cv2, rfl, ht2, he2, hc2⟩ := h2
  obtain ⟨id, author, topics, eds, pub, corr, retr, taken⟩ := x
  obtain ⟨id2, author2, topics2, eds2, pub2, corr2, retr2, taken2⟩ := y
  have HT := Lib.hid (fun W hW => eqStrs_any ht1 ht2 W hW)
  have HE := Lib.hid (fun W hW => eqEdns_any he1 he2 W hW)
  have HC := Lib.hid (fun W hW => eqCorrs_any hc1 hc2 W hW)
  obtain ⟨ta, tc, rfl⟩ := ht1.slice
  obtain ⟨ta2, tc2, rfl⟩ := ht2.slice
  obtain ⟨ea, ec, rfl⟩ := SlM.slice he1
  obtain ⟨ea2, ec2, rfl⟩ := SlM.slice he2
  obtain ⟨ca, cc, rfl⟩ := SlM.slice hc1
  obtain ⟨ca2, cc2, rfl⟩ := SlM.slice hc2
  have HR := Lib.hid (sty_dec id author topics eds pub corr retr taken id2 author2 topics2 eds2 pub2 corr2 retr2 taken2)
  have HS := Lib.hid hs
  dsimp only at HT HE HC ⊢
  clear ht1 ht2 he1 he2 hc1 hc2 hs
  generalize hn1 : topics.length = n1 at *
  generalize hn2 : topics2.length = n2 at *
  generalize hn3 : eds.length = n3 at *
  generalize hn4 : eds2.length = n4 at *
  generalize hn5 : corr.length = n5 at *
  generalize hn6 : corr2.length = n6 at *
  clear hn1 hn2 hn3 hn4 hn5 hn6
  obtain ⟨W2, hW2⟩ : ∃ W2, W2 = (w.alloc (.cells #[.int .i64 id, .string author, .slice ta n1 tc, .slice ea n3 ec, .int .i64 pub, .slice ca n5 cc, .bool retr, .bool taken] 34)).alloc (.cells #[.int .i64 id2, .string author2, .slice ta2 n2 tc2, .slice ea2 n4 ec2, .int .i64 pub2, .slice ca2 n6 cc2, .bool retr2, .bool taken2] 34) := ⟨_, rfl⟩
  have hB2 : Below w.heap.size w W2 := by rw [hW2]; exact (bel1 w _).alloc (by simp) _
  have HN1 : Hid (W2.heap[w.heap.size]? = some (.cells #[.int .i64 id, .string author, .slice ta n1 tc, .slice ea n3 ec, .int .i64 pub, .slice ca n5 cc, .bool retr, .bool taken] 34 (0, 0))) := Lib.hid (by rw [hW2]; exact heap_new1 w _ _)
  have HN2 : Hid (W2.heap[w.heap.size + 1]? = some (.cells #[.int .i64 id2, .string author2, .slice ta2 n2 tc2, .slice ea2 n4 ec2, .int .i64 pub2, .slice ca2 n6 cc2, .bool retr2, .bool taken2] 34 (0, 0))) := Lib.hid (by
    rw [hW2]
    have := World.alloc_heap_new (w.alloc (.cells #[.int .i64 id, .string author, .slice ta n1 tc, .slice ea n3 ec, .int .i64 pub, .slice ca n5 cc, .bool retr, .bool taken] 34)) (.cells #[.int .i64 id2, .string author2, .slice ta2 n2 tc2, .slice ea2 n4 ec2, .int .i64 pub2, .slice ca2 n6 cc2, .bool retr2, .bool taken2] 34)
    simpa using this)
  have HB2 := Lib.hid hB2
  have HW2 := Lib.hid hW2
  have HS2 := Lib.hid (HS.out.bel hB2)
  clear hB2 hW2
  go_enter Tryz.func59, Tryz.ntmps59
  go_upto_region 1 with fail
  rw [← HW2.out]
  have HB := HB2
  have HSW := HS2
  have HH1 := HN1
  have HH2 := HN2
  clear HB2 HS2 HN1 HN2 HW2
  have p0 : W2.cell? ⟨w.heap.size, 0, none⟩ = some (.int .i64 id) := rowcell HH1.out
  have q0 : W2.cell? ⟨w.heap.size + 1, 0, none⟩ = some (.int .i64 id2) := rowcell HH2.out
  have p1 : W2.cell? ⟨w.heap.size, 1, none⟩ = some (.string author) := rowcell HH1.out
  have q1 : W2.cell? ⟨w.heap.size + 1, 1, none⟩ = some (.string author2) := rowcell HH2.out
  have p2 : W2.cell? ⟨w.heap.size, 2, none⟩ = some (.slice ta n1 tc) := rowcell HH1.out
  have q2 : W2.cell? ⟨w.heap.size + 1, 2, none⟩ = some (.slice ta2 n2 tc2) := rowcell HH2.out
  have p3 : W2.cell? ⟨w.heap.size, 3, none⟩ = some (.slice ea n3 ec) := rowcell HH1.out
  have q3 : W2.cell? ⟨w.heap.size + 1, 3, none⟩ = some (.slice ea2 n4 ec2) := rowcell HH2.out
  have p4 : W2.cell? ⟨w.heap.size, 4, none⟩ = some (.int .i64 pub) := rowcell HH1.out
  have q4 : W2.cell? ⟨w.heap.size + 1, 4, none⟩ = some (.int .i64 pub2) := rowcell HH2.out
  have p5 : W2.cell? ⟨w.heap.size, 5, none⟩ = some (.slice ca n5 cc) := rowcell HH1.out
  have q5 : W2.cell? ⟨w.heap.size + 1, 5, none⟩ = some (.slice ca2 n6 cc2) := rowcell HH2.out
  have p6 : W2.cell? ⟨w.heap.size, 6, none⟩ = some (.bool retr) := rowcell HH1.out
  have q6 : W2.cell? ⟨w.heap.size + 1, 6, none⟩ = some (.bool retr2) := rowcell HH2.out
  have p7 : W2.cell? ⟨w.heap.size, 7, none⟩ = some (.bool taken) := rowcell HH1.out
  have q7 : W2.cell? ⟨w.heap.size + 1, 7, none⟩ = some (.bool taken2) := rowcell HH2.out
  by_cases e0 : id = id2
  · subst e0
    by_cases e1 : author = author2
    · subst e1
      go_wp2_with fail
      refine (HT.out _ HSW.out).mono ?_
      rintro e w12 ⟨rfl, hb⟩
      have HB := Lib.hid (HB.out.trans (hb.mono HB.out.size))
      have HSW := Lib.hid (HSW.out.bel hb)
      have HH1 := Lib.hid ((hb.block _ (hlt HH1.out)).trans HH1.out)
      have HH2 := Lib.hid ((hb.block _ (hlt HH2.out)).trans HH2.out)
      clear hb p0 q0 p1 q1 p2 q2 p3 q3 p4 q4 p5 q5 p6 q6 p7 q7
      have p0 : w12.cell? ⟨w.heap.size, 0, none⟩ = some (.int .i64 id) := rowcell HH1.out
      have q0 : w12.cell? ⟨w.heap.size + 1, 0, none⟩ = some (.int .i64 id) := rowcell HH2.out
      have p1 : w12.cell? ⟨w.heap.size, 1, none⟩ = some (.string author) := rowcell HH1.out
      have q1 : w12.cell? ⟨w.heap.size + 1, 1, none⟩ = some (.string author) := rowcell HH2.out
      have p2 : w12.cell? ⟨w.heap.size, 2, none⟩ = some (.slice ta n1 tc) := rowcell HH1.out
      have q2 : w12.cell? ⟨w.heap.size + 1, 2, none⟩ = some (.slice ta2 n2 tc2) := rowcell HH2.out
      have p3 : w12.cell? ⟨w.heap.size, 3, none⟩ = some (.slice ea n3 ec) := rowcell HH1.out
      have q3 : w12.cell? ⟨w.heap.size + 1, 3, none⟩ = some (.slice ea2 n4 ec2) := rowcell HH2.out
      have p4 : w12.cell? ⟨w.heap.size, 4, none⟩ = some (.int .i64 pub) := rowcell HH1.out
      have q4 : w12.cell? ⟨w.heap.size + 1, 4, none⟩ = some (.int .i64 pub2) := rowcell HH2.out
      have p5 : w12.cell? ⟨w.heap.size, 5, none⟩ = some (.slice ca n5 cc) := rowcell HH1.out
      have q5 : w12.cell? ⟨w.heap.size + 1, 5, none⟩ = some (.slice ca2 n6 cc2) := rowcell HH2.out
      have p6 : w12.cell? ⟨w.heap.size, 6, none⟩ = some (.bool retr) := rowcell HH1.out
      have q6 : w12.cell? ⟨w.heap.size + 1, 6, none⟩ = some (.bool retr2) := rowcell HH2.out
      have p7 : w12.cell? ⟨w.heap.size, 7, none⟩ = some (.bool taken) := rowcell HH1.out
      have q7 : w12.cell? ⟨w.heap.size + 1, 7, none⟩ = some (.bool taken2) := rowcell HH2.out
      have EN : Hid (decide (topics = topics2) = false → decide (topics = topics2) = false) := Lib.hid (fun h => h)
      have EY : Hid (decide (topics = topics2) = true → topics = topics2) := Lib.hid of_decide_eq_true
      generalize hq : decide (topics = topics2) = q at *
      cases q with
      | false =>
        clear hq EY EN
        have EN := Lib.hid (Eq.refl false)
        go_wp2_with fail
        go_ret
        exact ⟨ret_false (by first | (rw [HR.out]; simp; done) | (simp [EN.out]; done)), HB.out⟩
      | true =>
        clear hq EY EN
        go_wp2_with fail
        refine (HE.out _ HSW.out).mono ?_
        rintro e w13 ⟨rfl, hb⟩
        have HB := Lib.hid (HB.out.trans (hb.mono HB.out.size))
        have HSW := Lib.hid (HSW.out.bel hb)
        have HH1 := Lib.hid ((hb.block _ (hlt HH1.out)).trans HH1.out)
        have HH2 := Lib.hid ((hb.block _ (hlt HH2.out)).trans HH2.out)
        clear hb p0 q0 p1 q1 p2 q2 p3 q3 p4 q4 p5 q5 p6 q6 p7 q7
        have p0 : w13.cell? ⟨w.heap.size, 0, none⟩ = some (.int .i64 id) := rowcell HH1.out
        have q0 : w13.cell? ⟨w.heap.size + 1, 0, none⟩ = some (.int .i64 id) := rowcell HH2.out
        have p1 : w13.cell? ⟨w.heap.size, 1, none⟩ = some (.string author) := rowcell HH1.out
        have q1 : w13.cell? ⟨w.heap.size + 1, 1, none⟩ = some (.string author) := rowcell HH2.out
        have p2 : w13.cell? ⟨w.heap.size, 2, none⟩ = some (.slice ta n1 tc) := rowcell HH1.out
        have q2 : w13.cell? ⟨w.heap.size + 1, 2, none⟩ = some (.slice ta2 n2 tc2) := rowcell HH2.out
        have p3 : w13.cell? ⟨w.heap.size, 3, none⟩ = some (.slice ea n3 ec) := rowcell HH1.out
        have q3 : w13.cell? ⟨w.heap.size + 1, 3, none⟩ = some (.slice ea2 n4 ec2) := rowcell HH2.out
        have p4 : w13.cell? ⟨w.heap.size, 4, none⟩ = some (.int .i64 pub) := rowcell HH1.out
        have q4 : w13.cell? ⟨w.heap.size + 1, 4, none⟩ = some (.int .i64 pub2) := rowcell HH2.out
        have p5 : w13.cell? ⟨w.heap.size, 5, none⟩ = some (.slice ca n5 cc) := rowcell HH1.out
        have q5 : w13.cell? ⟨w.heap.size + 1, 5, none⟩ = some (.slice ca2 n6 cc2) := rowcell HH2.out
        have p6 : w13.cell? ⟨w.heap.size, 6, none⟩ = some (.bool retr) := rowcell HH1.out
        have q6 : w13.cell? ⟨w.heap.size + 1, 6, none⟩ = some (.bool retr2) := rowcell HH2.out
        have p7 : w13.cell? ⟨w.heap.size, 7, none⟩ = some (.bool taken) := rowcell HH1.out
        have q7 : w13.cell? ⟨w.heap.size + 1, 7, none⟩ = some (.bool taken2) := rowcell HH2.out
        have EN : Hid (decide (eds = eds2) = false → decide (eds = eds2) = false) := Lib.hid (fun h => h)
        have EY : Hid (decide (eds = eds2) = true → eds = eds2) := Lib.hid of_decide_eq_true
        generalize hq : decide (eds = eds2) = q at *
        cases q with
        | false =>
          clear hq EY EN
          have EN := Lib.hid (Eq.refl false)
          go_wp2_with fail
          go_ret
          exact ⟨ret_false (by first | (rw [HR.out]; simp; done) | (simp [EN.out]; done)), HB.out⟩
        | true =>
          clear hq EY EN
          by_cases e4 : pub = pub2
          · subst e4
            go_wp2_with fail
            refine (HC.out _ HSW.out).mono ?_
            rintro e w15 ⟨rfl, hb⟩
            have HB := Lib.hid (HB.out.trans (hb.mono HB.out.size))
            have HSW := Lib.hid (HSW.out.bel hb)
            have HH1 := Lib.hid ((hb.block _ (hlt HH1.out)).trans HH1.out)
            have HH2 := Lib.hid ((hb.block _ (hlt HH2.out)).trans HH2.out)
            clear hb p0 q0 p1 q1 p2 q2 p3 q3 p4 q4 p5 q5 p6 q6 p7 q7
            have p0 : w15.cell? ⟨w.heap.size, 0, none⟩ = some (.int .i64 id) := rowcell HH1.out
            have q0 : w15.cell? ⟨w.heap.size + 1, 0, none⟩ = some (.int .i64 id) := rowcell HH2.out
            have p1 : w15.cell? ⟨w.heap.size, 1, none⟩ = some (.string author) := rowcell HH1.out
            have q1 : w15.cell? ⟨w.heap.size + 1, 1, none⟩ = some (.string author) := rowcell HH2.out
            have p2 : w15.cell? ⟨w.heap.size, 2, none⟩ = some (.slice ta n1 tc) := rowcell HH1.out
            have q2 : w15.cell? ⟨w.heap.size + 1, 2, none⟩ = some (.slice ta2 n2 tc2) := rowcell HH2.out
            have p3 : w15.cell? ⟨w.heap.size, 3, none⟩ = some (.slice ea n3 ec) := rowcell HH1.out
            have q3 : w15.cell? ⟨w.heap.size + 1, 3, none⟩ = some (.slice ea2 n4 ec2) := rowcell HH2.out
            have p4 : w15.cell? ⟨w.heap.size, 4, none⟩ = some (.int .i64 pub) := rowcell HH1.out
            have q4 : w15.cell? ⟨w.heap.size + 1, 4, none⟩ = some (.int .i64 pub) := rowcell HH2.out
            have p5 : w15.cell? ⟨w.heap.size, 5, none⟩ = some (.slice ca n5 cc) := rowcell HH1.out
            have q5 : w15.cell? ⟨w.heap.size + 1, 5, none⟩ = some (.slice ca2 n6 cc2) := rowcell HH2.out
            have p6 : w15.cell? ⟨w.heap.size, 6, none⟩ = some (.bool retr) := rowcell HH1.out
            have q6 : w15.cell? ⟨w.heap.size + 1, 6, none⟩ = some (.bool retr2) := rowcell HH2.out
            have p7 : w15.cell? ⟨w.heap.size, 7, none⟩ = some (.bool taken) := rowcell HH1.out
            have q7 : w15.cell? ⟨w.heap.size + 1, 7, none⟩ = some (.bool taken2) := rowcell HH2.out
            have EN : Hid (decide (corr = corr2) = false → decide (corr = corr2) = false) := Lib.hid (fun h => h)
            have EY : Hid (decide (corr = corr2) = true → corr = corr2) := Lib.hid of_decide_eq_true
            generalize hq : decide (corr = corr2) = q at *
            cases q with
            | false =>
              clear hq EY EN
              have EN := Lib.hid (Eq.refl false)
              go_wp2_with fail
              go_ret
              exact ⟨ret_false (by first | (rw [HR.out]; simp; done) | (simp [EN.out]; done)), HB.out⟩
            | true =>
              clear hq EY EN
              by_cases e6 : retr = retr2
              · subst e6
                by_cases e7 : taken = taken2
                · subst e7
                  go_wp2_with fail
                  go_ret
                  exact ⟨ret_true (by first | (rw [HR.out]; simp; done) | (simp; done)), HB.out⟩
                · have ne : (taken == taken2) = false := by simpa using e7
                  have EN := Lib.hid (decide_eq_false e7)
                  clear e7
                  go_wp2_with fail
                  go_ret
                  exact ⟨ret_false (by first | (rw [HR.out]; simp [EN.out]; done) | (simp [EN.out]; done)), HB.out⟩
              · have ne : (retr == retr2) = false := by simpa using e6
                have EN := Lib.hid (decide_eq_false e6)
                clear e6
                go_wp2_with fail
                go_ret
                exact ⟨ret_false (by first | (rw [HR.out]; simp [EN.out]; done) | (simp [EN.out]; done)), HB.out⟩
          · have ne : (pub == pub2) = false := by simpa using e4
            have EN := Lib.hid (decide_eq_false e4)
            clear e4
            go_wp2_with fail
            go_ret
            exact ⟨ret_false (by first | (rw [HR.out]; simp [EN.out]; done) | (simp [EN.out]; done)), HB.out⟩
    · have ne : (author.toList == author2.toList) = false := str_ne e1
      have EN := Lib.hid (decide_eq_false e1)
      clear e1
      go_wp2_with fail
      go_ret
      exact ⟨ret_false (by first | (rw [HR.out]; simp [EN.out]; done) | (simp [EN.out]; done)), HB.out⟩
  · have ne : (id == id2) = false := by simpa using e0
    have EN := Lib.hid (decide_eq_false e0)
    clear e0
    go_wp2_with fail
    go_ret
    exact ⟨ret_false (by first | (rw [HR.out]; simp [EN.out]; done) | (simp [EN.out]; done)), HB.out⟩
set_option maxRecDepth 10000 in
set_option maxHeartbeats 4000000 in
theorem eqStys_any {mem : Addr → Option Value} {v u : Value} {l m : List StyF} (h1 : StysM mem v l) (h2 : StysM mem u m) (w : World) (hs : Sees mem w) :
    Calls Tryz.prog 58 #[v, u, .func (.func 59) #[] #[]] w fun e w' => e = .returned (.bool (decide (l = m))) ∧ Below w.heap.size w w' := by
  obtain ⟨ao, cap, b, o, rfl, hcap, hm, hao, hblks⟩ := SlM.open_ h1
  obtain ⟨ao2, cap2, b2, o2, rfl, hcap2, hm2, hao2, hblks2⟩ := SlM.open_ h2
  have HA := Lib.hid hao
  have HA2 := Lib.hid hao2
  have HB := Lib.hid hblks
  have HB2 := Lib.hid hblks2
  have HS := Lib.hid hs
  have hlen : (l.length : Int) ≤ 9223372036854775807 := by unfold maxLen at hm; omega
  have hlen2 : (m.length : Int) ≤ 9223372036854775807 := by unfold maxLen at hm2; omega
  clear h1 h2 hao hao2 hblks hblks2 hs hcap hcap2 hm hm2
  by_cases hl : l.length = m.length
  · have HL := Lib.hid hl
    rw [← hl]
    clear hl
    go_enter Tryz.func58, Tryz.ntmps58
    go_wp2_with fail
    go_loopw [17] (fun i wr => ∃ k : Nat, k ≤ l.length ∧ i = .int .i64 k ∧ Below w.heap.size w wr ∧ Hid (l.take k = m.take k)) (fun i _ => l.length - (intOf i).toNat)
    case atStart => exact ⟨0, Nat.zero_le _, rfl, Below.refl _ _, Lib.hid rfl⟩
    case round =>
      obtain ⟨k, hk, rfl, hb, ht⟩ := hrel
      by_cases hlt : k < l.length
      · have hlt2 : k < m.length := by rw [← HL.out]; exact hlt
        obtain rfl := HA.out (by omega)
        obtain rfl := HA2.out (by omega)
        obtain ⟨hok, tv, ev, cv, hcells, hP⟩ := HB.out k hlt
        obtain ⟨hok2, tv2, ev2, cv2, hcells2, hP2⟩ := HB2.out k hlt2
        have HV1 : Hid (StyV mem (.agg (styCells l[k] tv ev cv)) l[k]) := Lib.hid ⟨hok, _, _, _, rfl, hP⟩
        have HV2 : Hid (StyV mem (.agg (styCells m[k] tv2 ev2 cv2)) m[k]) := Lib.hid ⟨hok2, _, _, _, rfl, hP2⟩
        have HD1 := Lib.hid (cells_see (sz := 8) (HS.out.bel hb) hcells rfl)
        have HD2 := Lib.hid (cells_see (sz := 8) (HS.out.bel hb) hcells2 rfl)
        obtain ⟨t1, t2, e1, e2, c1, c2, rfl, rfl, rfl⟩ := hP.shape
        obtain ⟨t3, t4, e3, e4, c3, c4, rfl, rfl, rfl⟩ := hP2.shape
        generalize l[k].topics.length = n1 at *
        generalize l[k].eds.length = n2 at *
        generalize l[k].corr.length = n3 at *
        generalize m[k].topics.length = n4 at *
        generalize m[k].eds.length = n5 at *
        generalize m[k].corr.length = n6 at *
        clear hok hok2 hcells hcells2 hP hP2
        have HE : Hid (l[k] = m[k] → l.take (k + 1) = m.take (k + 1)) := Lib.hid (take_step hlt hlt2 ht.out)
        have HN : Hid (l[k] ≠ m[k] → decide (l = m) = false) := Lib.hid (fun e => decide_eq_false (ne_of_get hlt hlt2 e))
        have hk0 : (0 : Int) ≤ k := by omega
        have hk1 : (k : Int) < l.length := by omega
        generalize l[k] = x at *
        generalize m[k] = y at *
        have HC : Hid (∀ W, Sees mem W → Calls Tryz.prog 59 #[.agg (styCells x (.slice t1 n1 t2) (.slice e1 n2 e2) (.slice c1 n3 c2)), .agg (styCells y (.slice t3 n4 t4) (.slice e3 n5 e4) (.slice c3 n6 c4))] W fun e w' => e = .returned (.bool (decide (x = y))) ∧ Below W.heap.size W w') :=
          Lib.hid (fun W hW => sameStory_any HV1.out HV2.out W hW)
        have HC9 : Hid (decide (x = y) = true → x = y) := Lib.hid of_decide_eq_true
        have HC8 : Hid (decide (x = y) = false → x ≠ y) := Lib.hid of_decide_eq_false
        generalize hq : decide (x = y) = q at *
        have HB0 := Lib.hid hb
        clear hq ht hb
        go_upto_region 6 with (first
          | ((with_reducible refine at_sload 34 _ rfl ?_); go_must (refine wpList_smid rfl S_sty _ rfl (by simp [Act.eval]) (styCells x (.slice t1 n1 t2) (.slice e1 n2 e2) (.slice c1 n3 c2)) rfl HD1.out ?_))
          | ((with_reducible refine at_sstore 34 _ _ rfl ?_); go_must (refine wpList_snew rfl S_sty _ _ rfl rfl _ _ (styCells x (.slice t1 n1 t2) (.slice e1 n2 e2) (.slice c1 n3 c2)) (by simp [Act.eval]) (by simp [Act.eval]) rfl rfl (by simp [Value.oneCell']) ?_)))
        obtain ⟨W4, hW4⟩ : ∃ W4, W4 = wr.alloc (.cells (styCells x (.slice t1 n1 t2) (.slice e1 n2 e2) (.slice c1 n3 c2)) 34) := ⟨_, rfl⟩
        rw [← hW4]
        have hb4 : Below wr.heap.size wr W4 := by rw [hW4]; exact bel1 _ _
        have HN4 : Hid (W4.heap[wr.heap.size]? = some (.cells (styCells x (.slice t1 n1 t2) (.slice e1 n2 e2) (.slice c1 n3 c2)) 34 (0, 0))) := Lib.hid (by rw [hW4]; exact World.alloc_heap_new _ _)
        have HD3 := Lib.hid (cells_in HD2.out hb4)
        have HB4 := Lib.hid hb4
        clear hW4 hb4
        go_upto_region 7 with (first
          | ((with_reducible refine at_sload 34 _ rfl ?_); go_must (refine wpList_smid rfl S_sty _ rfl (by simp [Act.eval]) (styCells y (.slice t3 n4 t4) (.slice e3 n5 e4) (.slice c3 n6 c4)) rfl HD3.out ?_))
          | ((with_reducible refine at_sstore 34 _ _ rfl ?_); go_must (refine wpList_snew rfl S_sty _ _ rfl rfl _ _ (styCells y (.slice t3 n4 t4) (.slice e3 n5 e4) (.slice c3 n6 c4)) (by simp [Act.eval]) (by simp [Act.eval]) rfl rfl (by simp [Value.oneCell']) ?_)))
        obtain ⟨W5, hW5⟩ : ∃ W5, W5 = W4.alloc (.cells (styCells y (.slice t3 n4 t4) (.slice e3 n5 e4) (.slice c3 n6 c4)) 34) := ⟨_, rfl⟩
        rw [← hW5]
        have hb5 : Below W4.heap.size W4 W5 := by rw [hW5]; exact bel1 _ _
        have HN6 : Hid (W5.heap[W4.heap.size]? = some (.cells (styCells y (.slice t3 n4 t4) (.slice e3 n5 e4) (.slice c3 n6 c4)) 34 (0, 0))) := Lib.hid (by rw [hW5]; exact World.alloc_heap_new _ _)
        have HN5 := Lib.hid ((hb5.block _ (Go.Proofs.YtdkkhmjlamkgdaaGreatDoor.hlt HN4.out)).trans HN4.out)
        have HB5 : Hid (Below w.heap.size w W5) := Lib.hid ((HB0.out.trans (HB4.out.mono HB0.out.size)).trans (hb5.mono (Nat.le_trans HB0.out.size HB4.out.size)))
        have HS5 := Lib.hid (HS.out.bel HB5.out)
        clear hW5 hb5
        go_wp2_with (first
          | ((with_reducible refine at_sload 34 (.tmp 8) rfl ?_); go_must (refine wpList_sload rfl S_sty _ rfl (by simp [Act.eval]) (styCells x (.slice t1 n1 t2) (.slice e1 n2 e2) (.slice c1 n3 c2)) rfl HN5.out ?_))
          | ((with_reducible refine at_sload 34 (.tmp 9) rfl ?_); go_must (refine wpList_sload rfl S_sty _ rfl (by simp [Act.eval, Act.put]) (styCells y (.slice t3 n4 t4) (.slice e3 n5 e4) (.slice c3 n6 c4)) rfl HN6.out ?_)))
        refine (HC.out _ HS5.out).mono ?_
        rintro e w3 ⟨rfl, hb3⟩
        have hB3 : Below w.heap.size w w3 := HB5.out.trans (hb3.mono HB5.out.size)
        clear hb3 HB0
        cases q with
        | true =>
          have HE2 := Lib.hid (HE.out (HC9.out rfl))
          clear HE HN HC9 HC8
          go_wp2_with fail
          go_roundw
          case rel => exact ⟨k + 1, by omega, by go_num, hB3, HE2⟩
          case measure => simp [intOf]; omega
        | false =>
          have HN2 := Lib.hid (HN.out (HC8.out rfl))
          clear HE HN HC9 HC8
          go_wp2_with fail
          go_ret
          exact ⟨ret_false HN2.out, hB3⟩
      · have e : k = l.length := by omega
        subst e
        have HF : Hid (decide (l = m) = true) := Lib.hid (decide_eq_true (eq_full HL.out ht.out))
        go_wp2_with fail
        go_ret
        exact ⟨ret_true HF.out, hb⟩
  · have HNE : Hid (decide (l = m) = false) := Lib.hid (decide_eq_false (fun e => hl (by rw [e])))
    have hne : decide (l.length = m.length) = false := decide_eq_false hl
    go_enter Tryz.func58, Tryz.ntmps58
    go_wp2_with fail
    all_goals first
      | (go_ret
         exact ⟨ret_false HNE.out, Below.refl _ _⟩)
      | (exfalso; simp_all; done)
end Go.Proofs.YtdkkhmjlamkgdaaGreatDoor
/-
  WHAT IS PROVED HERE: the walks of slices.Equal at templates and of state.Same (printed by tools/sxa.py). No condition.
-/
namespace Go.Proofs.YtdkkhmjlamkgdaaGreatDoor
open Go.RowKit Mg Go.Shelf Go.Maps

theorem tplCells_neq (x y : TplF) (W : World) : (binOp .neq 52 (.agg (tplCells x)) (.agg (tplCells y))).run Tryz.prog W = .ok (.bool (!decide (x = y))) W := by
  obtain ⟨a0, a1⟩ := x
  obtain ⟨b0, b1⟩ := y
  rw [run_neq_struct, run_equalIn_agg _ _ _ _ _ (by kernel_rfl) (by kernel_rfl)]
  simp only [Program.fieldsOf, Tryz.underlying52]
  go_simp
  simp only [toList_iff]
  by_cases h0 : a0 = b0 <;> by_cases h1 : a1 = b1 <;> simp [h0, h1]
set_option maxRecDepth 10000 in
set_option maxHeartbeats 1000000 in
theorem eqTpls_any {mem : Addr → Option Value} {v u : Value} {l m : List TplF} (h1 : TplsM mem v l) (h2 : TplsM mem u m) (w : World) (hs : Sees mem w) :
    Calls Tryz.prog 60 #[v, u] w fun e w' => e = .returned (.bool (decide (l = m))) ∧ Below w.heap.size w w' := by
  obtain ⟨ao, cap, b, o, rfl, hcap, hm, hao, hcells⟩ := SlM.open_ h1
  obtain ⟨ao2, cap2, b2, o2, rfl, hcap2, hm2, hao2, hcells2⟩ := SlM.open_ h2
  have HS := Lib.hid hs
  have HA := Lib.hid hao
  have HA2 := Lib.hid hao2
  have HC := Lib.hid hcells
  have HC2 := Lib.hid hcells2
  have hlen : (l.length : Int) ≤ 9223372036854775807 := by unfold maxLen at hm; omega
  have hlen2 : (m.length : Int) ≤ 9223372036854775807 := by unfold maxLen at hm2; omega
  clear hao hao2 hcells hcells2 hs h1 h2 hcap hcap2 hm hm2
  by_cases hl : l.length = m.length
  · have HL := Lib.hid hl
    rw [← hl]
    clear hl
    go_enter Tryz.func60, Tryz.ntmps60
    go_wp2_with fail
    go_loopw [13] (fun i wr => ∃ k : Nat, k ≤ l.length ∧ i = .int .i64 k ∧ Below w.heap.size w wr ∧ Hid (l.take k = m.take k)) (fun i _ => l.length - (intOf i).toNat)
    case atStart => exact ⟨0, Nat.zero_le _, rfl, Below.refl _ _, Lib.hid rfl⟩
    case round =>
      obtain ⟨k, hk, rfl, hb, ht⟩ := hrel
      by_cases hlt : k < l.length
      · have hlt2 : k < m.length := by rw [← HL.out]; exact hlt
        have g1 := cells_see (sz := 2) (HS.out.bel hb) (HC.out k hlt).2 rfl
        have g2 := cells_see (sz := 2) (HS.out.bel hb) (HC2.out k hlt2).2 rfl
        obtain rfl := HA.out (by omega)
        obtain rfl := HA2.out (by omega)
        have HE : Hid (l[k] = m[k] → l.take (k + 1) = m.take (k + 1)) := Lib.hid (take_step hlt hlt2 ht.out)
        have HN : Hid (l[k] ≠ m[k] → l ≠ m) := Lib.hid (ne_of_get hlt hlt2)
        generalize l[k] = x at *
        generalize m[k] = y at *
        have G1 := Lib.hid g1
        have G2 := Lib.hid g2
        clear g1 g2
        have hqr : ∀ W : World, (binOp .neq 52 (.agg (tplCells x)) (.agg (tplCells y))).run Tryz.prog W = .ok (.bool (!decide (x = y))) W := fun W => tplCells_neq x y W
        have hk0 : (0 : Int) ≤ k := by omega
        have hk1 : (k : Int) < l.length := by omega
        clear ht hlt2
        by_cases hxy : x = y
        · have HE2 := Lib.hid (HE.out hxy)
          have hxd : decide (x = y) = true := decide_eq_true hxy
          rw [hxd] at hqr
          clear hxy
          clear HE
          go_wp2_with fail
          refine wp_tail 8 (by kernel_rfl) (by kernel_rfl) ?_
          simp only [List.take_succ_cons, List.take_zero, List.drop_succ_cons, List.drop_zero]
          still_step
          still_step
          still_step
          refine wpStill_value rfl _ (exec_smid S_tpl _ rfl (by simp [Act.eval]) (tplCells x) rfl G1.out) ?_
          simp only [Act.put, List.setIfInBounds_toArray, List.set_cons_zero, List.set_cons_succ]
          still_step
          still_step
          still_step
          refine wpStill_value rfl _ (exec_smid S_tpl _ rfl (by simp [Act.eval]) (tplCells y) rfl G2.out) ?_
          simp only [Act.put, List.setIfInBounds_toArray, List.set_cons_zero, List.set_cons_succ]
          refine wpStill_nil ?_
          go_wp2_with fail
          go_roundw
          case rel => exact ⟨k + 1, by omega, by go_num, hb.drew, HE2⟩
          case measure => simp [intOf]; omega
        · have hxd : decide (x = y) = false := decide_eq_false hxy
          rw [hxd] at hqr
          have HNE := Lib.hid hxy
          clear hxy
          go_wp2_with fail
          refine wp_tail 8 (by kernel_rfl) (by kernel_rfl) ?_
          simp only [List.take_succ_cons, List.take_zero, List.drop_succ_cons, List.drop_zero]
          still_step
          still_step
          still_step
          refine wpStill_value rfl _ (exec_smid S_tpl _ rfl (by simp [Act.eval]) (tplCells x) rfl G1.out) ?_
          simp only [Act.put, List.setIfInBounds_toArray, List.set_cons_zero, List.set_cons_succ]
          still_step
          still_step
          still_step
          refine wpStill_value rfl _ (exec_smid S_tpl _ rfl (by simp [Act.eval]) (tplCells y) rfl G2.out) ?_
          simp only [Act.put, List.setIfInBounds_toArray, List.set_cons_zero, List.set_cons_succ]
          refine wpStill_nil ?_
          go_wp2_with fail
          go_ret
          exact ⟨ret_bool (by symm; exact decide_eq_false (HN.out HNE.out)), hb.drew⟩
      · have e : k = l.length := by omega
        subst e
        have HF : Hid (l = m) := Lib.hid (eq_full HL.out ht.out)
        go_wp2_with fail
        go_ret
        exact ⟨ret_bool (by symm; exact decide_eq_true HF.out), hb⟩
  · have hne : decide (l.length = m.length) = false := decide_eq_false hl
    have HNE : Hid (l ≠ m) := Lib.hid (fun e => hl (by rw [e]))
    go_enter Tryz.func60, Tryz.ntmps60
    go_wp2_with fail
    all_goals first
      | (go_ret
         exact ⟨ret_bool (by symm; exact decide_eq_false HNE.out), Below.refl _ _⟩)
      | (exfalso; simp_all; done)
set_option maxRecDepth 10000 in
set_option maxHeartbeats 4000000 in
theorem same_law {mem : Addr → Option Value} {v u : Value} {x y : StF} (h1 : StateM mem v x) (h2 : StateM mem u y) (w : World) (hs : Sees mem w) :
    Calls Tryz.prog 31 #[v, u] w fun e w' => e = .returned (.bool (decide (x = y))) ∧ Below w.heap.size w w' := by
  obtain ⟨sv, tv, rfl, hs1, ht1⟩ := h1
  obtain ⟨sv2, tv2, rfl, hs2, ht2⟩ := h2
  obtain ⟨sts, tps⟩ := x
  obtain ⟨sts2, tps2⟩ := y
  dsimp only at hs1 ht1 hs2 ht2
  have HL := Lib.hid (fun W hW => eqStys_any hs1 hs2 W hW)
  have HT := Lib.hid (fun W hW => eqTpls_any ht1 ht2 W hW)
  obtain ⟨a, c, rfl⟩ := SlM.slice hs1
  obtain ⟨a2, c2, rfl⟩ := SlM.slice hs2
  obtain ⟨b, d, rfl⟩ := SlM.slice ht1
  obtain ⟨b2, d2, rfl⟩ := SlM.slice ht2
  have HR : Hid (decide ((⟨sts, tps⟩ : StF) = ⟨sts2, tps2⟩) = (decide (sts = sts2) && decide (tps = tps2))) := Lib.hid (by simp only [StF.mk.injEq, Bool.decide_and])
  have HS := Lib.hid hs
  clear hs1 hs2 ht1 ht2 hs
  generalize hn1 : sts.length = n1 at *
  generalize hn2 : sts2.length = n2 at *
  generalize hn3 : tps.length = n3 at *
  generalize hn4 : tps2.length = n4 at *
  clear hn1 hn2 hn3 hn4
  obtain ⟨W2, hW2⟩ : ∃ W2, W2 = (w.alloc (.cells #[.slice a n1 c, .slice b n3 d] 27)).alloc (.cells #[.slice a2 n2 c2, .slice b2 n4 d2] 27) := ⟨_, rfl⟩
  have hB2 : Below w.heap.size w W2 := by rw [hW2]; exact (bel1 w _).alloc (by simp) _
  have HN1 : Hid (W2.heap[w.heap.size]? = some (.cells #[.slice a n1 c, .slice b n3 d] 27 (0, 0))) := Lib.hid (by rw [hW2]; exact heap_new1 w _ _)
  have HN2 : Hid (W2.heap[w.heap.size + 1]? = some (.cells #[.slice a2 n2 c2, .slice b2 n4 d2] 27 (0, 0))) := Lib.hid (by
    rw [hW2]
    have := World.alloc_heap_new (w.alloc (.cells #[.slice a n1 c, .slice b n3 d] 27)) (.cells #[.slice a2 n2 c2, .slice b2 n4 d2] 27)
    simpa using this)
  have HB2 := Lib.hid hB2
  have HW2 := Lib.hid hW2
  have HS2 := Lib.hid (HS.out.bel hB2)
  clear hB2 hW2
  go_enter Tryz.func31, Tryz.ntmps31
  go_upto_region 1 with fail
  rw [← HW2.out]
  have HB := HB2
  have HSW := HS2
  have HH1 := HN1
  have HH2 := HN2
  clear HB2 HS2 HN1 HN2 HW2
  have p0 : W2.cell? ⟨w.heap.size, 0, none⟩ = some (.slice a n1 c) := rowcell HH1.out
  have q0 : W2.cell? ⟨w.heap.size + 1, 0, none⟩ = some (.slice a2 n2 c2) := rowcell HH2.out
  have p1 : W2.cell? ⟨w.heap.size, 1, none⟩ = some (.slice b n3 d) := rowcell HH1.out
  have q1 : W2.cell? ⟨w.heap.size + 1, 1, none⟩ = some (.slice b2 n4 d2) := rowcell HH2.out
  go_wp2_with fail
  refine (HL.out _ HSW.out).mono ?_
  rintro e w10 ⟨rfl, hb⟩
  have HB := Lib.hid (HB.out.trans (hb.mono HB.out.size))
  have HSW := Lib.hid (HSW.out.bel hb)
  have HH1 := Lib.hid ((hb.block _ (hlt HH1.out)).trans HH1.out)
  have HH2 := Lib.hid ((hb.block _ (hlt HH2.out)).trans HH2.out)
  clear hb p0 q0 p1 q1
  have p0 : w10.cell? ⟨w.heap.size, 0, none⟩ = some (.slice a n1 c) := rowcell HH1.out
  have q0 : w10.cell? ⟨w.heap.size + 1, 0, none⟩ = some (.slice a2 n2 c2) := rowcell HH2.out
  have p1 : w10.cell? ⟨w.heap.size, 1, none⟩ = some (.slice b n3 d) := rowcell HH1.out
  have q1 : w10.cell? ⟨w.heap.size + 1, 1, none⟩ = some (.slice b2 n4 d2) := rowcell HH2.out
  have EN : Hid (decide (sts = sts2) = false → decide (sts = sts2) = false) := Lib.hid (fun h => h)
  have EY : Hid (decide (sts = sts2) = true → sts = sts2) := Lib.hid of_decide_eq_true
  generalize hq : decide (sts = sts2) = q at *
  cases q with
  | false =>
    clear hq EY EN
    have EN := Lib.hid (Eq.refl false)
    go_wp2_with fail
    go_ret
    exact ⟨ret_false (by first | (rw [HR.out]; simp; done) | (simp [EN.out]; done)), HB.out⟩
  | true =>
    clear hq EY EN
    go_wp2_with fail
    refine (HT.out _ HSW.out).mono ?_
    rintro e w11 ⟨rfl, hb⟩
    have HB := Lib.hid (HB.out.trans (hb.mono HB.out.size))
    have HSW := Lib.hid (HSW.out.bel hb)
    have HH1 := Lib.hid ((hb.block _ (hlt HH1.out)).trans HH1.out)
    have HH2 := Lib.hid ((hb.block _ (hlt HH2.out)).trans HH2.out)
    clear hb p0 q0 p1 q1
    have p0 : w11.cell? ⟨w.heap.size, 0, none⟩ = some (.slice a n1 c) := rowcell HH1.out
    have q0 : w11.cell? ⟨w.heap.size + 1, 0, none⟩ = some (.slice a2 n2 c2) := rowcell HH2.out
    have p1 : w11.cell? ⟨w.heap.size, 1, none⟩ = some (.slice b n3 d) := rowcell HH1.out
    have q1 : w11.cell? ⟨w.heap.size + 1, 1, none⟩ = some (.slice b2 n4 d2) := rowcell HH2.out
    have EN : Hid (decide (tps = tps2) = false → decide (tps = tps2) = false) := Lib.hid (fun h => h)
    have EY : Hid (decide (tps = tps2) = true → tps = tps2) := Lib.hid of_decide_eq_true
    generalize hq : decide (tps = tps2) = q at *
    cases q with
    | false =>
      clear hq EY EN
      have EN := Lib.hid (Eq.refl false)
      go_wp2_with fail
      go_ret
      exact ⟨ret_false (by first | (rw [HR.out]; simp; done) | (simp [EN.out]; done)), HB.out⟩
    | true =>
      clear hq EY EN
      go_wp2_with fail
      go_ret
      exact ⟨ret_true (by first | (rw [HR.out]; simp; done) | (simp; done)), HB.out⟩
end Go.Proofs.YtdkkhmjlamkgdaaGreatDoor
/-
  WHAT IS PROVED HERE: the walk of StateStoriesApart. Condition: the facts lie in memory that is only read.
-/
namespace Go.Proofs.YtdkkhmjlamkgdaaGreatDoor
open Go.RowKit Mg Go.Shelf Go.Maps

/-- two lists of facts that grow beside one another -/
structure TwoI (w1 : World) (A B : List FctE) (va vb : Value) (wr : World) : Prop where
  bel : Below w1.heap.size w1 wr
  ra : FRow wr w1.heap.size va A
  rb : FRow wr w1.heap.size vb B
  apart : ∀ j, va.ownBlock = some j → vb.ownBlock ≠ some j
theorem TwoI.start (w1 : World) : TwoI w1 [] [] (.slice none 0 0) (.slice none 0 0) w1 := ⟨Below.refl _ _, FRow.nil _ _, FRow.nil _ _, fun _ e => by cases e⟩
theorem TwoI.swap {w1 wr : World} {A B : List FctE} {va vb : Value} (h : TwoI w1 A B va vb wr) : TwoI w1 B A vb va wr := ⟨h.bel, h.rb, h.ra, fun j e q => h.apart j q e⟩
theorem TwoI.left {w1 wr w3 : World} {A B A' : List FctE} {va vb v' : Value} (h : TwoI w1 A B va vb wr) {o : Obj} (hr : FRow w3 w1.heap.size v' A') (hg : (wr.alloc o).grownBy w3 va.ownBlock) (ho : v'.ownBlock = va.ownBlock ∨ v'.ownBlock = some (wr.alloc o).heap.size) : TwoI w1 A' B v' vb w3 := by
  have hs : (wr.alloc o).heap.size = wr.heap.size + 1 := by simp
  refine ⟨(h.bel.alloc h.bel.size _).grown hg (by have := h.bel.size; omega) (fun j hj => (h.ra.ge j hj).1), hr, h.rb.same (fun k hk => ?_), fun j hj hk => ?_⟩
  · have hl := (h.rb.ge k hk).2
    exact (hg.block k (by omega) (fun e => h.apart k e.symm hk)).trans (Below.heap_alloc _ _ _ hl)
  · rcases ho with e | e
    · exact h.apart j (e ▸ hj) hk
    · rw [e] at hj
      have h1 := Option.some.inj hj
      have h2 := (h.rb.ge j hk).2
      omega
set_option maxRecDepth 100000 in
set_option maxHeartbeats 4000000 in
theorem stateApart_any {mem : Addr → Option Value} {v : Value} {es : List FctE} (h : EsM mem v es) (id : Int) (_hid : okI id) (w : World) (hs : Sees mem w) :
    Calls Tryz.prog 13 #[v, .int .i64 id] w fun e w' => e = .returned (.bool true) ∧ Below w.heap.size w w' := by
  have c0 := Lib.hid (sane_any w)
  have HS := Lib.hid hs
  have HE := Lib.hid h
  obtain ⟨va, vc, vb, vo, rfl, _⟩ := h.open_
  clear h hs
  go_enter Tryz.func13, Tryz.ntmps13
  go_wp2_with fail
  refine c0.out.mono ?_
  rintro e w0 ⟨rfl, hb0⟩
  have HB0 := Lib.hid hb0
  have cS := Lib.hid (short_law HE.out w0 (HS.out.bel hb0))
  clear hb0 c0
  go_wp2_with fail
  refine cS.out.mono ?_
  rintro e w1 ⟨ra, rc, fs, rfl, hsh⟩
  have HSH := Lib.hid hsh
  have hlen := hsh.len
  have HB1 : Hid (Below w.heap.size w w1) := Lib.hid (HB0.out.trans (hsh.bel.mono HB0.out.size))
  obtain ⟨rb, ro, hrv, hra, hre⟩ : ∃ b o, True ∧ (0 < fs.length → ra = some ⟨b, o, none⟩) ∧ ∀ j (h : j < fs.length), fs[j].ok (fun p => w1.cell? p) ∧ fs[j].at (fun p => w1.cell? p) b (o + j * 23) := by
    obtain ⟨b, o, ⟨_, _, _, e, _, _, h3⟩, h4⟩ := hsh.es
    injection e with e1 _ _
    subst e1
    exact ⟨b, o, trivial, h3, h4⟩
  have HRA := Lib.hid hra
  have HRE := Lib.hid hre
  have HI0 : Hid (TwoI w1 ((fs.take 0).filter fun x => !mineF id x.f) ((fs.take 0).filter fun x => mineF id x.f) (.slice none 0 0) (.slice none 0 0) w1) := Lib.hid (TwoI.start w1)
  have hll : fs.length ≤ 9223372036854775807 := by omega
  clear hsh cS hrv hra hre
  go_wp2_with fail
  go_loopw [8, 6, 7] (fun i va vb wr => ∃ k : Nat, k ≤ fs.length ∧ i = .int .i64 k ∧ (∃ a l q, va = .slice a l q) ∧ (∃ a l q, vb = .slice a l q) ∧ Hid (TwoI w1 ((fs.take k).filter fun x => !mineF id x.f) ((fs.take k).filter fun x => mineF id x.f) va vb wr)) (fun i _ _ _ => fs.length - (intOf i).toNat)
  case atStart => exact ⟨0, Nat.zero_le _, rfl, ⟨_, _, _, rfl⟩, ⟨_, _, _, rfl⟩, HI0⟩
  case round =>
    obtain ⟨k, hk, rfl, ⟨a1, n1, q1, rfl⟩, ⟨a2, n2, q2, rfl⟩, HI⟩ := hrel
    by_cases hlt : k < fs.length
    · obtain rfl := HRA.out (by omega)
      obtain ⟨hxo, hxa⟩ := HRE.out k hlt
      have HAT : Hid (fs[k].at (fun p => wr.cell? p) rb (ro + k * 23)) := Lib.hid (fun j u hj => sees_bel HI.out.bel _ _ (hxa j u hj))
      have HTK : Hid (fs.take (k + 1) = fs.take k ++ [fs[k]]) := Lib.hid (List.take_succ_eq_append_getElem hlt)
      have hAl : ((fs.take k).filter fun x => !mineF id x.f).length ≤ 40 := by
        have := List.length_filter_le (fun x : FctE => !mineF id x.f) (fs.take k)
        rw [List.length_take] at this; omega
      have hBl : ((fs.take k).filter fun x => mineF id x.f).length ≤ 40 := by
        have := List.length_filter_le (fun x : FctE => mineF id x.f) (fs.take k)
        rw [List.length_take] at this; omega
      have c3 : wr.cell? ⟨rb, ro + k * 23 + 3, none⟩ = some (.int .i64 fs[k].f.story) := HAT.out 3 _ rfl
      have c2 : wr.cell? ⟨rb, ro + k * 23 + 2, none⟩ = some (.int .i64 fs[k].f.kind) := HAT.out 2 _ rfl
      clear hxo hxa
      generalize fs[k] = x at *
      have hsz : w1.heap.size ≤ wr.heap.size := HI.out.bel.size
      cases hmine : mineF id x.f with
      | true =>
        have HM : Hid (((fs.take (k + 1)).filter fun x => !mineF id x.f) = ((fs.take k).filter fun x => !mineF id x.f) ∧ ((fs.take (k + 1)).filter fun x => mineF id x.f) = ((fs.take k).filter fun x => mineF id x.f) ++ [x]) := Lib.hid (by
          rw [HTK.out, List.filter_append, List.filter_append]
          simp [hmine])
        have hsk : x.f.story = id ∧ (x.f.kind != 7) = true := by
          unfold mineF at hmine
          simp only [Bool.and_eq_true, decide_eq_true_eq, Bool.not_eq_true', decide_eq_false_iff_not] at hmine
          exact ⟨hmine.1, by simpa using hmine.2⟩
        obtain ⟨h1, h2⟩ := hsk
        rw [h1] at c3
        generalize ((fs.take k).filter fun x => !mineF id x.f) = A at *
        generalize ((fs.take k).filter fun x => mineF id x.f) = B at *
        clear hmine h1
        go_wp2_with (first
          | ((with_reducible refine at_fload _ rfl ?_); go_must (refine wpList_fct_mid rfl _ rfl (by simp [Act.eval]) HAT.out ?_))
          | ((with_reducible refine at_fslice _ rfl ?_); go_must (refine wpList_fct_slice rfl _ rfl x (by simp [Act.eval, Act.put]) ?_))
          | ((with_reducible refine at_sappend _ _ 22 rfl ?_); go_must (refine wpList_app_fct rfl _ _ rfl w1.heap.size _ B (by simp [Act.eval, Act.put]) (HI.out.rb.same (fun j hj => (bel1 wr _).block j (HI.out.rb.ge j hj).2)) x wr.heap.size 1 (by simp [Act.eval, Act.put]) (World.alloc_heap_new _ _) (by omega) (by simp; omega) ?_); go_must (intro v9 w9 hr9 hg9 ho9; have HI9 := Lib.hid (HI.out.swap.left hr9 hg9 ho9).swap; obtain ⟨a9, c9, hv9⟩ := hr9.shape; subst hv9; rw [List.length_append, List.length_singleton] at HI9; clear hr9 hg9 ho9)))
        go_roundw
        case rel => exact ⟨k + 1, by omega, by go_num, ⟨_, _, _, rfl⟩, ⟨_, _, _, rfl⟩, by rw [HM.out.1, HM.out.2]; exact HI9⟩
        case measure => (try simp only [intOf]); omega
      | false =>
        have HM : Hid (((fs.take (k + 1)).filter fun x => !mineF id x.f) = ((fs.take k).filter fun x => !mineF id x.f) ++ [x] ∧ ((fs.take (k + 1)).filter fun x => mineF id x.f) = ((fs.take k).filter fun x => mineF id x.f)) := Lib.hid (by
          rw [HTK.out, List.filter_append, List.filter_append]
          simp [hmine])
        have hsk : x.f.story ≠ id ∨ (x.f.story = id ∧ x.f.kind = 7) := by
          unfold mineF at hmine
          by_cases e1 : x.f.story = id
          · right
            refine ⟨e1, ?_⟩
            simpa [e1] using hmine
          · exact .inl e1
        generalize ((fs.take k).filter fun x => !mineF id x.f) = A at *
        generalize ((fs.take k).filter fun x => mineF id x.f) = B at *
        clear hmine
        rcases hsk with h1 | ⟨h1, h2⟩
        case' inl =>
          have h2 : (x.f.story == id) = false := by simpa using h1
          clear h1
        case' inr =>
          rw [h1] at c3
          rw [h2] at c2
          clear h1 h2
        all_goals
          go_wp2_with (first
            | ((with_reducible refine at_fload _ rfl ?_); go_must (refine wpList_fct_mid rfl _ rfl (by simp [Act.eval]) HAT.out ?_))
            | ((with_reducible refine at_fslice _ rfl ?_); go_must (refine wpList_fct_slice rfl _ rfl x (by simp [Act.eval, Act.put]) ?_))
            | ((with_reducible refine at_sappend _ _ 22 rfl ?_); go_must (refine wpList_app_fct rfl _ _ rfl w1.heap.size _ A (by simp [Act.eval, Act.put]) (HI.out.ra.same (fun j hj => (bel1 wr _).block j (HI.out.ra.ge j hj).2)) x wr.heap.size 1 (by simp [Act.eval, Act.put]) (World.alloc_heap_new _ _) (by omega) (by simp; omega) ?_); go_must (intro v9 w9 hr9 hg9 ho9; have HI9 := Lib.hid (HI.out.left hr9 hg9 ho9); obtain ⟨a9, c9, hv9⟩ := hr9.shape; subst hv9; rw [List.length_append, List.length_singleton] at HI9; clear hr9 hg9 ho9)))
          go_roundw
          case rel => exact ⟨k + 1, by omega, by go_num, ⟨_, _, _, rfl⟩, ⟨_, _, _, rfl⟩, by rw [HM.out.1, HM.out.2]; exact HI9⟩
          case measure => (try simp only [intOf]); omega
    · have e' : k = fs.length := by omega
      subst e'
      rw [List.take_length] at HI
      have hAl : (fs.filter fun x => !mineF id x.f).length ≤ 40 := Nat.le_trans (List.length_filter_le _ _) hlen
      have hBl : (fs.filter fun x => mineF id x.f).length ≤ 40 := Nat.le_trans (List.length_filter_le _ _) hlen
      have HMA : Hid (((fs.filter fun x => !mineF id x.f) ++ (fs.filter fun x => mineF id x.f)).map FctE.f = apartF (fs.map FctE.f) id) := Lib.hid (by
        unfold apartF
        rw [List.map_append, List.filter_map, List.filter_map]
        rfl)
      have HSUB : Hid (∀ x ∈ (fs.filter fun x => !mineF id x.f) ++ (fs.filter fun x => mineF id x.f), x ∈ fs) := Lib.hid (fun x hx => by
        rcases List.mem_append.1 hx with hx | hx
        · exact (List.mem_filter.1 hx).1
        · exact (List.mem_filter.1 hx).1)
      generalize (fs.filter fun x => !mineF id x.f) = A at *
      generalize (fs.filter fun x => mineF id x.f) = B at *
      have hxx : ¬ ((fs.length : Int) < (fs.length : Int)) := by omega
      have cF := Lib.hid (Fold_law (HSH.out.es.keep HI.out.bel) (by omega) (fun x hx _ => HSH.out.good x hx) wr (Sees.self wr) (cells_lt wr))
      go_wp2_with fail
      refine cF.out.mono ?_
      rintro e w4 ⟨a, c, b, d, s, rfl, hF⟩
      have HF := Lib.hid hF
      have hn1 : n1 = A.length := by
        obtain ⟨_, _, e⟩ := HI.out.ra.shape
        injection e
      have hn2 : n2 = B.length := by
        obtain ⟨_, _, e⟩ := HI.out.rb.shape
        injection e
      subst hn1 hn2
      have HRA4 := Lib.hid (HI.out.ra.same (fun j hj => hF.bel.block j (HI.out.ra.ge j hj).2))
      have HRB4 := Lib.hid (HI.out.rb.same (fun j hj => hF.bel.block j (HI.out.rb.ge j hj).2))
      have HB4 : Hid (Below w1.heap.size w1 w4) := Lib.hid (HI.out.bel.trans (hF.bel.mono HI.out.bel.size))
      have HS4 : Hid (Sees (memFr w4 (fun k => k < wr.heap.size + 1)) w4) := Lib.hid (memFr_sees _ _)
      clear hF cF
      go_wp2_with ((with_reducible refine at_sappend _ _ 22 rfl ?_); go_must (refine wpList_wanted (by rfl) (fun K hK => wp_app_facts _ _ rfl w1.heap.size _ A (by simp [Act.eval]) HRA4.out a2 q2 B (by simp [Act.eval]) (HRB4.out.es (fun x hx => mem_keep HB4.out HSH.out.ok x (HSUB.out x (List.mem_append_right _ hx)))) (by omega) HB4.out.size (fun v5 w5 hr5 hg5 ho5 => hK _ _ ?_))))
      have HB5 : Hid (Below w1.heap.size w1 w5) := Lib.hid (HB4.out.grown hg5 HB4.out.size (fun j hj => (HRA4.out.ge j hj).1))
      have hb45 : ∀ k, k < w4.heap.size → w1.heap.size ≤ k → some k ≠ (Value.slice a1 A.length q1).ownBlock → w5.heap[k]? = w4.heap[k]? := fun k h1 _ h3 => hg5.block k h1 h3
      have HS5 : Hid (Sees (memFr w4 (fun k => k < wr.heap.size + 1)) w5) := Lib.hid (fun p u e => by
        obtain ⟨q1', q2', _⟩ := memFr_lt p u e
        have q4 := memFr_sees w4 _ p u e
        refine (World.cell?_of_block (hg5.block p.block q1' (fun q => ?_))).trans q4
        have := (HI.out.ra.ge _ q.symm).2
        exact q2' (by omega))
      obtain ⟨a5, c5, hv5⟩ := hr5.shape
      subst hv5
      have cF := Lib.hid (Fold_law (es := A ++ B) (hr5.es (fun x hx => mem_keep HB5.out HSH.out.ok x (HSUB.out x hx))) (by rw [List.length_append]; omega) (fun x hx _ => HSH.out.good x (HSUB.out x hx)) w5 (Sees.self w5) (cells_lt w5))
      clear hr5 hg5 ho5 hb45
      refine cF.out.mono ?_
      rintro e w6 ⟨a6, c6, b6, d6, s2, rfl, hF2⟩
      have HS6 : Hid (Sees (memFr w4 (fun k => k < wr.heap.size + 1)) w6) := Lib.hid (HS5.out.bel hF2.bel)
      have HB6 : Hid (Below w1.heap.size w1 w6) := Lib.hid (HB5.out.trans (hF2.bel.mono HB5.out.size))
      have hss : s2 = s := (alt_apart (fs.map FctE.f) id).state HF.out.is (by rw [← HMA.out]; exact hF2.is)
      have cE := Lib.hid (same_law (mem := fun p => w6.cell? p) (HF.out.st.mono HS6.out) (hF2.st.mono (memFr_sees w6 _)) w6 (Sees.self w6))
      rw [decide_eq_true hss.symm] at cE
      clear hF2 hss cF
      go_wp2_with fail
      refine cE.out.mono ?_
      rintro e w7 ⟨rfl, hb7⟩
      have HFN : Hid (Below w.heap.size w w7) := Lib.hid (HB1.out.trans ((HB6.out.trans (hb7.mono HB6.out.size)).mono HB1.out.size))
      clear hb7 cE
      go_wp2_with fail
      go_ret
      exact ⟨rfl, HFN.out⟩
end Go.Proofs.YtdkkhmjlamkgdaaGreatDoor
/-
  WHAT IS PROVED HERE: StateStoriesApart returns true and leaves its arguments as they were, for all arguments. Conditions: those of the card (the listed tables of Go's library lie as their text lays them).
-/
namespace Go.Proofs.YtdkkhmjlamkgdaaGreatDoor.fnSApa
open Go.ChangeShapes Go.WideShapes Go.ChangeAt Go.RowKit Go.ChangeMaps Mg

set_option maxRecDepth 100000 in
theorem contract (H : Type) (enc : TypeId × Value → H) (W : World) (base : Nat) (args : Array Value) (ds gs : List (DataW H)) (before : List MemPlace)
    (hval : ∀ (j : Nat) t v, Tryz.f13.params[j]? = some t → args[j]? = some v → Value.okWide Tryz.prog W .any base t v)
    (hW : DataW.Whole enc Tryz.prog Tryz.f13.params.toList Rows.stateStoriesApartSpec.vars false W args.toList ds gs before) :
    Calls Tryz.prog 13 args W fun e W' => ∃ v, e = .returned v ∧ Rows.stateStoriesApartSpec.post enc Tryz.prog Tryz.f13 false true false false W args v W' := by
  have hread : ∀ t ∈ Tryz.f13.params.toList, Tryz.prog.readableRec t = true ∧ t < Tryz.prog.types.size := by
    have hall : (Tryz.f13.params.toList.all fun t => Tryz.prog.readableRec t && decide (t < Tryz.prog.types.size)) = true := by kernel_rfl
    intro t ht
    have := List.all_eq_true.1 hall t ht
    simpa using this
  have hclose : ∀ W', Below W.heap.size W W' → (Rows.stateStoriesApartSpec.fn H ds).results = [.lit (.bool true)] ∧ (Rows.stateStoriesApartSpec.fn H ds).args = ds ∧ (Rows.stateStoriesApartSpec.fn H ds).vars = [] → Rows.stateStoriesApartSpec.post enc Tryz.prog Tryz.f13 false true false false W args (.bool true) W' :=
    fun W' hg hs => close_law hW rfl (by kernel_rfl) hs hread hg
  obtain ⟨p, q, hA0, hV, rfl, hfz, hnd⟩ := hW
  have hA : DataW.TrodAll enc Tryz.prog W 0 (fun _ => true) true Tryz.f13.params.toList args.toList ds p := hA0
  obtain ⟨rfl, rfl⟩ := trodVars_none hV
  rw [Tryz.params13] at hA hval
  clear hA0 hread hfz hnd hV
  obtain ⟨v0, vs0, d0, ds0, p0, q0, hargs, rfl, rfl, h0, r0⟩ := trodAll_cons hA
  obtain ⟨v1, vs1, d1, ds1, p1, q1, rfl, rfl, rfl, h1, r1⟩ := trodAll_cons r0
  obtain ⟨rfl, rfl, rfl⟩ := trodAll_nil r1
  obtain rfl : args = #[v0, v1] := by cases args; simp_all
  obtain ⟨l0, b0⟩ := facts_in (hval 0 22 v0 rfl rfl) h0
  obtain ⟨x1, rfl, k1⟩ := int_in (hval 1 3 v1 rfl rfl) h1
  refine (stateApart_any b0 x1 k1 W (Sees.self W)).mono fun e W' ⟨he, hg⟩ => ?_
  exact ⟨_, he, hclose W' hg ⟨rfl, rfl, rfl⟩⟩

theorem laid_met (os : Os) : laidMet Tryz.prog Rows.stateStoriesApartRow.laid ((laidWorld os).forCall (fun _ _ => 0) ⟨#[], #[.slice none 0 0, .int .i64 0], []⟩).memory :=
  laidMet_of_run' 8 (by kernel_rfl) (by kernel_rfl)
theorem reads (os : Os) {H : Type} (enc : TypeId × Value → H) : ∃ places, DataW.whole enc Tryz.prog ((laidWorld os).forCall (fun _ _ => 0) ⟨#[], #[.slice none 0 0, .int .i64 0], []⟩).memory Tryz.f13.params.toList Rows.stateStoriesApartSpec.vars false (#[Value.slice none 0 0, .int .i64 0] : Array Value).toList 8 = some ([.nil, .lit (.int .i64 0)], [], places) :=
  ⟨[], by kernel_rfl⟩

set_option maxRecDepth 100000 in
theorem lifted (os : Os) (started : os.Started) (H : Type) (enc : TypeId × Value → H) (F : Stop.Interp) :
    ReturnsInHanded {} Tryz.checked os 13 .any ((OpenSpec.ofChange Rows.stateStoriesApartSpec).preRow enc Tryz.prog Tryz.f13 Rows.stateStoriesApartRow.domain false Rows.stateStoriesApartRow.laid) (((OpenSpec.ofChange Rows.stateStoriesApartSpec).at F).post enc Tryz.prog Tryz.f13 false true false false) := by
  obtain ⟨places, hx⟩ := reads os enc
  refine returnsInHanded_of_row (C := Tryz.checked) (s := OpenSpec.ofChange Rows.stateStoriesApartSpec) own started (by kernel_rfl) Tryz.func13
    (witness_row_at (enc := enc) (C := Tryz.checked) false (laidWorld os) #[.slice none 0 0, .int .i64 0] rfl (by kernel_rfl) (by kernel_rfl) (by kernel_rfl)
      (OpenSpec.preRow_of_cond 8 hx (by kernel_rfl) (fun k hk => by cases hk) (by kernel_rfl) (laid_met os))) ?_
  intro W base args ds gs before hval hW _ _ _ _ _ _
  exact contract H enc W base args ds gs before hval hW

theorem j1 : (Rows.stateStoriesApartRow.inPlace == Tryz.prog.inPlace 13) = true := by kernel_rfl
theorem j2 : (Rows.stateStoriesApartRow.unfollowed == Tryz.prog.unfollowed 13) = true := by kernel_rfl
theorem j3 : (Rows.stateStoriesApartRow.recurses == Tryz.prog.recurses 13) = true := by kernel_rfl
theorem j4 : (Rows.stateStoriesApartRow.named == Tryz.prog.varsNamed 13) = true := by kernel_rfl
theorem j5 : joinedRest Tryz.prog Tryz.f13 (OpenSpec.ofChange Rows.stateStoriesApartSpec).bare Rows.stateStoriesApartRow = true := by kernel_rfl
theorem j6 : false = Rows.stateStoriesApartRow.goesBy Tryz.prog := by kernel_rfl
theorem j7 : Rows.stateStoriesApartRow.wfByText (OpenSpec.ofChange Rows.stateStoriesApartSpec) = true := by kernel_rfl
theorem closed : joinedFacts Tryz.prog 13 Tryz.f13 (OpenSpec.ofChange Rows.stateStoriesApartSpec).bare Rows.stateStoriesApartRow = true := joined_of j1 j2 j3 j4 pr_heard pr_enter pr_lifts pr_make j5
theorem named : Tryz.prog.funcNamed Rows.stateStoriesApartRow.func = some 13 := by kernel_rfl

theorem said : Rows.StateStoriesApartSaid :=
  OpenClaim.holds_of_cond 13 Tryz.f13 rfl rfl rfl rfl rfl rfl rfl ⟨rfl, rfl, rfl, rfl, rfl⟩ rfl rfl rfl rfl rfl named Tryz.func13 closed
    (of_decide_eq_true (by kernel_rfl)) (by unfold Func.isWrapper; first | (rw [if_pos (by decide +kernel)]; kernel_rfl) | (rw [if_neg (by decide +kernel)]; exact ⟨rfl, rfl⟩))
    (fun os started H enc _ F => by rw [OpenClaim.pre_eq_preRow]; exact lifted os started H enc F)

/-- No parameter wants a stand-in; the program's own looks are off: what both cards ask. -/
theorem plain (f : FuncId) (fn : Func) (hf : Tryz.pinned.checked.prog.funcNamed "copydesk/copydesklaw07.StateStoriesApart" = some f) (hfn : Tryz.pinned.checked.prog.funcs[f]? = some fn) :
    false = Tryz.pinned.checked.prog.looks [] ∧ ∀ (j : Nat) t, fn.params[j]? = some t → Tryz.pinned.checked.prog.wantsStandIn t = false := by
  obtain rfl : f = 13 := Option.some.inj ((show Tryz.prog.funcNamed "copydesk/copydesklaw07.StateStoriesApart" = some 13 by kernel_rfl).symm.trans hf) |>.symm
  obtain rfl : fn = Tryz.f13 := (Option.some.inj (Tryz.func13.symm.trans hfn)).symm
  refine ⟨by kernel_rfl, fun j t ht => ?_⟩
  have hall : Tryz.f13.params.all (fun t => !Tryz.prog.wantsStandIn t) = true := by kernel_rfl
  have := Array.all_eq_true'.1 hall t (Array.mem_of_getElem? ht)
  exact (by simpa using this : Tryz.prog.wantsStandIn t = false)

/-- ████ THE CARD ████ -/
theorem card : Rows.StateStoriesApartCardSaid :=
  Claim7.holds_tied_plain_at .later [] _ _ _ _ said (fun _ h => by cases h) j7 (fun _ h => by cases h) stateStoriesApart_row_tie rfl ⟨rfl, rfl⟩ (by kernel_rfl) rfl plain j6
end Go.Proofs.YtdkkhmjlamkgdaaGreatDoor.fnSApa

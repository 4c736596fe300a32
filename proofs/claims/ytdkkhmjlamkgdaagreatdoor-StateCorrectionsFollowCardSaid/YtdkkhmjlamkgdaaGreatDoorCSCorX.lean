/-
  WHAT IS PROVED HERE: a law returns true and leaves its arguments as they were, for all arguments (8 texts joined). Conditions: those of the card.
-/
import Derived.Test.YtdkkhmjlamkgdaaGreatDoorBn6
import Derived.Laws.StructEq
/-
 WHAT IS PROVED HERE: the walks of slices.Equal at strings, of state.sameEdition and of slices.EqualFunc at editions (printed by tools/sxa.py). No condition.
-/
namespace Go.Proofs.YtdkkhmjlamkgdaaGreatDoor
open Go.RowKit Mg Go.Shelf Go.Maps

set_option maxHeartbeats 1000000 in
theorem eqStrs_any {mem : Addr → Option Value} {v u : Value} {l m : List ByteArray} (h1 : StrsM mem v l) (h2 : StrsM mem u m) (w : World) (hs : Sees mem w) :
  Calls Tryz.prog 87 #[v, u] w fun e w' => e = .returned (.bool (decide (l = m))) ∧ Below w.heap.size w w' := by
 obtain ⟨ao, cap, b, o, rfl, hcap, hm, hao, _, hcells⟩ := h1.open_ hs
 obtain ⟨ao2, cap2, b2, o2, rfl, hcap2, hm2, hao2, _, hcells2⟩ := h2.open_ hs
 have HA := Lib.hid hao
 have HA2 := Lib.hid hao2
 have HC := Lib.hid hcells
 have HC2 := Lib.hid hcells2
 have hlen : (l.length : Int) ≤ 9223372036854775807 := by unfold maxLen at hm; omega
 have hlen2 : (m.length : Int) ≤ 9223372036854775807 := by unfold maxLen at hm2; omega
 clear hao hao2 hcells hcells2 hs h1 h2 hcap hcap2 hm hm2
 by_cases hl : l.length = m.length
 ·have HL := Lib.hid hl
  rw [← hl]
  clear hl
  go_enter Tryz.func87, Tryz.ntmps87
  go_wp2_with fail
  go_loopw [13] (fun i wr => ∃ k : Nat, k ≤ l.length ∧ i = .int .i64 k ∧ Below w.heap.size w wr ∧ Hid (l.take k = m.take k)) (fun i _ => l.length - (intOf i).toNat)
  case atStart => exact ⟨0, Nat.zero_le _, rfl, Below.refl _ _, Lib.hid rfl⟩
  case round =>
   obtain ⟨k, hk, rfl, hb, ht⟩ := hrel
   by_cases hlt : k < l.length
   ·have hlt2 : k < m.length := by rw [← HL.out]; exact hlt
    have c1 := HC.out k hlt
    have c2 := HC2.out k hlt2
    obtain rfl := HA.out (by omega)
    obtain rfl := HA2.out (by omega)
    replace c1 := (hb.cell (p := ⟨b, o + k, none⟩) (World.block_lt_of_cell? w _ c1)).trans c1
    replace c2 := (hb.cell (p := ⟨b2, o2 + k, none⟩) (World.block_lt_of_cell? w _ c2)).trans c2
    have HE : Hid (l[k] = m[k] → l.take (k + 1) = m.take (k + 1)) := Lib.hid (take_step hlt hlt2 ht.out)
    have HN : Hid (l[k] ≠ m[k] → l ≠ m) := Lib.hid (ne_of_get hlt hlt2)
    generalize l[k] = x at *
    generalize m[k] = y at *
    have hk0 : (0 : Int) ≤ k := by omega
    have hk1 : (k : Int) < l.length := by omega
    clear ht hlt2
    by_cases hxy : x = y
    ·subst hxy
     have HE2 := Lib.hid (HE.out rfl)
     clear HE
     go_wp2_with fail
     go_quiet (fail)
     go_wp2_with fail
     go_roundw
     case rel => exact ⟨k + 1, by omega, by go_num, below_drewN hb _, HE2⟩
     case measure => simp [intOf]; omega
    ·have hne : (x.toList != y.toList) = true := by
      rw [bne_iff_ne]
      intro e
      exact hxy (str_ext (by simpa [ByteArray.toList_eq] using e))
     have hne2 : (x.toList == y.toList) = false := by
      rw [beq_eq_false_iff_ne]
      intro e
      exact hxy (str_ext (by simpa [ByteArray.toList_eq] using e))
     have HNE := Lib.hid hxy
     clear hxy
     go_wp2_with fail
     go_quiet (fail)
     go_wp2_with fail
     go_ret
     exact ⟨ret_bool (by symm; exact decide_eq_false (HN.out HNE.out)), below_drewN hb _⟩
   ·have e : k = l.length := by omega
    subst e
    have HF : Hid (l = m) := Lib.hid (eq_full HL.out ht.out)
    go_wp2_with fail
    go_ret
    exact ⟨ret_bool (by symm; exact decide_eq_true HF.out), hb⟩
 ·have hne : decide (l.length = m.length) = false := decide_eq_false hl
  have HNE : Hid (l ≠ m) := Lib.hid (fun e => hl (by rw [e]))
  go_enter Tryz.func87, Tryz.ntmps87
  go_wp2_with fail
  all_goals first
   | (go_ret; exact ⟨ret_bool (by symm; exact decide_eq_false HNE.out), Below.refl _ _⟩)
   | (exfalso; simp_all; done)
theorem cells_in {w w' : World} {b o sz : Nat} {cs : Array Value} (h : ∀ t, t < sz → w.cell? ⟨b, o + t, none⟩ = cs[t]?) (hb : Below w.heap.size w w') (hz : cs.size = sz := by rfl) : ∀ t, t < sz → w'.cell? ⟨b, o + t, none⟩ = cs[t]? := fun t ht => by
 have h1 := h t ht
 rw [Array.getElem?_eq_getElem (by omega)] at h1 ⊢
 exact sees_bel hb _ _ h1
theorem edn_dec (lang : ByteArray) (rev : Int) (title : ByteArray) (blocks : List Blk) (changed : Int) (lang2 : ByteArray) (rev2 : Int) (title2 : ByteArray) (blocks2 : List Blk) (changed2 : Int) : decide ((⟨lang, rev, title, blocks, changed⟩ : EdnF) = ⟨lang2, rev2, title2, blocks2, changed2⟩) =
  (decide (lang = lang2) && (decide (rev = rev2) && (decide (title = title2) && (decide (blocks = blocks2) && decide (changed = changed2))))) := by
 simp only [EdnF.mk.injEq, Bool.decide_and]
theorem sty_dec (id : Int) (author : ByteArray) (topics : List ByteArray) (eds : List EdnF) (pub : Int) (corr : List Corr) (retr taken : Bool) (id2 : Int) (author2 : ByteArray) (topics2 : List ByteArray) (eds2 : List EdnF) (pub2 : Int) (corr2 : List Corr) (retr2 taken2 : Bool) : decide ((⟨id, author, topics, eds, pub, corr, retr, taken⟩ : StyF) = ⟨id2, author2, topics2, eds2, pub2, corr2, retr2, taken2⟩) =
  (decide (id = id2) && (decide (author = author2) && (decide (topics = topics2) && (decide (eds = eds2) && (decide (pub = pub2) && (decide (corr = corr2) && (decide (retr = retr2) && decide (taken = taken2)))))))) := by
 simp only [StyF.mk.injEq, Bool.decide_and]
theorem str_ne {a b : ByteArray} (h : a ≠ b) : (a.toList == b.toList) = false := by
 simp only [beq_eq_false_iff_ne, ne_eq, ByteArray.toList_eq]
 intro e
 exact h (str_ext e)
set_option maxRecDepth 10000 in
set_option maxHeartbeats 4000000 in
theorem sameEdition_any {mem : Addr → Option Value} {v u : Value} {x y : EdnF} (h1 : EdnV mem v x) (h2 : EdnV mem u y) (w : World) (hs : Sees mem w) :
  Calls Tryz.prog 89 #[v, u] w fun e w' => e = .returned (.bool (decide (x = y))) ∧ Below w.heap.size w w' := by
 obtain ⟨_, bv, rfl, hb1⟩ := h1
 obtain ⟨_, bv2, rfl, hb2⟩ := h2
 obtain ⟨lang, rev, title, blocks, changed⟩ := x
 obtain ⟨lang2, rev2, title2, blocks2, changed2⟩ := y
 have HL := Lib.hid (fun W hW => sameList_any hb1 hb2 W hW)
 obtain ⟨ao, cap, rfl⟩ := hb1.slice
 obtain ⟨ao2, cap2, rfl⟩ := hb2.slice
 have HR := Lib.hid (edn_dec lang rev title blocks changed lang2 rev2 title2 blocks2 changed2)
 have HS := Lib.hid hs
 dsimp only at HL ⊢
 clear hb1 hb2 hs
 generalize hn1 : blocks.length = n1 at *
 generalize hn2 : blocks2.length = n2 at *
 clear hn1 hn2
 obtain ⟨W2, hW2⟩ : ∃ W2, W2 = (w.alloc (.cells #[.string lang, .int .i64 rev, .string title, .slice ao n1 cap, .int .i64 changed] 39)).alloc (.cells #[.string lang2, .int .i64 rev2, .string title2, .slice ao2 n2 cap2, .int .i64 changed2] 39) := ⟨_, rfl⟩
 have hB2 : Below w.heap.size w W2 := by rw [hW2]; exact (bel1 w _).alloc (by simp) _
 have HN1 : Hid (W2.heap[w.heap.size]? = some (.cells #[.string lang, .int .i64 rev, .string title, .slice ao n1 cap, .int .i64 changed] 39 (0, 0))) := Lib.hid (by rw [hW2]; exact heap_new1 w _ _)
 have HN2 : Hid (W2.heap[w.heap.size + 1]? = some (.cells #[.string lang2, .int .i64 rev2, .string title2, .slice ao2 n2 cap2, .int .i64 changed2] 39 (0, 0))) := Lib.hid (by
  rw [hW2]
  have := World.alloc_heap_new (w.alloc (.cells #[.string lang, .int .i64 rev, .string title, .slice ao n1 cap, .int .i64 changed] 39)) (.cells #[.string lang2, .int .i64 rev2, .string title2, .slice ao2 n2 cap2, .int .i64 changed2] 39)
  simpa using this)
 have HB2 := Lib.hid hB2
 have HW2 := Lib.hid hW2
 have HS2 := Lib.hid (HS.out.bel hB2)
 clear hB2 hW2
 go_enter Tryz.func89, Tryz.ntmps89
 go_upto_region 1 with fail
 rw [← HW2.out]
 have HB := HB2
 have HSW := HS2
 have HH1 := HN1
 have HH2 := HN2
 clear HB2 HS2 HN1 HN2 HW2
 have p0 : W2.cell? ⟨w.heap.size, 0, none⟩ = some (.string lang) := rowcell HH1.out
 have q0 : W2.cell? ⟨w.heap.size + 1, 0, none⟩ = some (.string lang2) := rowcell HH2.out
 have p1 : W2.cell? ⟨w.heap.size, 1, none⟩ = some (.int .i64 rev) := rowcell HH1.out
 have q1 : W2.cell? ⟨w.heap.size + 1, 1, none⟩ = some (.int .i64 rev2) := rowcell HH2.out
 have p2 : W2.cell? ⟨w.heap.size, 2, none⟩ = some (.string title) := rowcell HH1.out
 have q2 : W2.cell? ⟨w.heap.size + 1, 2, none⟩ = some (.string title2) := rowcell HH2.out
 have p3 : W2.cell? ⟨w.heap.size, 3, none⟩ = some (.slice ao n1 cap) := rowcell HH1.out
 have q3 : W2.cell? ⟨w.heap.size + 1, 3, none⟩ = some (.slice ao2 n2 cap2) := rowcell HH2.out
 have p4 : W2.cell? ⟨w.heap.size, 4, none⟩ = some (.int .i64 changed) := rowcell HH1.out
 have q4 : W2.cell? ⟨w.heap.size + 1, 4, none⟩ = some (.int .i64 changed2) := rowcell HH2.out
 by_cases e0 : lang = lang2
 ·subst e0
  by_cases e1 : rev = rev2
  ·subst e1
   by_cases e2 : title = title2
   ·subst e2
    go_wp2_with fail
    refine (HL.out _ HSW.out).mono ?_
    rintro e w13 ⟨rfl, hb⟩
    have HB := Lib.hid (HB.out.trans (hb.mono HB.out.size))
    have HSW := Lib.hid (HSW.out.bel hb)
    have HH1 := Lib.hid ((hb.block _ (hlt HH1.out)).trans HH1.out)
    have HH2 := Lib.hid ((hb.block _ (hlt HH2.out)).trans HH2.out)
    clear hb p0 q0 p1 q1 p2 q2 p3 q3 p4 q4
    have p0 : w13.cell? ⟨w.heap.size, 0, none⟩ = some (.string lang) := rowcell HH1.out
    have q0 : w13.cell? ⟨w.heap.size + 1, 0, none⟩ = some (.string lang) := rowcell HH2.out
    have p1 : w13.cell? ⟨w.heap.size, 1, none⟩ = some (.int .i64 rev) := rowcell HH1.out
    have q1 : w13.cell? ⟨w.heap.size + 1, 1, none⟩ = some (.int .i64 rev) := rowcell HH2.out
    have p2 : w13.cell? ⟨w.heap.size, 2, none⟩ = some (.string title) := rowcell HH1.out
    have q2 : w13.cell? ⟨w.heap.size + 1, 2, none⟩ = some (.string title) := rowcell HH2.out
    have p3 : w13.cell? ⟨w.heap.size, 3, none⟩ = some (.slice ao n1 cap) := rowcell HH1.out
    have q3 : w13.cell? ⟨w.heap.size + 1, 3, none⟩ = some (.slice ao2 n2 cap2) := rowcell HH2.out
    have p4 : w13.cell? ⟨w.heap.size, 4, none⟩ = some (.int .i64 changed) := rowcell HH1.out
    have q4 : w13.cell? ⟨w.heap.size + 1, 4, none⟩ = some (.int .i64 changed2) := rowcell HH2.out
    have EN : Hid (decide (blocks = blocks2) = false → decide (blocks = blocks2) = false) := Lib.hid (fun h => h)
    have EY : Hid (decide (blocks = blocks2) = true → blocks = blocks2) := Lib.hid of_decide_eq_true
    generalize hq : decide (blocks = blocks2) = q at *
    cases q with
    | false =>
     clear hq EY EN
     have EN := Lib.hid (Eq.refl false)
     go_wp2_with fail
     go_ret
     exact ⟨ret_false (by first | (rw [HR.out]; simp; done) | (simp [EN.out]; done)), HB.out⟩
    | true =>
     clear hq EY EN
     by_cases e4 : changed = changed2
     ·subst e4
      go_wp2_with fail
      go_ret
      exact ⟨ret_true (by first | (rw [HR.out]; simp; done) | (simp; done)), HB.out⟩
     ·have ne : (changed == changed2) = false := by simpa using e4
      have EN := Lib.hid (decide_eq_false e4)
      clear e4
      go_wp2_with fail
      go_ret
      exact ⟨ret_false (by first | (rw [HR.out]; simp [EN.out]; done) | (simp [EN.out]; done)), HB.out⟩
   ·have ne : (title.toList == title2.toList) = false := str_ne e2
    have EN := Lib.hid (decide_eq_false e2)
    clear e2
    go_wp2_with fail
    go_ret
    exact ⟨ret_false (by first | (rw [HR.out]; simp [EN.out]; done) | (simp [EN.out]; done)), HB.out⟩
  ·have ne : (rev == rev2) = false := by simpa using e1
   have EN := Lib.hid (decide_eq_false e1)
   clear e1
   go_wp2_with fail
   go_ret
   exact ⟨ret_false (by first | (rw [HR.out]; simp [EN.out]; done) | (simp [EN.out]; done)), HB.out⟩
 ·have ne : (lang.toList == lang2.toList) = false := str_ne e0
  have EN := Lib.hid (decide_eq_false e0)
  clear e0
  go_wp2_with fail
  go_ret
  exact ⟨ret_false (by first | (rw [HR.out]; simp [EN.out]; done) | (simp [EN.out]; done)), HB.out⟩
set_option maxRecDepth 10000 in
set_option maxHeartbeats 4000000 in
theorem eqEdns_any {mem : Addr → Option Value} {v u : Value} {l m : List EdnF} (h1 : EdnsM mem v l) (h2 : EdnsM mem u m) (w : World) (hs : Sees mem w) :
  Calls Tryz.prog 88 #[v, u, .func (.func 89) #[] #[]] w fun e w' => e = .returned (.bool (decide (l = m))) ∧ Below w.heap.size w w' := by
 obtain ⟨ao, cap, b, o, rfl, hcap, hm, hao, hblks⟩ := SlM.open_ h1
 obtain ⟨ao2, cap2, b2, o2, rfl, hcap2, hm2, hao2, hblks2⟩ := SlM.open_ h2
 have HA := Lib.hid hao
 have HA2 := Lib.hid hao2
 have HB := Lib.hid hblks
 have HB2 := Lib.hid hblks2
 have HS := Lib.hid hs
 have hlen : (l.length : Int) ≤ 9223372036854775807 := by unfold maxLen at hm; omega
 have hlen2 : (m.length : Int) ≤ 9223372036854775807 := by unfold maxLen at hm2; omega
 clear h1 h2 hao hao2 hblks hblks2 hs hcap hcap2 hm hm2
 by_cases hl : l.length = m.length
 ·have HL := Lib.hid hl
  rw [← hl]
  clear hl
  go_enter Tryz.func88, Tryz.ntmps88
  go_wp2_with fail
  go_loopw [17] (fun i wr => ∃ k : Nat, k ≤ l.length ∧ i = .int .i64 k ∧ Below w.heap.size w wr ∧ Hid (l.take k = m.take k)) (fun i _ => l.length - (intOf i).toNat)
  case atStart => exact ⟨0, Nat.zero_le _, rfl, Below.refl _ _, Lib.hid rfl⟩
  case round =>
   obtain ⟨k, hk, rfl, hb, ht⟩ := hrel
   by_cases hlt : k < l.length
   ·have hlt2 : k < m.length := by rw [← HL.out]; exact hlt
    obtain rfl := HA.out (by omega)
    obtain rfl := HA2.out (by omega)
    obtain ⟨hok, bv, hcells, hP⟩ := HB.out k hlt
    obtain ⟨hok2, bv2, hcells2, hP2⟩ := HB2.out k hlt2
    have HV1 : Hid (EdnV mem (.agg (ednCells l[k] bv)) l[k]) := Lib.hid ⟨hok, _, rfl, hP⟩
    have HV2 : Hid (EdnV mem (.agg (ednCells m[k] bv2)) m[k]) := Lib.hid ⟨hok2, _, rfl, hP2⟩
    have HD1 := Lib.hid (cells_see (sz := 5) (HS.out.bel hb) hcells rfl)
    have HD2 := Lib.hid (cells_see (sz := 5) (HS.out.bel hb) hcells2 rfl)
    obtain ⟨a1, q1, rfl⟩ := hP.slice
    obtain ⟨a2, q2, rfl⟩ := hP2.slice
    generalize l[k].blocks.length = n1 at *
    generalize m[k].blocks.length = n2 at *
    clear hok hok2 hcells hcells2 hP hP2
    have HE : Hid (l[k] = m[k] → l.take (k + 1) = m.take (k + 1)) := Lib.hid (take_step hlt hlt2 ht.out)
    have HN : Hid (l[k] ≠ m[k] → decide (l = m) = false) := Lib.hid (fun e => decide_eq_false (ne_of_get hlt hlt2 e))
    have hk0 : (0 : Int) ≤ k := by omega
    have hk1 : (k : Int) < l.length := by omega
    generalize l[k] = x at *
    generalize m[k] = y at *
    have HC : Hid (∀ W, Sees mem W → Calls Tryz.prog 89 #[.agg (ednCells x (.slice a1 n1 q1)), .agg (ednCells y (.slice a2 n2 q2))] W fun e w' => e = .returned (.bool (decide (x = y))) ∧ Below W.heap.size W w') :=
     Lib.hid (fun W hW => sameEdition_any HV1.out HV2.out W hW)
    have HC9 : Hid (decide (x = y) = true → x = y) := Lib.hid of_decide_eq_true
    have HC8 : Hid (decide (x = y) = false → x ≠ y) := Lib.hid of_decide_eq_false
    generalize hq : decide (x = y) = q at *
    have HB0 := Lib.hid hb
    clear hq ht hb
    go_upto_region 6 with (first
     | ((with_reducible refine at_sload 39 _ rfl ?_); go_must (refine wpList_smid rfl S_edn _ rfl (by simp [Act.eval]) (ednCells x (.slice a1 n1 q1)) rfl HD1.out ?_))
     | ((with_reducible refine at_sstore 39 _ _ rfl ?_); go_must (refine wpList_snew rfl S_edn _ _ rfl rfl _ _ (ednCells x (.slice a1 n1 q1)) (by simp [Act.eval]) (by simp [Act.eval]) rfl rfl (by simp [Value.oneCell']) ?_)))
    obtain ⟨W4, hW4⟩ : ∃ W4, W4 = wr.alloc (.cells (ednCells x (.slice a1 n1 q1)) 39) := ⟨_, rfl⟩
    rw [← hW4]
    have hb4 : Below wr.heap.size wr W4 := by rw [hW4]; exact bel1 _ _
    have HN4 : Hid (W4.heap[wr.heap.size]? = some (.cells (ednCells x (.slice a1 n1 q1)) 39 (0, 0))) := Lib.hid (by rw [hW4]; exact World.alloc_heap_new _ _)
    have HD3 := Lib.hid (cells_in HD2.out hb4)
    have HB4 := Lib.hid hb4
    clear hW4 hb4
    go_upto_region 7 with (first
     | ((with_reducible refine at_sload 39 _ rfl ?_); go_must (refine wpList_smid rfl S_edn _ rfl (by simp [Act.eval]) (ednCells y (.slice a2 n2 q2)) rfl HD3.out ?_))
     | ((with_reducible refine at_sstore 39 _ _ rfl ?_); go_must (refine wpList_snew rfl S_edn _ _ rfl rfl _ _ (ednCells y (.slice a2 n2 q2)) (by simp [Act.eval]) (by simp [Act.eval]) rfl rfl (by simp [Value.oneCell']) ?_)))
    obtain ⟨W5, hW5⟩ : ∃ W5, W5 = W4.alloc (.cells (ednCells y (.slice a2 n2 q2)) 39) := ⟨_, rfl⟩
    rw [← hW5]
    have hb5 : Below W4.heap.size W4 W5 := by rw [hW5]; exact bel1 _ _
    have HN6 : Hid (W5.heap[W4.heap.size]? = some (.cells (ednCells y (.slice a2 n2 q2)) 39 (0, 0))) := Lib.hid (by rw [hW5]; exact World.alloc_heap_new _ _)
    have HN5 := Lib.hid ((hb5.block _ (Go.Proofs.YtdkkhmjlamkgdaaGreatDoor.hlt HN4.out)).trans HN4.out)
    have HB5 : Hid (Below w.heap.size w W5) := Lib.hid ((HB0.out.trans (HB4.out.mono HB0.out.size)).trans (hb5.mono (Nat.le_trans HB0.out.size HB4.out.size)))
    have HS5 := Lib.hid (HS.out.bel HB5.out)
    clear hW5 hb5
    go_wp2_with (first
     | ((with_reducible refine at_sload 39 (.tmp 8) rfl ?_); go_must (refine wpList_sload rfl S_edn _ rfl (by simp [Act.eval]) (ednCells x (.slice a1 n1 q1)) rfl HN5.out ?_))
     | ((with_reducible refine at_sload 39 (.tmp 9) rfl ?_); go_must (refine wpList_sload rfl S_edn _ rfl (by simp [Act.eval, Act.put]) (ednCells y (.slice a2 n2 q2)) rfl HN6.out ?_)))
    refine (HC.out _ HS5.out).mono ?_
    rintro e w3 ⟨rfl, hb3⟩
    have hB3 : Below w.heap.size w w3 := HB5.out.trans (hb3.mono HB5.out.size)
    clear hb3 HB0
    cases q with
    | true =>
     have HE2 := Lib.hid (HE.out (HC9.out rfl))
     clear HE HN HC9 HC8
     go_wp2_with fail
     go_roundw
     case rel => exact ⟨k + 1, by omega, by go_num, hB3, HE2⟩
     case measure => simp [intOf]; omega
    | false =>
     have HN2 := Lib.hid (HN.out (HC8.out rfl))
     clear HE HN HC9 HC8
     go_wp2_with fail
     go_ret
     exact ⟨ret_false HN2.out, hB3⟩
   ·have e : k = l.length := by omega
    subst e
    have HF : Hid (decide (l = m) = true) := Lib.hid (decide_eq_true (eq_full HL.out ht.out))
    go_wp2_with fail
    go_ret
    exact ⟨ret_true HF.out, hb⟩
 ·have HNE : Hid (decide (l = m) = false) := Lib.hid (decide_eq_false (fun e => hl (by rw [e])))
  have hne : decide (l.length = m.length) = false := decide_eq_false hl
  go_enter Tryz.func88, Tryz.ntmps88
  go_wp2_with fail
  all_goals first
   | (go_ret; exact ⟨ret_false HNE.out, Below.refl _ _⟩)
   | (exfalso; simp_all; done)
end Go.Proofs.YtdkkhmjlamkgdaaGreatDoor
/-
 WHAT IS PROVED HERE: the walks of slices.Equal at corrections, of state.sameStory and of slices.EqualFunc at stories (printed by tools/sxa.py). No condition.
-/
namespace Go.Proofs.YtdkkhmjlamkgdaaGreatDoor
open Go.RowKit Mg Go.Shelf Go.Maps

theorem wpStill_value {P : Program} {ops : Array Oper} {w : World} {Q : Act → Prop} {a : Act} {o : Oper} {rest : List Oper} (hg : o.guard = none) (v : Value) (hr : (execOp a.eval o).run P w = .ok (.value v) w) (h : wpStill P ops w Q rest (a.put o.dst v)) : wpStill P ops w Q (o :: rest) a := by
 refine wpStill_step fun K hK => ?_
 rw [if_pos (by simp [Region.wanted, hg])]
 unfold Oper.still
 rw [hr, Oper.stillUpon_value]
 exact hK _ h
theorem S_tpl : StructT Tryz.prog 52 2 := ⟨⟨_, Tryz.underlying52⟩, by kernel_rfl, by decide⟩
theorem toList_iff {a b : ByteArray} : (a.toList = b.toList) ↔ a = b := ⟨fun h => str_ext (by rw [← ByteArray.toList_eq, ← ByteArray.toList_eq]; exact h), fun h => by rw [h]⟩
theorem corrCells_neq (x y : Corr) (W : World) : (binOp .neq 69 (.agg (corrCells x)) (.agg (corrCells y))).run Tryz.prog W = .ok (.bool (!decide (x = y))) W := by
 obtain ⟨a0, a1, a2, a3, a4⟩ := x
 obtain ⟨b0, b1, b2, b3, b4⟩ := y
 rw [run_neq_struct, run_equalIn_agg _ _ _ _ _ (by kernel_rfl) (by kernel_rfl)]
 simp only [Program.fieldsOf, Tryz.underlying69]
 go_simp
 simp only [toList_iff]
 by_cases h0 : a0 = b0 <;> by_cases h1 : a1 = b1 <;> by_cases h2 : a2 = b2 <;> by_cases h3 : a3 = b3 <;> by_cases h4 : a4 = b4 <;> simp [h0, h1, h2, h3, h4]
set_option maxRecDepth 10000 in
set_option maxHeartbeats 1000000 in
theorem eqCorrs_any {mem : Addr → Option Value} {v u : Value} {l m : List Corr} (h1 : CorrsM mem v l) (h2 : CorrsM mem u m) (w : World) (hs : Sees mem w) :
  Calls Tryz.prog 90 #[v, u] w fun e w' => e = .returned (.bool (decide (l = m))) ∧ Below w.heap.size w w' := by
 obtain ⟨ao, cap, b, o, rfl, hcap, hm, hao, hcells⟩ := SlM.open_ h1
 obtain ⟨ao2, cap2, b2, o2, rfl, hcap2, hm2, hao2, hcells2⟩ := SlM.open_ h2
 have HS := Lib.hid hs
 have HA := Lib.hid hao
 have HA2 := Lib.hid hao2
 have HC := Lib.hid hcells
 have HC2 := Lib.hid hcells2
 have hlen : (l.length : Int) ≤ 9223372036854775807 := by unfold maxLen at hm; omega
 have hlen2 : (m.length : Int) ≤ 9223372036854775807 := by unfold maxLen at hm2; omega
 clear hao hao2 hcells hcells2 hs h1 h2 hcap hcap2 hm hm2
 by_cases hl : l.length = m.length
 ·have HL := Lib.hid hl
  rw [← hl]
  clear hl
  go_enter Tryz.func90, Tryz.ntmps90
  go_wp2_with fail
  go_loopw [13] (fun i wr => ∃ k : Nat, k ≤ l.length ∧ i = .int .i64 k ∧ Below w.heap.size w wr ∧ Hid (l.take k = m.take k)) (fun i _ => l.length - (intOf i).toNat)
  case atStart => exact ⟨0, Nat.zero_le _, rfl, Below.refl _ _, Lib.hid rfl⟩
  case round =>
   obtain ⟨k, hk, rfl, hb, ht⟩ := hrel
   by_cases hlt : k < l.length
   ·have hlt2 : k < m.length := by rw [← HL.out]; exact hlt
    have g1 := cells_see (sz := 5) (HS.out.bel hb) (HC.out k hlt).2 rfl
    have g2 := cells_see (sz := 5) (HS.out.bel hb) (HC2.out k hlt2).2 rfl
    obtain rfl := HA.out (by omega)
    obtain rfl := HA2.out (by omega)
    have HE : Hid (l[k] = m[k] → l.take (k + 1) = m.take (k + 1)) := Lib.hid (take_step hlt hlt2 ht.out)
    have HN : Hid (l[k] ≠ m[k] → l ≠ m) := Lib.hid (ne_of_get hlt hlt2)
    generalize l[k] = x at *
    generalize m[k] = y at *
    have G1 := Lib.hid g1
    have G2 := Lib.hid g2
    clear g1 g2
    have hqr : ∀ W : World, (binOp .neq 69 (.agg (corrCells x)) (.agg (corrCells y))).run Tryz.prog W = .ok (.bool (!decide (x = y))) W := fun W => corrCells_neq x y W
    have hk0 : (0 : Int) ≤ k := by omega
    have hk1 : (k : Int) < l.length := by omega
    clear ht hlt2
    by_cases hxy : x = y
    ·have HE2 := Lib.hid (HE.out hxy)
     have hxd : decide (x = y) = true := decide_eq_true hxy
     rw [hxd] at hqr
     clear hxy
     clear HE
     go_wp2_with fail
     refine wp_tail 8 (by kernel_rfl) (by kernel_rfl) ?_
     simp only [List.take_succ_cons, List.take_zero, List.drop_succ_cons, List.drop_zero]
     still_step
     still_step
     still_step
     refine wpStill_value rfl _ (exec_smid S_corr _ rfl (by simp [Act.eval]) (corrCells x) rfl G1.out) ?_
     simp only [Act.put, List.setIfInBounds_toArray, List.set_cons_zero, List.set_cons_succ]
     still_step
     still_step
     still_step
     refine wpStill_value rfl _ (exec_smid S_corr _ rfl (by simp [Act.eval]) (corrCells y) rfl G2.out) ?_
     simp only [Act.put, List.setIfInBounds_toArray, List.set_cons_zero, List.set_cons_succ]
     refine wpStill_nil ?_
     go_wp2_with fail
     go_roundw
     case rel => exact ⟨k + 1, by omega, by go_num, hb.drew, HE2⟩
     case measure => simp [intOf]; omega
    ·have hxd : decide (x = y) = false := decide_eq_false hxy
     rw [hxd] at hqr
     have HNE := Lib.hid hxy
     clear hxy
     go_wp2_with fail
     refine wp_tail 8 (by kernel_rfl) (by kernel_rfl) ?_
     simp only [List.take_succ_cons, List.take_zero, List.drop_succ_cons, List.drop_zero]
     still_step
     still_step
     still_step
     refine wpStill_value rfl _ (exec_smid S_corr _ rfl (by simp [Act.eval]) (corrCells x) rfl G1.out) ?_
     simp only [Act.put, List.setIfInBounds_toArray, List.set_cons_zero, List.set_cons_succ]
     still_step
     still_step
     still_step
     refine wpStill_value rfl _ (exec_smid S_corr _ rfl (by simp [Act.eval]) (corrCells y) rfl G2.out) ?_
     simp only [Act.put, List.setIfInBounds_toArray, List.set_cons_zero, List.set_cons_succ]
     refine wpStill_nil ?_
     go_wp2_with fail
     go_ret
     exact ⟨ret_bool (by symm; exact decide_eq_false (HN.out HNE.out)), hb.drew⟩
   ·have e : k = l.length := by omega
    subst e
    have HF : Hid (l = m) := Lib.hid (eq_full HL.out ht.out)
    go_wp2_with fail
    go_ret
    exact ⟨ret_bool (by symm; exact decide_eq_true HF.out), hb⟩
 ·have hne : decide (l.length = m.length) = false := decide_eq_false hl
  have HNE : Hid (l ≠ m) := Lib.hid (fun e => hl (by rw [e]))
  go_enter Tryz.func90, Tryz.ntmps90
  go_wp2_with fail
  all_goals first
   | (go_ret; exact ⟨ret_bool (by symm; exact decide_eq_false HNE.out), Below.refl _ _⟩)
   | (exfalso; simp_all; done)
set_option maxRecDepth 10000 in
set_option maxHeartbeats 4000000 in
theorem sameStory_any {mem : Addr → Option Value} {v u : Value} {x y : StyF} (h1 : StyV mem v x) (h2 : StyV mem u y) (w : World) (hs : Sees mem w) :
  Calls Tryz.prog 59 #[v, u] w fun e w' => e = .returned (.bool (decide (x = y))) ∧ Below w.heap.size w w' := by
 obtain ⟨_, tv, ev, cv, rfl, ht1, he1, hc1⟩ := h1
 obtain ⟨_, tv2, ev2, cv2, rfl, ht2, he2, hc2⟩ := h2
 obtain ⟨id, author, topics, eds, pub, corr, retr, taken⟩ := x
 obtain ⟨id2, author2, topics2, eds2, pub2, corr2, retr2, taken2⟩ := y
 have HT := Lib.hid (fun W hW => eqStrs_any ht1 ht2 W hW)
 have HE := Lib.hid (fun W hW => eqEdns_any he1 he2 W hW)
 have HC := Lib.hid (fun W hW => eqCorrs_any hc1 hc2 W hW)
 obtain ⟨ta, tc, rfl⟩ := ht1.slice
 obtain ⟨ta2, tc2, rfl⟩ := ht2.slice
 obtain ⟨ea, ec, rfl⟩ := SlM.slice he1
 obtain ⟨ea2, ec2, rfl⟩ := SlM.slice he2
 obtain ⟨ca, cc, rfl⟩ := SlM.slice hc1
 obtain ⟨ca2, cc2, rfl⟩ := SlM.slice hc2
 have HR := Lib.hid (sty_dec id author topics eds pub corr retr taken id2 author2 topics2 eds2 pub2 corr2 retr2 taken2)
 have HS := Lib.hid hs
 dsimp only at HT HE HC ⊢
 clear ht1 ht2 he1 he2 hc1 hc2 hs
 generalize hn1 : topics.length = n1 at *
 generalize hn2 : topics2.length = n2 at *
 generalize hn3 : eds.length = n3 at *
 generalize hn4 : eds2.length = n4 at *
 generalize hn5 : corr.length = n5 at *
 generalize hn6 : corr2.length = n6 at *
 clear hn1 hn2 hn3 hn4 hn5 hn6
 obtain ⟨W2, hW2⟩ : ∃ W2, W2 = (w.alloc (.cells #[.int .i64 id, .string author, .slice ta n1 tc, .slice ea n3 ec, .int .i64 pub, .slice ca n5 cc, .bool retr, .bool taken] 34)).alloc (.cells #[.int .i64 id2, .string author2, .slice ta2 n2 tc2, .slice ea2 n4 ec2, .int .i64 pub2, .slice ca2 n6 cc2, .bool retr2, .bool taken2] 34) := ⟨_, rfl⟩
 have hB2 : Below w.heap.size w W2 := by rw [hW2]; exact (bel1 w _).alloc (by simp) _
 have HN1 : Hid (W2.heap[w.heap.size]? = some (.cells #[.int .i64 id, .string author, .slice ta n1 tc, .slice ea n3 ec, .int .i64 pub, .slice ca n5 cc, .bool retr, .bool taken] 34 (0, 0))) := Lib.hid (by rw [hW2]; exact heap_new1 w _ _)
 have HN2 : Hid (W2.heap[w.heap.size + 1]? = some (.cells #[.int .i64 id2, .string author2, .slice ta2 n2 tc2, .slice ea2 n4 ec2, .int .i64 pub2, .slice ca2 n6 cc2, .bool retr2, .bool taken2] 34 (0, 0))) := Lib.hid (by
  rw [hW2]
  have := World.alloc_heap_new (w.alloc (.cells #[.int .i64 id, .string author, .slice ta n1 tc, .slice ea n3 ec, .int .i64 pub, .slice ca n5 cc, .bool retr, .bool taken] 34)) (.cells #[.int .i64 id2, .string author2, .slice ta2 n2 tc2, .slice ea2 n4 ec2, .int .i64 pub2, .slice ca2 n6 cc2, .bool retr2, .bool taken2] 34)
  simpa using this)
 have HB2 := Lib.hid hB2
 have HW2 := Lib.hid hW2
 have HS2 := Lib.hid (HS.out.bel hB2)
 clear hB2 hW2
 go_enter Tryz.func59, Tryz.ntmps59
 go_upto_region 1 with fail
 rw [← HW2.out]
 have HB := HB2
 have HSW := HS2
 have HH1 := HN1
 have HH2 := HN2
 clear HB2 HS2 HN1 HN2 HW2
 have p0 : W2.cell? ⟨w.heap.size, 0, none⟩ = some (.int .i64 id) := rowcell HH1.out
 have q0 : W2.cell? ⟨w.heap.size + 1, 0, none⟩ = some (.int .i64 id2) := rowcell HH2.out
 have p1 : W2.cell? ⟨w.heap.size, 1, none⟩ = some (.string author) := rowcell HH1.out
 have q1 : W2.cell? ⟨w.heap.size + 1, 1, none⟩ = some (.string author2) := rowcell HH2.out
 have p2 : W2.cell? ⟨w.heap.size, 2, none⟩ = some (.slice ta n1 tc) := rowcell HH1.out
 have q2 : W2.cell? ⟨w.heap.size + 1, 2, none⟩ = some (.slice ta2 n2 tc2) := rowcell HH2.out
 have p3 : W2.cell? ⟨w.heap.size, 3, none⟩ = some (.slice ea n3 ec) := rowcell HH1.out
 have q3 : W2.cell? ⟨w.heap.size + 1, 3, none⟩ = some (.slice ea2 n4 ec2) := rowcell HH2.out
 have p4 : W2.cell? ⟨w.heap.size, 4, none⟩ = some (.int .i64 pub) := rowcell HH1.out
 have q4 : W2.cell? ⟨w.heap.size + 1, 4, none⟩ = some (.int .i64 pub2) := rowcell HH2.out
 have p5 : W2.cell? ⟨w.heap.size, 5, none⟩ = some (.slice ca n5 cc) := rowcell HH1.out
 have q5 : W2.cell? ⟨w.heap.size + 1, 5, none⟩ = some (.slice ca2 n6 cc2) := rowcell HH2.out
 have p6 : W2.cell? ⟨w.heap.size, 6, none⟩ = some (.bool retr) := rowcell HH1.out
 have q6 : W2.cell? ⟨w.heap.size + 1, 6, none⟩ = some (.bool retr2) := rowcell HH2.out
 have p7 : W2.cell? ⟨w.heap.size, 7, none⟩ = some (.bool taken) := rowcell HH1.out
 have q7 : W2.cell? ⟨w.heap.size + 1, 7, none⟩ = some (.bool taken2) := rowcell HH2.out
 by_cases e0 : id = id2
 ·subst e0
  by_cases e1 : author = author2
  ·subst e1
   go_wp2_with fail
   refine (HT.out _ HSW.out).mono ?_
   rintro e w12 ⟨rfl, hb⟩
   have HB := Lib.hid (HB.out.trans (hb.mono HB.out.size))
   have HSW := Lib.hid (HSW.out.bel hb)
   have HH1 := Lib.hid ((hb.block _ (hlt HH1.out)).trans HH1.out)
   have HH2 := Lib.hid ((hb.block _ (hlt HH2.out)).trans HH2.out)
   clear hb p0 q0 p1 q1 p2 q2 p3 q3 p4 q4 p5 q5 p6 q6 p7 q7
   have p0 : w12.cell? ⟨w.heap.size, 0, none⟩ = some (.int .i64 id) := rowcell HH1.out
   have q0 : w12.cell? ⟨w.heap.size + 1, 0, none⟩ = some (.int .i64 id) := rowcell HH2.out
   have p1 : w12.cell? ⟨w.heap.size, 1, none⟩ = some (.string author) := rowcell HH1.out
   have q1 : w12.cell? ⟨w.heap.size + 1, 1, none⟩ = some (.string author) := rowcell HH2.out
   have p2 : w12.cell? ⟨w.heap.size, 2, none⟩ = some (.slice ta n1 tc) := rowcell HH1.out
   have q2 : w12.cell? ⟨w.heap.size + 1, 2, none⟩ = some (.slice ta2 n2 tc2) := rowcell HH2.out
   have p3 : w12.cell? ⟨w.heap.size, 3, none⟩ = some (.slice ea n3 ec) := rowcell HH1.out
   have q3 : w12.cell? ⟨w.heap.size + 1, 3, none⟩ = some (.slice ea2 n4 ec2) := rowcell HH2.out
   have p4 : w12.cell? ⟨w.heap.size, 4, none⟩ = some (.int .i64 pub) := rowcell HH1.out
   have q4 : w12.cell? ⟨w.heap.size + 1, 4, none⟩ = some (.int .i64 pub2) := rowcell HH2.out
   have p5 : w12.cell? ⟨w.heap.size, 5, none⟩ = some (.slice ca n5 cc) := rowcell HH1.out
   have q5 : w12.cell? ⟨w.heap.size + 1, 5, none⟩ = some (.slice ca2 n6 cc2) := rowcell HH2.out
   have p6 : w12.cell? ⟨w.heap.size, 6, none⟩ = some (.bool retr) := rowcell HH1.out
   have q6 : w12.cell? ⟨w.heap.size + 1, 6, none⟩ = some (.bool retr2) := rowcell HH2.out
   have p7 : w12.cell? ⟨w.heap.size, 7, none⟩ = some (.bool taken) := rowcell HH1.out
   have q7 : w12.cell? ⟨w.heap.size + 1, 7, none⟩ = some (.bool taken2) := rowcell HH2.out
   have EN : Hid (decide (topics = topics2) = false → decide (topics = topics2) = false) := Lib.hid (fun h => h)
   have EY : Hid (decide (topics = topics2) = true → topics = topics2) := Lib.hid of_decide_eq_true
   generalize hq : decide (topics = topics2) = q at *
   cases q with
   | false =>
    clear hq EY EN
    have EN := Lib.hid (Eq.refl false)
    go_wp2_with fail
    go_ret
    exact ⟨ret_false (by first | (rw [HR.out]; simp; done) | (simp [EN.out]; done)), HB.out⟩
   | true =>
    clear hq EY EN
    go_wp2_with fail
    refine (HE.out _ HSW.out).mono ?_
    rintro e w13 ⟨rfl, hb⟩
    have HB := Lib.hid (HB.out.trans (hb.mono HB.out.size))
    have HSW := Lib.hid (HSW.out.bel hb)
    have HH1 := Lib.hid ((hb.block _ (hlt HH1.out)).trans HH1.out)
    have HH2 := Lib.hid ((hb.block _ (hlt HH2.out)).trans HH2.out)
    clear hb p0 q0 p1 q1 p2 q2 p3 q3 p4 q4 p5 q5 p6 q6 p7 q7
    have p0 : w13.cell? ⟨w.heap.size, 0, none⟩ = some (.int .i64 id) := rowcell HH1.out
    have q0 : w13.cell? ⟨w.heap.size + 1, 0, none⟩ = some (.int .i64 id) := rowcell HH2.out
    have p1 : w13.cell? ⟨w.heap.size, 1, none⟩ = some (.string author) := rowcell HH1.out
    have q1 : w13.cell? ⟨w.heap.size + 1, 1, none⟩ = some (.string author) := rowcell HH2.out
    have p2 : w13.cell? ⟨w.heap.size, 2, none⟩ = some (.slice ta n1 tc) := rowcell HH1.out
    have q2 : w13.cell? ⟨w.heap.size + 1, 2, none⟩ = some (.slice ta2 n2 tc2) := rowcell HH2.out
    have p3 : w13.cell? ⟨w.heap.size, 3, none⟩ = some (.slice ea n3 ec) := rowcell HH1.out
    have q3 : w13.cell? ⟨w.heap.size + 1, 3, none⟩ = some (.slice ea2 n4 ec2) := rowcell HH2.out
    have p4 : w13.cell? ⟨w.heap.size, 4, none⟩ = some (.int .i64 pub) := rowcell HH1.out
    have q4 : w13.cell? ⟨w.heap.size + 1, 4, none⟩ = some (.int .i64 pub2) := rowcell HH2.out
    have p5 : w13.cell? ⟨w.heap.size, 5, none⟩ = some (.slice ca n5 cc) := rowcell HH1.out
    have q5 : w13.cell? ⟨w.heap.size + 1, 5, none⟩ = some (.slice ca2 n6 cc2) := rowcell HH2.out
    have p6 : w13.cell? ⟨w.heap.size, 6, none⟩ = some (.bool retr) := rowcell HH1.out
    have q6 : w13.cell? ⟨w.heap.size + 1, 6, none⟩ = some (.bool retr2) := rowcell HH2.out
    have p7 : w13.cell? ⟨w.heap.size, 7, none⟩ = some (.bool taken) := rowcell HH1.out
    have q7 : w13.cell? ⟨w.heap.size + 1, 7, none⟩ = some (.bool taken2) := rowcell HH2.out
    have EN : Hid (decide (eds = eds2) = false → decide (eds = eds2) = false) := Lib.hid (fun h => h)
    have EY : Hid (decide (eds = eds2) = true → eds = eds2) := Lib.hid of_decide_eq_true
    generalize hq : decide (eds = eds2) = q at *
    cases q with
    | false =>
     clear hq EY EN
     have EN := Lib.hid (Eq.refl false)
     go_wp2_with fail
     go_ret
     exact ⟨ret_false (by first | (rw [HR.out]; simp; done) | (simp [EN.out]; done)), HB.out⟩
    | true =>
     clear hq EY EN
     by_cases e4 : pub = pub2
     ·subst e4
      go_wp2_with fail
      refine (HC.out _ HSW.out).mono ?_
      rintro e w15 ⟨rfl, hb⟩
      have HB := Lib.hid (HB.out.trans (hb.mono HB.out.size))
      have HSW := Lib.hid (HSW.out.bel hb)
      have HH1 := Lib.hid ((hb.block _ (hlt HH1.out)).trans HH1.out)
      have HH2 := Lib.hid ((hb.block _ (hlt HH2.out)).trans HH2.out)
      clear hb p0 q0 p1 q1 p2 q2 p3 q3 p4 q4 p5 q5 p6 q6 p7 q7
      have p0 : w15.cell? ⟨w.heap.size, 0, none⟩ = some (.int .i64 id) := rowcell HH1.out
      have q0 : w15.cell? ⟨w.heap.size + 1, 0, none⟩ = some (.int .i64 id) := rowcell HH2.out
      have p1 : w15.cell? ⟨w.heap.size, 1, none⟩ = some (.string author) := rowcell HH1.out
      have q1 : w15.cell? ⟨w.heap.size + 1, 1, none⟩ = some (.string author) := rowcell HH2.out
      have p2 : w15.cell? ⟨w.heap.size, 2, none⟩ = some (.slice ta n1 tc) := rowcell HH1.out
      have q2 : w15.cell? ⟨w.heap.size + 1, 2, none⟩ = some (.slice ta2 n2 tc2) := rowcell HH2.out
      have p3 : w15.cell? ⟨w.heap.size, 3, none⟩ = some (.slice ea n3 ec) := rowcell HH1.out
      have q3 : w15.cell? ⟨w.heap.size + 1, 3, none⟩ = some (.slice ea2 n4 ec2) := rowcell HH2.out
      have p4 : w15.cell? ⟨w.heap.size, 4, none⟩ = some (.int .i64 pub) := rowcell HH1.out
      have q4 : w15.cell? ⟨w.heap.size + 1, 4, none⟩ = some (.int .i64 pub) := rowcell HH2.out
      have p5 : w15.cell? ⟨w.heap.size, 5, none⟩ = some (.slice ca n5 cc) := rowcell HH1.out
      have q5 : w15.cell? ⟨w.heap.size + 1, 5, none⟩ = some (.slice ca2 n6 cc2) := rowcell HH2.out
      have p6 : w15.cell? ⟨w.heap.size, 6, none⟩ = some (.bool retr) := rowcell HH1.out
      have q6 : w15.cell? ⟨w.heap.size + 1, 6, none⟩ = some (.bool retr2) := rowcell HH2.out
      have p7 : w15.cell? ⟨w.heap.size, 7, none⟩ = some (.bool taken) := rowcell HH1.out
      have q7 : w15.cell? ⟨w.heap.size + 1, 7, none⟩ = some (.bool taken2) := rowcell HH2.out
      have EN : Hid (decide (corr = corr2) = false → decide (corr = corr2) = false) := Lib.hid (fun h => h)
      have EY : Hid (decide (corr = corr2) = true → corr = corr2) := Lib.hid of_decide_eq_true
      generalize hq : decide (corr = corr2) = q at *
      cases q with
      | false =>
       clear hq EY EN
       have EN := Lib.hid (Eq.refl false)
       go_wp2_with fail
       go_ret
       exact ⟨ret_false (by first | (rw [HR.out]; simp; done) | (simp [EN.out]; done)), HB.out⟩
      | true =>
       clear hq EY EN
       by_cases e6 : retr = retr2
       ·subst e6
        by_cases e7 : taken = taken2
        ·subst e7
         go_wp2_with fail
         go_ret
         exact ⟨ret_true (by first | (rw [HR.out]; simp; done) | (simp; done)), HB.out⟩
        ·have ne : (taken == taken2) = false := by simpa using e7
         have EN := Lib.hid (decide_eq_false e7)
         clear e7
         go_wp2_with fail
         go_ret
         exact ⟨ret_false (by first | (rw [HR.out]; simp [EN.out]; done) | (simp [EN.out]; done)), HB.out⟩
       ·have ne : (retr == retr2) = false := by simpa using e6
        have EN := Lib.hid (decide_eq_false e6)
        clear e6
        go_wp2_with fail
        go_ret
        exact ⟨ret_false (by first | (rw [HR.out]; simp [EN.out]; done) | (simp [EN.out]; done)), HB.out⟩
     ·have ne : (pub == pub2) = false := by simpa using e4
      have EN := Lib.hid (decide_eq_false e4)
      clear e4
      go_wp2_with fail
      go_ret
      exact ⟨ret_false (by first | (rw [HR.out]; simp [EN.out]; done) | (simp [EN.out]; done)), HB.out⟩
  ·have ne : (author.toList == author2.toList) = false := str_ne e1
   have EN := Lib.hid (decide_eq_false e1)
   clear e1
   go_wp2_with fail
   go_ret
   exact ⟨ret_false (by first | (rw [HR.out]; simp [EN.out]; done) | (simp [EN.out]; done)), HB.out⟩
 ·have ne : (id == id2) = false := by simpa using e0
  have EN := Lib.hid (decide_eq_false e0)
  clear e0
  go_wp2_with fail
  go_ret
  exact ⟨ret_false (by first | (rw [HR.out]; simp [EN.out]; done) | (simp [EN.out]; done)), HB.out⟩
set_option maxRecDepth 10000 in
set_option maxHeartbeats 4000000 in
theorem eqStys_any {mem : Addr → Option Value} {v u : Value} {l m : List StyF} (h1 : StysM mem v l) (h2 : StysM mem u m) (w : World) (hs : Sees mem w) :
  Calls Tryz.prog 58 #[v, u, .func (.func 59) #[] #[]] w fun e w' => e = .returned (.bool (decide (l = m))) ∧ Below w.heap.size w w' := by
 obtain ⟨ao, cap, b, o, rfl, hcap, hm, hao, hblks⟩ := SlM.open_ h1
 obtain ⟨ao2, cap2, b2, o2, rfl, hcap2, hm2, hao2, hblks2⟩ := SlM.open_ h2
 have HA := Lib.hid hao
 have HA2 := Lib.hid hao2
 have HB := Lib.hid hblks
 have HB2 := Lib.hid hblks2
 have HS := Lib.hid hs
 have hlen : (l.length : Int) ≤ 9223372036854775807 := by unfold maxLen at hm; omega
 have hlen2 : (m.length : Int) ≤ 9223372036854775807 := by unfold maxLen at hm2; omega
 clear h1 h2 hao hao2 hblks hblks2 hs hcap hcap2 hm hm2
 by_cases hl : l.length = m.length
 ·have HL := Lib.hid hl
  rw [← hl]
  clear hl
  go_enter Tryz.func58, Tryz.ntmps58
  go_wp2_with fail
  go_loopw [17] (fun i wr => ∃ k : Nat, k ≤ l.length ∧ i = .int .i64 k ∧ Below w.heap.size w wr ∧ Hid (l.take k = m.take k)) (fun i _ => l.length - (intOf i).toNat)
  case atStart => exact ⟨0, Nat.zero_le _, rfl, Below.refl _ _, Lib.hid rfl⟩
  case round =>
   obtain ⟨k, hk, rfl, hb, ht⟩ := hrel
   by_cases hlt : k < l.length
   ·have hlt2 : k < m.length := by rw [← HL.out]; exact hlt
    obtain rfl := HA.out (by omega)
    obtain rfl := HA2.out (by omega)
    obtain ⟨hok, tv, ev, cv, hcells, hP⟩ := HB.out k hlt
    obtain ⟨hok2, tv2, ev2, cv2, hcells2, hP2⟩ := HB2.out k hlt2
    have HV1 : Hid (StyV mem (.agg (styCells l[k] tv ev cv)) l[k]) := Lib.hid ⟨hok, _, _, _, rfl, hP⟩
    have HV2 : Hid (StyV mem (.agg (styCells m[k] tv2 ev2 cv2)) m[k]) := Lib.hid ⟨hok2, _, _, _, rfl, hP2⟩
    have HD1 := Lib.hid (cells_see (sz := 8) (HS.out.bel hb) hcells rfl)
    have HD2 := Lib.hid (cells_see (sz := 8) (HS.out.bel hb) hcells2 rfl)
    obtain ⟨t1, t2, e1, e2, c1, c2, rfl, rfl, rfl⟩ := hP.shape
    obtain ⟨t3, t4, e3, e4, c3, c4, rfl, rfl, rfl⟩ := hP2.shape
    generalize l[k].topics.length = n1 at *
    generalize l[k].eds.length = n2 at *
    generalize l[k].corr.length = n3 at *
    generalize m[k].topics.length = n4 at *
    generalize m[k].eds.length = n5 at *
    generalize m[k].corr.length = n6 at *
    clear hok hok2 hcells hcells2 hP hP2
    have HE : Hid (l[k] = m[k] → l.take (k + 1) = m.take (k + 1)) := Lib.hid (take_step hlt hlt2 ht.out)
    have HN : Hid (l[k] ≠ m[k] → decide (l = m) = false) := Lib.hid (fun e => decide_eq_false (ne_of_get hlt hlt2 e))
    have hk0 : (0 : Int) ≤ k := by omega
    have hk1 : (k : Int) < l.length := by omega
    generalize l[k] = x at *
    generalize m[k] = y at *
    have HC : Hid (∀ W, Sees mem W → Calls Tryz.prog 59 #[.agg (styCells x (.slice t1 n1 t2) (.slice e1 n2 e2) (.slice c1 n3 c2)), .agg (styCells y (.slice t3 n4 t4) (.slice e3 n5 e4) (.slice c3 n6 c4))] W fun e w' => e = .returned (.bool (decide (x = y))) ∧ Below W.heap.size W w') :=
     Lib.hid (fun W hW => sameStory_any HV1.out HV2.out W hW)
    have HC9 : Hid (decide (x = y) = true → x = y) := Lib.hid of_decide_eq_true
    have HC8 : Hid (decide (x = y) = false → x ≠ y) := Lib.hid of_decide_eq_false
    generalize hq : decide (x = y) = q at *
    have HB0 := Lib.hid hb
    clear hq ht hb
    go_upto_region 6 with (first
     | ((with_reducible refine at_sload 34 _ rfl ?_); go_must (refine wpList_smid rfl S_sty _ rfl (by simp [Act.eval]) (styCells x (.slice t1 n1 t2) (.slice e1 n2 e2) (.slice c1 n3 c2)) rfl HD1.out ?_))
     | ((with_reducible refine at_sstore 34 _ _ rfl ?_); go_must (refine wpList_snew rfl S_sty _ _ rfl rfl _ _ (styCells x (.slice t1 n1 t2) (.slice e1 n2 e2) (.slice c1 n3 c2)) (by simp [Act.eval]) (by simp [Act.eval]) rfl rfl (by simp [Value.oneCell']) ?_)))
    obtain ⟨W4, hW4⟩ : ∃ W4, W4 = wr.alloc (.cells (styCells x (.slice t1 n1 t2) (.slice e1 n2 e2) (.slice c1 n3 c2)) 34) := ⟨_, rfl⟩
    rw [← hW4]
    have hb4 : Below wr.heap.size wr W4 := by rw [hW4]; exact bel1 _ _
    have HN4 : Hid (W4.heap[wr.heap.size]? = some (.cells (styCells x (.slice t1 n1 t2) (.slice e1 n2 e2) (.slice c1 n3 c2)) 34 (0, 0))) := Lib.hid (by rw [hW4]; exact World.alloc_heap_new _ _)
    have HD3 := Lib.hid (cells_in HD2.out hb4)
    have HB4 := Lib.hid hb4
    clear hW4 hb4
    go_upto_region 7 with (first
     | ((with_reducible refine at_sload 34 _ rfl ?_); go_must (refine wpList_smid rfl S_sty _ rfl (by simp [Act.eval]) (styCells y (.slice t3 n4 t4) (.slice e3 n5 e4) (.slice c3 n6 c4)) rfl HD3.out ?_))
     | ((with_reducible refine at_sstore 34 _ _ rfl ?_); go_must (refine wpList_snew rfl S_sty _ _ rfl rfl _ _ (styCells y (.slice t3 n4 t4) (.slice e3 n5 e4) (.slice c3 n6 c4)) (by simp [Act.eval]) (by simp [Act.eval]) rfl rfl (by simp [Value.oneCell']) ?_)))
    obtain ⟨W5, hW5⟩ : ∃ W5, W5 = W4.alloc (.cells (styCells y (.slice t3 n4 t4) (.slice e3 n5 e4) (.slice c3 n6 c4)) 34) := ⟨_, rfl⟩
    rw [← hW5]
    have hb5 : Below W4.heap.size W4 W5 := by rw [hW5]; exact bel1 _ _
    have HN6 : Hid (W5.heap[W4.heap.size]? = some (.cells (styCells y (.slice t3 n4 t4) (.slice e3 n5 e4) (.slice c3 n6 c4)) 34 (0, 0))) := Lib.hid (by rw [hW5]; exact World.alloc_heap_new _ _)
    have HN5 := Lib.hid ((hb5.block _ (Go.Proofs.YtdkkhmjlamkgdaaGreatDoor.hlt HN4.out)).trans HN4.out)
    have HB5 : Hid (Below w.heap.size w W5) := Lib.hid ((HB0.out.trans (HB4.out.mono HB0.out.size)).trans (hb5.mono (Nat.le_trans HB0.out.size HB4.out.size)))
    have HS5 := Lib.hid (HS.out.bel HB5.out)
    clear hW5 hb5
    go_wp2_with (first
     | ((with_reducible refine at_sload 34 (.tmp 8) rfl ?_); go_must (refine wpList_sload rfl S_sty _ rfl (by simp [Act.eval]) (styCells x (.slice t1 n1 t2) (.slice e1 n2 e2) (.slice c1 n3 c2)) rfl HN5.out ?_))
     | ((with_reducible refine at_sload 34 (.tmp 9) rfl ?_); go_must (refine wpList_sload rfl S_sty _ rfl (by simp [Act.eval, Act.put]) (styCells y (.slice t3 n4 t4) (.slice e3 n5 e4) (.slice c3 n6 c4)) rfl HN6.out ?_)))
    refine (HC.out _ HS5.out).mono ?_
    rintro e w3 ⟨rfl, hb3⟩
    have hB3 : Below w.heap.size w w3 := HB5.out.trans (hb3.mono HB5.out.size)
    clear hb3 HB0
    cases q with
    | true =>
     have HE2 := Lib.hid (HE.out (HC9.out rfl))
     clear HE HN HC9 HC8
     go_wp2_with fail
     go_roundw
     case rel => exact ⟨k + 1, by omega, by go_num, hB3, HE2⟩
     case measure => simp [intOf]; omega
    | false =>
     have HN2 := Lib.hid (HN.out (HC8.out rfl))
     clear HE HN HC9 HC8
     go_wp2_with fail
     go_ret
     exact ⟨ret_false HN2.out, hB3⟩
   ·have e : k = l.length := by omega
    subst e
    have HF : Hid (decide (l = m) = true) := Lib.hid (decide_eq_true (eq_full HL.out ht.out))
    go_wp2_with fail
    go_ret
    exact ⟨ret_true HF.out, hb⟩
 ·have HNE : Hid (decide (l = m) = false) := Lib.hid (decide_eq_false (fun e => hl (by rw [e])))
  have hne : decide (l.length = m.length) = false := decide_eq_false hl
  go_enter Tryz.func58, Tryz.ntmps58
  go_wp2_with fail
  all_goals first
   | (go_ret; exact ⟨ret_false HNE.out, Below.refl _ _⟩)
   | (exfalso; simp_all; done)
end Go.Proofs.YtdkkhmjlamkgdaaGreatDoor
/-
 WHAT IS PROVED HERE: the walks of slices.Equal at templates and of state.Same (printed by tools/sxa.py). No condition.
-/
namespace Go.Proofs.YtdkkhmjlamkgdaaGreatDoor
open Go.RowKit Mg Go.Shelf Go.Maps

theorem tplCells_neq (x y : TplF) (W : World) : (binOp .neq 52 (.agg (tplCells x)) (.agg (tplCells y))).run Tryz.prog W = .ok (.bool (!decide (x = y))) W := by
 obtain ⟨a0, a1⟩ := x
 obtain ⟨b0, b1⟩ := y
 rw [run_neq_struct, run_equalIn_agg _ _ _ _ _ (by kernel_rfl) (by kernel_rfl)]
 simp only [Program.fieldsOf, Tryz.underlying52]
 go_simp
 simp only [toList_iff]
 by_cases h0 : a0 = b0 <;> by_cases h1 : a1 = b1 <;> simp [h0, h1]
set_option maxRecDepth 10000 in
set_option maxHeartbeats 1000000 in
theorem eqTpls_any {mem : Addr → Option Value} {v u : Value} {l m : List TplF} (h1 : TplsM mem v l) (h2 : TplsM mem u m) (w : World) (hs : Sees mem w) :
  Calls Tryz.prog 60 #[v, u] w fun e w' => e = .returned (.bool (decide (l = m))) ∧ Below w.heap.size w w' := by
 obtain ⟨ao, cap, b, o, rfl, hcap, hm, hao, hcells⟩ := SlM.open_ h1
 obtain ⟨ao2, cap2, b2, o2, rfl, hcap2, hm2, hao2, hcells2⟩ := SlM.open_ h2
 have HS := Lib.hid hs
 have HA := Lib.hid hao
 have HA2 := Lib.hid hao2
 have HC := Lib.hid hcells
 have HC2 := Lib.hid hcells2
 have hlen : (l.length : Int) ≤ 9223372036854775807 := by unfold maxLen at hm; omega
 have hlen2 : (m.length : Int) ≤ 9223372036854775807 := by unfold maxLen at hm2; omega
 clear hao hao2 hcells hcells2 hs h1 h2 hcap hcap2 hm hm2
 by_cases hl : l.length = m.length
 ·have HL := Lib.hid hl
  rw [← hl]
  clear hl
  go_enter Tryz.func60, Tryz.ntmps60
  go_wp2_with fail
  go_loopw [13] (fun i wr => ∃ k : Nat, k ≤ l.length ∧ i = .int .i64 k ∧ Below w.heap.size w wr ∧ Hid (l.take k = m.take k)) (fun i _ => l.length - (intOf i).toNat)
  case atStart => exact ⟨0, Nat.zero_le _, rfl, Below.refl _ _, Lib.hid rfl⟩
  case round =>
   obtain ⟨k, hk, rfl, hb, ht⟩ := hrel
   by_cases hlt : k < l.length
   ·have hlt2 : k < m.length := by rw [← HL.out]; exact hlt
    have g1 := cells_see (sz := 2) (HS.out.bel hb) (HC.out k hlt).2 rfl
    have g2 := cells_see (sz := 2) (HS.out.bel hb) (HC2.out k hlt2).2 rfl
    obtain rfl := HA.out (by omega)
    obtain rfl := HA2.out (by omega)
    have HE : Hid (l[k] = m[k] → l.take (k + 1) = m.take (k + 1)) := Lib.hid (take_step hlt hlt2 ht.out)
    have HN : Hid (l[k] ≠ m[k] → l ≠ m) := Lib.hid (ne_of_get hlt hlt2)
    generalize l[k] = x at *
    generalize m[k] = y at *
    have G1 := Lib.hid g1
    have G2 := Lib.hid g2
    clear g1 g2
    have hqr : ∀ W : World, (binOp .neq 52 (.agg (tplCells x)) (.agg (tplCells y))).run Tryz.prog W = .ok (.bool (!decide (x = y))) W := fun W => tplCells_neq x y W
    have hk0 : (0 : Int) ≤ k := by omega
    have hk1 : (k : Int) < l.length := by omega
    clear ht hlt2
    by_cases hxy : x = y
    ·have HE2 := Lib.hid (HE.out hxy)
     have hxd : decide (x = y) = true := decide_eq_true hxy
     rw [hxd] at hqr
     clear hxy
     clear HE
     go_wp2_with fail
     refine wp_tail 8 (by kernel_rfl) (by kernel_rfl) ?_
     simp only [List.take_succ_cons, List.take_zero, List.drop_succ_cons, List.drop_zero]
     still_step
     still_step
     still_step
     refine wpStill_value rfl _ (exec_smid S_tpl _ rfl (by simp [Act.eval]) (tplCells x) rfl G1.out) ?_
     simp only [Act.put, List.setIfInBounds_toArray, List.set_cons_zero, List.set_cons_succ]
     still_step
     still_step
     still_step
     refine wpStill_value rfl _ (exec_smid S_tpl _ rfl (by simp [Act.eval]) (tplCells y) rfl G2.out) ?_
     simp only [Act.put, List.setIfInBounds_toArray, List.set_cons_zero, List.set_cons_succ]
     refine wpStill_nil ?_
     go_wp2_with fail
     go_roundw
     case rel => exact ⟨k + 1, by omega, by go_num, hb.drew, HE2⟩
     case measure => simp [intOf]; omega
    ·have hxd : decide (x = y) = false := decide_eq_false hxy
     rw [hxd] at hqr
     have HNE := Lib.hid hxy
     clear hxy
     go_wp2_with fail
     refine wp_tail 8 (by kernel_rfl) (by kernel_rfl) ?_
     simp only [List.take_succ_cons, List.take_zero, List.drop_succ_cons, List.drop_zero]
     still_step
     still_step
     still_step
     refine wpStill_value rfl _ (exec_smid S_tpl _ rfl (by simp [Act.eval]) (tplCells x) rfl G1.out) ?_
     simp only [Act.put, List.setIfInBounds_toArray, List.set_cons_zero, List.set_cons_succ]
     still_step
     still_step
     still_step
     refine wpStill_value rfl _ (exec_smid S_tpl _ rfl (by simp [Act.eval]) (tplCells y) rfl G2.out) ?_
     simp only [Act.put, List.setIfInBounds_toArray, List.set_cons_zero, List.set_cons_succ]
     refine wpStill_nil ?_
     go_wp2_with fail
     go_ret
     exact ⟨ret_bool (by symm; exact decide_eq_false (HN.out HNE.out)), hb.drew⟩
   ·have e : k = l.length := by omega
    subst e
    have HF : Hid (l = m) := Lib.hid (eq_full HL.out ht.out)
    go_wp2_with fail
    go_ret
    exact ⟨ret_bool (by symm; exact decide_eq_true HF.out), hb⟩
 ·have hne : decide (l.length = m.length) = false := decide_eq_false hl
  have HNE : Hid (l ≠ m) := Lib.hid (fun e => hl (by rw [e]))
  go_enter Tryz.func60, Tryz.ntmps60
  go_wp2_with fail
  all_goals first
   | (go_ret; exact ⟨ret_bool (by symm; exact decide_eq_false HNE.out), Below.refl _ _⟩)
   | (exfalso; simp_all; done)
set_option maxRecDepth 10000 in
set_option maxHeartbeats 4000000 in
theorem same_law {mem : Addr → Option Value} {v u : Value} {x y : StF} (h1 : StateM mem v x) (h2 : StateM mem u y) (w : World) (hs : Sees mem w) :
  Calls Tryz.prog 31 #[v, u] w fun e w' => e = .returned (.bool (decide (x = y))) ∧ Below w.heap.size w w' := by
 obtain ⟨sv, tv, rfl, hs1, ht1⟩ := h1
 obtain ⟨sv2, tv2, rfl, hs2, ht2⟩ := h2
 obtain ⟨sts, tps⟩ := x
 obtain ⟨sts2, tps2⟩ := y
 dsimp only at hs1 ht1 hs2 ht2
 have HL := Lib.hid (fun W hW => eqStys_any hs1 hs2 W hW)
 have HT := Lib.hid (fun W hW => eqTpls_any ht1 ht2 W hW)
 obtain ⟨a, c, rfl⟩ := SlM.slice hs1
 obtain ⟨a2, c2, rfl⟩ := SlM.slice hs2
 obtain ⟨b, d, rfl⟩ := SlM.slice ht1
 obtain ⟨b2, d2, rfl⟩ := SlM.slice ht2
 have HR : Hid (decide ((⟨sts, tps⟩ : StF) = ⟨sts2, tps2⟩) = (decide (sts = sts2) && decide (tps = tps2))) := Lib.hid (by simp only [StF.mk.injEq, Bool.decide_and])
 have HS := Lib.hid hs
 clear hs1 hs2 ht1 ht2 hs
 generalize hn1 : sts.length = n1 at *
 generalize hn2 : sts2.length = n2 at *
 generalize hn3 : tps.length = n3 at *
 generalize hn4 : tps2.length = n4 at *
 clear hn1 hn2 hn3 hn4
 obtain ⟨W2, hW2⟩ : ∃ W2, W2 = (w.alloc (.cells #[.slice a n1 c, .slice b n3 d] 27)).alloc (.cells #[.slice a2 n2 c2, .slice b2 n4 d2] 27) := ⟨_, rfl⟩
 have hB2 : Below w.heap.size w W2 := by rw [hW2]; exact (bel1 w _).alloc (by simp) _
 have HN1 : Hid (W2.heap[w.heap.size]? = some (.cells #[.slice a n1 c, .slice b n3 d] 27 (0, 0))) := Lib.hid (by rw [hW2]; exact heap_new1 w _ _)
 have HN2 : Hid (W2.heap[w.heap.size + 1]? = some (.cells #[.slice a2 n2 c2, .slice b2 n4 d2] 27 (0, 0))) := Lib.hid (by
  rw [hW2]
  have := World.alloc_heap_new (w.alloc (.cells #[.slice a n1 c, .slice b n3 d] 27)) (.cells #[.slice a2 n2 c2, .slice b2 n4 d2] 27)
  simpa using this)
 have HB2 := Lib.hid hB2
 have HW2 := Lib.hid hW2
 have HS2 := Lib.hid (HS.out.bel hB2)
 clear hB2 hW2
 go_enter Tryz.func31, Tryz.ntmps31
 go_upto_region 1 with fail
 rw [← HW2.out]
 have HB := HB2
 have HSW := HS2
 have HH1 := HN1
 have HH2 := HN2
 clear HB2 HS2 HN1 HN2 HW2
 have p0 : W2.cell? ⟨w.heap.size, 0, none⟩ = some (.slice a n1 c) := rowcell HH1.out
 have q0 : W2.cell? ⟨w.heap.size + 1, 0, none⟩ = some (.slice a2 n2 c2) := rowcell HH2.out
 have p1 : W2.cell? ⟨w.heap.size, 1, none⟩ = some (.slice b n3 d) := rowcell HH1.out
 have q1 : W2.cell? ⟨w.heap.size + 1, 1, none⟩ = some (.slice b2 n4 d2) := rowcell HH2.out
 go_wp2_with fail
 refine (HL.out _ HSW.out).mono ?_
 rintro e w10 ⟨rfl, hb⟩
 have HB := Lib.hid (HB.out.trans (hb.mono HB.out.size))
 have HSW := Lib.hid (HSW.out.bel hb)
 have HH1 := Lib.hid ((hb.block _ (hlt HH1.out)).trans HH1.out)
 have HH2 := Lib.hid ((hb.block _ (hlt HH2.out)).trans HH2.out)
 clear hb p0 q0 p1 q1
 have p0 : w10.cell? ⟨w.heap.size, 0, none⟩ = some (.slice a n1 c) := rowcell HH1.out
 have q0 : w10.cell? ⟨w.heap.size + 1, 0, none⟩ = some (.slice a2 n2 c2) := rowcell HH2.out
 have p1 : w10.cell? ⟨w.heap.size, 1, none⟩ = some (.slice b n3 d) := rowcell HH1.out
 have q1 : w10.cell? ⟨w.heap.size + 1, 1, none⟩ = some (.slice b2 n4 d2) := rowcell HH2.out
 have EN : Hid (decide (sts = sts2) = false → decide (sts = sts2) = false) := Lib.hid (fun h => h)
 have EY : Hid (decide (sts = sts2) = true → sts = sts2) := Lib.hid of_decide_eq_true
 generalize hq : decide (sts = sts2) = q at *
 cases q with
 | false =>
  clear hq EY EN
  have EN := Lib.hid (Eq.refl false)
  go_wp2_with fail
  go_ret
  exact ⟨ret_false (by first | (rw [HR.out]; simp; done) | (simp [EN.out]; done)), HB.out⟩
 | true =>
  clear hq EY EN
  go_wp2_with fail
  refine (HT.out _ HSW.out).mono ?_
  rintro e w11 ⟨rfl, hb⟩
  have HB := Lib.hid (HB.out.trans (hb.mono HB.out.size))
  have HSW := Lib.hid (HSW.out.bel hb)
  have HH1 := Lib.hid ((hb.block _ (hlt HH1.out)).trans HH1.out)
  have HH2 := Lib.hid ((hb.block _ (hlt HH2.out)).trans HH2.out)
  clear hb p0 q0 p1 q1
  have p0 : w11.cell? ⟨w.heap.size, 0, none⟩ = some (.slice a n1 c) := rowcell HH1.out
  have q0 : w11.cell? ⟨w.heap.size + 1, 0, none⟩ = some (.slice a2 n2 c2) := rowcell HH2.out
  have p1 : w11.cell? ⟨w.heap.size, 1, none⟩ = some (.slice b n3 d) := rowcell HH1.out
  have q1 : w11.cell? ⟨w.heap.size + 1, 1, none⟩ = some (.slice b2 n4 d2) := rowcell HH2.out
  have EN : Hid (decide (tps = tps2) = false → decide (tps = tps2) = false) := Lib.hid (fun h => h)
  have EY : Hid (decide (tps = tps2) = true → tps = tps2) := Lib.hid of_decide_eq_true
  generalize hq : decide (tps = tps2) = q at *
  cases q with
  | false =>
   clear hq EY EN
   have EN := Lib.hid (Eq.refl false)
   go_wp2_with fail
   go_ret
   exact ⟨ret_false (by first | (rw [HR.out]; simp; done) | (simp [EN.out]; done)), HB.out⟩
  | true =>
   clear hq EY EN
   go_wp2_with fail
   go_ret
   exact ⟨ret_true (by first | (rw [HR.out]; simp; done) | (simp; done)), HB.out⟩
end Go.Proofs.YtdkkhmjlamkgdaaGreatDoor
/-
 WHAT IS PROVED HERE: two lists of facts that grow beside one another. No condition.
-/
namespace Go.Proofs.YtdkkhmjlamkgdaaGreatDoor
open Go.RowKit Mg Go.Shelf Go.Maps

/-- two lists of facts that grow beside one another -/
structure TwoI (w1 : World) (A B : List FctE) (va vb : Value) (wr : World) : Prop where
 bel : Below w1.heap.size w1 wr
 ra : FRow wr w1.heap.size va A
 rb : FRow wr w1.heap.size vb B
 apart : ∀ j, va.ownBlock = some j → vb.ownBlock ≠ some j
theorem TwoI.start (w1 : World) : TwoI w1 [] [] (.slice none 0 0) (.slice none 0 0) w1 := ⟨Below.refl _ _, FRow.nil _ _, FRow.nil _ _, fun _ e => by cases e⟩
theorem TwoI.swap {w1 wr : World} {A B : List FctE} {va vb : Value} (h : TwoI w1 A B va vb wr) : TwoI w1 B A vb va wr := ⟨h.bel, h.rb, h.ra, fun j e q => h.apart j q e⟩
theorem TwoI.left {w1 wr w3 : World} {A B A' : List FctE} {va vb v' : Value} (h : TwoI w1 A B va vb wr) {o : Obj} (hr : FRow w3 w1.heap.size v' A') (hg : (wr.alloc o).grownBy w3 va.ownBlock) (ho : v'.ownBlock = va.ownBlock ∨ v'.ownBlock = some (wr.alloc o).heap.size) : TwoI w1 A' B v' vb w3 := by
 have hs : (wr.alloc o).heap.size = wr.heap.size + 1 := by simp
 refine ⟨(h.bel.alloc h.bel.size _).grown hg (by have := h.bel.size; omega) (fun j hj => (h.ra.ge j hj).1), hr, h.rb.same (fun k hk => ?_), fun j hj hk => ?_⟩
 ·have hl := (h.rb.ge k hk).2
  exact (hg.block k (by omega) (fun e => h.apart k e.symm hk)).trans (Below.heap_alloc _ _ _ hl)
 ·rcases ho with e | e
  ·exact h.apart j (e ▸ hj) hk
  ·rw [e] at hj
   have h1 := Option.some.inj hj
   have h2 := (h.rb.ge j hk).2
   omega
end Go.Proofs.YtdkkhmjlamkgdaaGreatDoor
/-
 WHAT IS PROVED HERE: the walk of the law's unchanged. Condition: the state is one that Fold just made (its rows are the call's own).
-/
namespace Go.Proofs.YtdkkhmjlamkgdaaGreatDoor
open Go.RowKit Mg Go.Shelf Go.Maps

/-- the first k editions of a list unchanged -/
def unE (l : List EdnF) (k : Nat) : List EdnF := (l.take k).map unchE ++ l.drop k
theorem unE_zero (l : List EdnF) : unE l 0 = l := by simp [unE]
theorem unE_all (l : List EdnF) : unE l l.length = l.map unchE := by simp [unE]
theorem unE_len (l : List EdnF) (k : Nat) : (unE l k).length = l.length := by
 unfold unE
 rw [List.length_append, List.length_map, List.length_take, List.length_drop]; omega
theorem unE_get (l : List EdnF) (k : Nat) (hk : k < l.length) (h : k < (unE l k).length) : (unE l k)[k] = l[k] := by
 have h2 : (unE l k)[k]? = some l[k] := by
  show ((l.take k).map unchE ++ l.drop k)[k]? = _
  rw [List.getElem?_append_right (by rw [List.length_map, List.length_take]; omega), List.length_map, List.length_take, show k - min k l.length = 0 by omega, List.getElem?_drop, Nat.add_zero, List.getElem?_eq_getElem hk]
 rw [List.getElem?_eq_getElem h] at h2
 exact Option.some.inj h2
theorem unE_step (l : List EdnF) (k : Nat) (hk : k < l.length) : (unE l k).set k (unchE l[k]) = unE l (k + 1) := by
 unfold unE
 rw [List.set_append_right _ _ (by rw [List.length_map, List.length_take]; omega), List.take_succ_eq_append_getElem hk, List.map_append, List.append_assoc, List.length_map, List.length_take, show k - min k l.length = 0 by omega, List.drop_eq_getElem_cons hk]
 rfl
/-- the first i stories unchanged, of the next one the first k editions -/
def unS (l : List StyF) (i k : Nat) : List StyF := (l.take i).map unchS ++ (match l.drop i with
 | [] => []
 | x :: r => { x with eds := unE x.eds k } :: r)
theorem unS_drop (l : List StyF) (i k : Nat) (hi : i < l.length) : unS l i k = (l.take i).map unchS ++ { l[i] with eds := unE l[i].eds k } :: l.drop (i + 1) := by
 unfold unS
 rw [List.drop_eq_getElem_cons hi]
theorem unS_start (l : List StyF) : unS l 0 0 = l := by
 unfold unS
 cases l with
 | nil => rfl
 | cons x r => simp [unE_zero]
theorem unS_end (l : List StyF) (k : Nat) : unS l l.length k = l.map unchS := by
 unfold unS
 rw [List.take_length, List.drop_length]; simp
theorem unS_len (l : List StyF) (i k : Nat) : (unS l i k).length = l.length := by
 by_cases hi : i < l.length
 ·rw [unS_drop l i k hi, List.length_append, List.length_map, List.length_take, List.length_cons, List.length_drop]; omega
 ·unfold unS
  rw [List.drop_eq_nil_of_le (by omega), List.append_nil, List.length_map, List.length_take]; omega
theorem unS_at (l : List StyF) (i k : Nat) (hi : i < l.length) (h : i < (unS l i k).length) : (unS l i k)[i] = { l[i] with eds := unE l[i].eds k } := by
 have e := unS_drop l i k hi
 have h2 : (unS l i k)[i]? = some { l[i] with eds := unE l[i].eds k } := by
  rw [e, List.getElem?_append_right (by rw [List.length_map, List.length_take]; omega), List.length_map, List.length_take, show i - min i l.length = 0 by omega]; rfl
 rw [List.getElem?_eq_getElem h] at h2
 exact Option.some.inj h2
theorem unS_step (l : List StyF) (i k : Nat) (hi : i < l.length) : (unS l i k).set i { l[i] with eds := unE l[i].eds (k + 1) } = unS l i (k + 1) := by
 rw [unS_drop l i k hi, unS_drop l i (k + 1) hi, List.set_append_right _ _ (by rw [List.length_map, List.length_take]; omega), List.length_map, List.length_take, show i - min i l.length = 0 by omega]; rfl
theorem unS_next (l : List StyF) (i : Nat) (hi : i < l.length) : unS l i l[i].eds.length = unS l (i + 1) 0 := by
 rw [unS_drop l i _ hi]
 unfold unS
 rw [List.take_succ_eq_append_getElem hi, List.map_append, List.append_assoc, unE_all]
 congr 1
 show { l[i] with eds := l[i].eds.map unchE } :: l.drop (i + 1) = [unchS l[i]] ++ _
 cases hd : l.drop (i + 1) with
 | nil => rfl
 | cons x r => simp [unE_zero, unchS]
theorem unS_ids (l : List StyF) (i k : Nat) : (unS l i k).map StyF.id = l.map StyF.id := by
 by_cases hi : i < l.length
 ·have e : l = l.take i ++ l[i] :: l.drop (i + 1) := by
   rw [← List.drop_eq_getElem_cons hi, List.take_append_drop]
  rw [unS_drop l i k hi]
  conv => rhs; rw [e]
  rw [List.map_append, List.map_append, List.map_cons, List.map_cons, List.map_map]; rfl
 ·unfold unS
  rw [List.drop_eq_nil_of_le (by omega), List.append_nil, List.take_of_length_le (by omega), List.map_map]; rfl
theorem ednCells_set (e : EdnF) (bv : Value) : (ednCells e bv).setIfInBounds 4 (.int .i64 0) = ednCells (unchE e) bv := rfl
/-- one edition's Changed is set to 0 -/
theorem StRow.unch {w : World} {B A : Nat} {E : Nat → Option Int} {v : Value} {l : List StyF} (h : StRow w B A E v l) (hn : (l.map StyF.id).Nodup) (i : Nat) (hi : i < l.length) (k : Nat) (hk : k < l[i].eds.length) :
  ∃ tv cv g cap sg scap, v = .slice (some ⟨sg, 0, none⟩) l.length scap ∧ (∀ t, t < 8 → w.cell? ⟨sg, i * 8 + t, none⟩ = (styCells l[i] tv (.slice (some ⟨g, 0, none⟩) l[i].eds.length cap) cv)[t]?) ∧ w.frozen? ⟨g, k * 5 + 4, none⟩ = false ∧ (∃ u, w.cell? ⟨g, k * 5 + 4, none⟩ = some u) ∧ E g = some l[i].id ∧ (∃ cs, w.heap[g]? = some (.cells cs 39 (0, 0))) ∧ (∀ a u, memSt w B E v a = some u → memSt (w.setCell ⟨g, k * 5 + 4, none⟩ (.int .i64 0)) B E v a = some u) ∧
   StRow (w.setCell ⟨g, k * 5 + 4, none⟩ (.int .i64 0)) B A E v (l.set i { l[i] with eds := l[i].eds.set k (unchE l[i].eds[k]) }) := by
 obtain ⟨cs, g1, g2, g3⟩ := h.row
 have hi2 : i < cs.length := by rw [g2]; exact hi
 obtain ⟨sg, scap, hv, _, hsg, _, _, hsc, _⟩ := g1.at_ i hi2
 obtain ⟨e0, tv, ev, cv, ecs, e1, e2, e3, e4, e5, e6⟩ := g3 i hi hi2
 have hk2 : k < ecs.length := by rw [e5.1]; exact hk
 obtain ⟨g, cap, hev, hgA, hgl, _, _, hgc, hgf⟩ := e4.at_ k hk2
 have hEg : E g = some l[i].id := e6 g (by rw [hev]; rfl)
 have hne : sg ≠ g := fun q => by
  have := h.apart sg (by rw [hv]; rfl)
  rw [q, hEg] at this; cases this
 obtain ⟨o0, bv0, b1, b2⟩ := e5.2 k hk hk2
 have hu := upd_cell w g (k * 5 + 4) (.int .i64 0)
 have hmm : ∀ a u, memSt w B E v a = some u → memSt (w.setCell ⟨g, k * 5 + 4, none⟩ (.int .i64 0)) B E v a = some u := memFr_mono hu (fun q _ hf => ⟨hf, fun e => hf (by rw [e]; exact .inr (.inr (by rw [hEg]; rfl)))⟩)
 refine ⟨tv, cv, g, cap, sg, scap, by rw [hv, g2], fun t ht => ?_, hgf _, ⟨_, by rw [hgc 4 (by omega), b1]; rfl⟩, hEg, e4.blk g (by rw [hev]; rfl), hmm, ?_⟩
 ·rw [hsc t ht, e1, hev, e5.1]
 ·refine ⟨fun q j hq => ⟨(h.low q j hq).1, by rw [World.size_setCell]; exact (h.low q j hq).2⟩, h.apart, cs, ?_, ?_, ?_⟩
  ·exact g1.upd hu (fun q hq e => by
    rw [hv] at hq
    have := Option.some.inj hq
    exact hne (this.trans e))
  ·rw [List.length_set]; exact g2
  ·intro j hj hj2
   rw [List.length_set] at hj
   by_cases hij : i = j
   ·subst hij
    rw [List.getElem_set_self]
    subst hev
    have h4 := e4.set_ k 4 hk2 (by omega) (u := .int .i64 0) rfl
    refine ⟨⟨e0.i0, e0.s1, e0.i4⟩, tv, _, cv, ecs.set k (ecs[k].setIfInBounds 4 (.int .i64 0)), ?_, e2.mono hmm, e3.mono hmm, h4, ⟨by rw [List.length_set, List.length_set]; exact e5.1, fun q hq hq2 => ?_⟩, e6⟩
    ·exact e1
    ·have hq : q < l[i].eds.length := by
      have : q < (l[i].eds.set k (unchE l[i].eds[k])).length := hq
      rwa [List.length_set] at this
     have hq3 : q < ecs.length := by rw [e5.1]; exact hq
     by_cases hkq : k = q
     ·subst hkq
      show EVal _ (l[i].eds.set k (unchE l[i].eds[k]))[k] _
      rw [List.getElem_set_self, List.getElem_set_self]
      refine ⟨⟨o0.s0, o0.i1, o0.s2, okI_zero⟩, bv0, ?_, b2.mono hmm⟩
      rw [b1]; rfl
     ·show EVal _ (l[i].eds.set k (unchE l[i].eds[k]))[q] _
      rw [List.getElem_set_ne hkq, List.getElem_set_ne hkq]
      exact (e5.2 q hq hq3).mono hmm
   ·rw [List.getElem_set_ne hij]
    refine (g3 j hj hj2).mono hmm (fun _ _ e => e) (fun q hq hql => hu.block q hql (fun e => ?_))
    rw [e, hEg] at hq
    have hid := Option.some.inj hq
    have hp := List.pairwise_iff_getElem.1 (List.nodup_iff_pairwise_ne.1 hn)
    rcases Nat.lt_or_gt_of_ne hij with q1 | q1
    ·have := hp i j (by simpa using hi) (by simpa using hj) q1
     simp at this
     exact this hid
    ·have := hp j i (by simpa using hj) (by simpa using hi) q1
     simp at this
     exact this hid.symm
theorem GRow.len_le {w : World} {B : Nat} {e : TypeId} {sz : Nat} {v : Value} {cs : List (Array Value)} (h : GRow w B e sz v cs) : cs.length ≤ maxLen := by
 rcases h.1.2 with ⟨_, hz⟩ | ⟨g, cap, cur, rfl, _, _, hn, hc, _⟩
 ·rw [hz]; exact Nat.zero_le _
 ·exact Nat.le_trans hn hc
theorem below_both {wv wr : World} {N g j : Nat} {cs : Array Value} {t : TypeId} (hb : Below N wv wr) (hg : g < N) (h : wv.heap[g]? = some (.cells cs t (0, 0))) (u : Value) : Below N (wv.setCell ⟨g, j, none⟩ u) (wr.setCell ⟨g, j, none⟩ u) := by
 have h1 := upd_cell wv g j u
 have h2 := upd_cell wr g j u
 refine ⟨by rw [h1.os, h2.os, hb.os], by rw [h1.tape, h2.tape, hb.tape], by rw [h1.output, h2.output, hb.output], by rw [World.size_setCell, World.size_setCell]; exact hb.size, fun k hk => ?_⟩
 by_cases e : k = g
 ·subst e
  rw [blk_set h, blk_set ((hb.block k hk).trans h)]
 ·have hl := heap_lt h
  by_cases hkl : k < wv.heap.size
  ·rw [h1.block k hkl e, h2.block k (Nat.lt_of_lt_of_le hkl hb.size) e]; exact hb.block k hk
  ·rw [Below.heap_setCell _ _ _ _ e, Below.heap_setCell _ _ _ _ e]; exact hb.block k hk
/-- what holds while the editions are set: w is the world ahead of the call, wv is that world without the call's own blocks -/
structure UnV (w : World) (B A : Nat) (E : Nat → Option Int) (v tv : Value) (l : List StyF) (tp : List TplF) (wv wr : World) : Prop where
 row : StRow wv B A E v l
 tps : TplsM (memSt wv B E v) tv tp
 up : Upd (fun q => (E q).isSome = true) w wv
 size : wv.heap.size = w.heap.size
 bel : Below w.heap.size wv wr
structure UnI (w : World) (B A : Nat) (E : Nat → Option Int) (v tv : Value) (l : List StyF) (tp : List TplF) (i k : Nat) (wr : World) : Prop where
 ex : ∃ wv, UnV w B A E v tv (unS l i k) tp wv wr
 box : wr.heap[w.heap.size]? = some (.cells #[v, tv] 27 (0, 0))
 res : wr.heap[w.heap.size + 1]? = some (.cells #[.slice none 0 0, .slice none 0 0] 27 (0, 0))
section
variable {w : World} {B A : Nat} {E : Nat → Option Int} {v tv : Value} {l : List StyF} {tp : List TplF} {i k : Nat} {wr : World}
theorem UnI.read (h : UnI w B A E v tv l tp i k wr) (hi : i < l.length) : ∃ sg scap ao cap, v = .slice (some ⟨sg, 0, none⟩) l.length scap ∧ wr.cell? ⟨sg, i * 8 + 3, none⟩ = some (.slice ao l[i].eds.length cap) ∧ l[i].eds.length ≤ maxLen ∧ l.length ≤ maxLen := by
 obtain ⟨wv, h⟩ := h.ex
 obtain ⟨cs, g1, g2, g3⟩ := h.row.row
 have hi1 : i < (unS l i k).length := by rw [unS_len]; exact hi
 have hi2 : i < cs.length := by rw [g2]; exact hi1
 obtain ⟨sg, scap, hv, _, hsg, _, _, hsc, _⟩ := g1.at_ i hi2
 obtain ⟨e0, tv, ev, cv, ecs, e1, e2, e3, e4, e5, e6⟩ := g3 i hi1 hi2
 obtain ⟨ao, cap, rfl⟩ := GRow.shape e4
 have hl : ecs.length = l[i].eds.length := by
  rw [e5.1, unS_at l i k hi hi1]; exact unE_len _ _
 have hl2 : cs.length = l.length := by rw [g2, unS_len]
 refine ⟨sg, scap, ao, cap, by rw [hv, hl2], ?_, ?_, ?_⟩
 ·rw [World.cell?_of_block (h.bel.block sg (by rw [← h.size]; exact hsg)), hsc 3 (by omega), e1, ← hl]; rfl
 ·rw [← hl]; exact GRow.len_le e4
 ·rw [← hl2]; exact g1.len_le
theorem UnI.step (h : UnI w B A E v tv l tp i k wr) (hn : (l.map StyF.id).Nodup) (hE : ∀ q j, E q = some j → q < w.heap.size) (hi : i < l.length) (hk : k < l[i].eds.length) :
  ∃ g cap sg scap, v = .slice (some ⟨sg, 0, none⟩) l.length scap ∧ wr.cell? ⟨sg, i * 8 + 3, none⟩ = some (.slice (some ⟨g, 0, none⟩) l[i].eds.length cap) ∧ wr.frozen? ⟨g, k * 5 + 4, none⟩ = false ∧ (∃ u, wr.cell? ⟨g, k * 5 + 4, none⟩ = some u) ∧ UnI w B A E v tv l tp i (k + 1) (wr.setCell ⟨g, k * 5 + 4, none⟩ (.int .i64 0)) := by
 obtain ⟨sg, scap, _, _, q1', q2', _⟩ := h.read hi
 obtain ⟨wv, hv⟩ := h.ex
 have hi1 : i < (unS l i k).length := by rw [unS_len]; exact hi
 have hat := unS_at l i k hi hi1
 have hk1 : k < (unS l i k)[i].eds.length := by rw [hat, show ({ l[i] with eds := unE l[i].eds k } : StyF).eds = unE l[i].eds k from rfl, unE_len]; exact hk
 obtain ⟨tv', cv, g, cap, sg, scap, q1, q2, q3, q4, q5, ⟨cs, q8⟩, q6, q7⟩ := hv.row.unch (by rw [unS_ids]; exact hn) i hi1 k hk1
 have hlen : (unS l i k)[i].eds.length = l[i].eds.length := by rw [hat]; exact unE_len _ _
 have hgl : g < w.heap.size := hE g _ q5
 have hgb := hv.bel.block g hgl
 obtain ⟨u4, q4⟩ := q4
 have q23 := q2 3 (by omega)
 refine ⟨g, cap, sg, scap, by rw [q1, unS_len], ?_, ?_, ⟨u4, ?_⟩, ⟨wv.setCell ⟨g, k * 5 + 4, none⟩ (.int .i64 0), ?_, hv.tps.mono q6, ?_, ?_, ?_⟩, ?_, ?_⟩
 ·have q24 : wv.cell? ⟨sg, i * 8 + 3, none⟩ = some (.slice (some ⟨g, 0, none⟩) l[i].eds.length cap) := by rw [q23, ← hlen]; rfl
  have hsl := World.block_lt_of_cell? wv _ q24
  rw [World.cell?_of_block (hv.bel.block sg (by rw [← hv.size]; exact hsl)), q24]
 ·exact (World.frozen?_of_block hgb).trans q3
 ·exact (World.cell?_of_block hgb).trans q4
 ·have e : (unS l i k).set i { (unS l i k)[i] with eds := (unS l i k)[i].eds.set k (unchE (unS l i k)[i].eds[k]) } = unS l i (k + 1) := by
   have h1 : (unS l i k)[i].eds[k] = l[i].eds[k] := by
    have : (unS l i k)[i].eds[k]? = some l[i].eds[k] := by
     rw [hat]
     show (unE l[i].eds k)[k]? = _
     rw [List.getElem?_eq_getElem (by rw [unE_len]; exact hk), unE_get _ _ hk]
    rw [List.getElem?_eq_getElem hk1] at this
    exact Option.some.inj this
   rw [h1, hat]
   show (unS l i k).set i { l[i] with eds := (unE l[i].eds k).set k (unchE l[i].eds[k]) } = _
   rw [unE_step _ _ hk, unS_step l i k hi]
  rw [← e]; exact q7
 ·exact hv.up.setCell (.inl (by rw [q5]; rfl)) _
 ·rw [World.size_setCell]; exact hv.size
 ·exact below_both hv.bel hgl q8 _
 ·rw [Below.heap_setCell _ _ _ _ (fun e => by simp only at e; omega)]; exact h.box
 ·rw [Below.heap_setCell _ _ _ _ (fun e => by simp only at e; omega)]; exact h.res
theorem UnI.next (h : UnI w B A E v tv l tp i k wr) (hi : i < l.length) (hk : k = l[i].eds.length) : UnI w B A E v tv l tp (i + 1) 0 wr := by
 subst hk
 obtain ⟨wv, h1⟩ := h.ex
 rw [unS_next l i hi] at h1
 exact ⟨⟨wv, h1⟩, h.box, h.res⟩
theorem UnI.done (h : UnI w B A E v tv l tp l.length k wr) (cs : Array Value) : StRow (wr.setRow (w.heap.size + 1) cs) B A E v (l.map unchS) ∧ TplsM (memSt (wr.setRow (w.heap.size + 1) cs) B E v) tv tp ∧ Upd (fun q => (E q).isSome = true) w (wr.setRow (w.heap.size + 1) cs) := by
 obtain ⟨wv, h1⟩ := h.ex
 have hb := below_setRow (g := w.heap.size + 1) h1.bel (by omega) cs
 have hb2 : Below wv.heap.size wv (wr.setRow (w.heap.size + 1) cs) := by rw [h1.size]; exact hb
 have hr := h1.row.bel hb2
 rw [unS_end] at hr
 exact ⟨hr, h1.tps.mono (memFr_below hb2), h1.up.bel hb2⟩
end
end Go.Proofs.YtdkkhmjlamkgdaaGreatDoor
/-
 WHAT IS PROVED HERE: the walk of the law's unchanged: every edition's Changed is set to 0. Condition: the state is one that Fold just made.
-/
namespace Go.Proofs.YtdkkhmjlamkgdaaGreatDoor
open Go.RowKit Mg Go.Shelf Go.Maps

set_option maxRecDepth 100000 in
set_option maxHeartbeats 4000000 in
theorem unchanged_any {w : World} {B A : Nat} {E : Nat → Option Int} {v tv : Value} {l : List StyF} {tp : List TplF} (h : StRow w B A E v l) (ht : TplsM (memSt w B E v) tv tp) (hn : (l.map StyF.id).Nodup) :
  Calls Tryz.prog 33 #[.agg #[v, tv]] w fun e w' => e = .returned (.agg #[v, tv]) ∧ StRow w' B A E v (l.map unchS) ∧ TplsM (memSt w' B E v) tv tp ∧ Upd (fun q => (E q).isSome = true) w w' := by
 obtain ⟨va, vc, rfl⟩ := h.shape
 obtain ⟨ta, tc, rfl⟩ := SlM.slice ht
 have HN := Lib.hid hn
 have HE : Hid (∀ q j, E q = some j → q < w.heap.size) := Lib.hid (fun q j e => (h.low q j e).2)
 obtain ⟨W2, hW2⟩ : ∃ W2, W2 = (w.alloc (.cells #[.slice va l.length vc, .slice ta tp.length tc] 27)).alloc (.cells #[.slice none 0 0, .slice none 0 0] 27) := ⟨_, rfl⟩
 have hb2 : Below w.heap.size w W2 := by rw [hW2]; exact (bel1 w _).alloc (by simp) _
 have HU0 : Hid (UnI w B A E (.slice va l.length vc) (.slice ta tp.length tc) l tp 0 0 W2) := Lib.hid (by
  refine ⟨⟨w, by rw [unS_start]; exact h, ht, Upd.refl _ w, rfl, hb2⟩, by rw [hW2]; exact heap_new1 w _ _, ?_⟩
  rw [hW2]
  have := World.alloc_heap_new (w.alloc (.cells #[.slice va l.length vc, .slice ta tp.length tc] 27)) (.cells #[.slice none 0 0, .slice none 0 0] 27)
  simpa using this)
 have HW2 := Lib.hid hW2
 clear h ht hn hb2 hW2
 go_enter Tryz.func33, Tryz.ntmps33
 go_upto_region 1 with fail
 rw [← HW2.out]
 clear HW2
 go_wp2_with fail
 go_loopw [3] (fun i wr => ∃ k : Nat, k ≤ l.length ∧ i = .int .i64 k ∧ Hid (UnI w B A E (.slice va l.length vc) (.slice ta tp.length tc) l tp k 0 wr)) (fun i _ => l.length - (intOf i).toNat)
 case atStart => exact ⟨0, Nat.zero_le _, rfl, HU0⟩
 case round =>
  obtain ⟨k, hk, rfl, HU⟩ := hrel
  have c0 : wr.cell? ⟨w.heap.size, 0, none⟩ = some (.slice va l.length vc) := rowcell HU.out.box
  by_cases hlt : k < l.length
  ·obtain ⟨n, hnn⟩ : ∃ n, n = l[k].eds.length := ⟨_, rfl⟩
   have hml : n ≤ 9223372036854775807 ∧ l.length ≤ 9223372036854775807 := by
    obtain ⟨_, _, _, _, _, _, q1, q2⟩ := HU.out.read hlt
    unfold maxLen at q1 q2
    rw [hnn]
    exact ⟨by omega, by omega⟩
   obtain ⟨h1, h2⟩ := hml
   have HNN := Lib.hid hnn
   clear hnn
   go_wp2_with fail
   clear c0
   go_loopw [4] (fun i wr => ∃ j : Nat, j ≤ n ∧ i = .int .i64 j ∧ Hid (UnI w B A E (.slice va l.length vc) (.slice ta tp.length tc) l tp k j wr)) (fun i _ => n - (intOf i).toNat)
   case atStart => exact ⟨0, Nat.zero_le _, rfl, HU⟩
   case round =>
    obtain ⟨j, hj, rfl, HU⟩ := hrel
    have c0 : wr.cell? ⟨w.heap.size, 0, none⟩ = some (.slice va l.length vc) := rowcell HU.out.box
    by_cases hjl : j < n
    ·obtain ⟨g, cap, sg, scap, q1, q2, q3, q4, q5⟩ := HU.out.step HN.out HE.out hlt (by rw [← HNN.out]; exact hjl)
     rw [← HNN.out] at q2
     injection q1 with q1 _ _
     subst q1
     have HQ := Lib.hid q5
     obtain ⟨u, q4⟩ := q4
     clear q5
     go_wp2_with fail
     go_roundw
     case rel => exact ⟨j + 1, by omega, by go_num, HQ⟩
     case measure => simp [intOf]; omega
    ·obtain rfl : j = n := by omega
     obtain ⟨sg, scap, ao, cap, q1, q2, _, _⟩ := HU.out.read hlt
     rw [← HNN.out] at q2
     injection q1 with q1 _ _
     subst q1
     have HQ := Lib.hid (HU.out.next hlt HNN.out)
     go_wp2_with fail
     go_roundw
     case rel => exact ⟨k + 1, by omega, by go_num, HQ⟩
     case measure => simp [intOf]; omega
  ·obtain rfl : k = l.length := by omega
   go_wp2_with (first
    | ((with_reducible refine at_sload 27 _ rfl ?_); go_must (refine wpList_sload rfl S_state _ rfl (by simp [Act.eval]) #[.slice va l.length vc, .slice ta tp.length tc] rfl HU.out.box ?_))
    | ((with_reducible refine at_sstore 27 _ _ rfl ?_); go_must (refine wpList_sstore (cs := #[.slice va l.length vc, .slice ta tp.length tc]) rfl S_state _ _ rfl (by simp [Act.eval, Act.put]) (by simp [Act.eval, Act.put]) HU.out.res rfl rfl (by simp [Value.oneCell']) ?_)))
   refine bodyPost_ret (results_cell_row (p := 2) (ty := 27) (by kernel_rfl) _ _ (w.heap.size + 1) _ _ (0, 0) _ (by simp [Act.put]) (setRow_heap _ _ _ _ _ _ HU.out.res) Tryz.underlying27 rfl (by kernel_rfl)) rfl ?_
   exact ⟨rfl, HU.out.done _⟩
end Go.Proofs.YtdkkhmjlamkgdaaGreatDoor
/-
 WHAT IS PROVED HERE: the walk of StateCorrectionsFollow. Condition: the facts lie in memory that is only read.
-/
namespace Go.Proofs.YtdkkhmjlamkgdaaGreatDoor
open Go.RowKit Mg Go.Shelf Go.Maps

/-- what Fold gives, as rows of its own -/
structure RowPost (l : List Fct) (w : World) (s : StF) (A : Nat) (E : Nat → Option Int) (sv tv : Value) (w' : World) : Prop where
 is : FoldIs l s
 row : StRow w' (w.heap.size + 1) A E sv s.stories
 hA : w.heap.size + 1 ≤ A
 tps : TplsM (memSt w' (w.heap.size + 1) E sv) tv s.tpls
 bel : Below w.heap.size w w'
theorem Fold_row {mem : Addr → Option Value} {v : Value} {es : List FctE} (h : EsM mem v es) (hl : es.length ≤ 20000) (hgd : ∀ x ∈ es, actF x.f = true → FGood x.f) (w : World) (hs : Sees mem w) (hlow : ∀ a u, mem a = some u → a.block < w.heap.size) :
  Calls Tryz.prog 26 #[v] w fun e w' => ∃ a c b d s A E, e = .returned (.agg #[.slice a s.stories.length c, .slice b s.tpls.length d]) ∧ RowPost (es.map FctE.f) w s A E (.slice a s.stories.length c) (.slice b s.tpls.length d) w' :=
 (Fold_any2 h hl hgd w hs hlow).mono fun e w' hp => by
  obtain ⟨sv, tv, s, A, E, rfl, h1, h2, h3, h4, h5, _, _⟩ := hp
  obtain ⟨a, c, rfl⟩ := h2.shape
  obtain ⟨b, d, rfl⟩ := SlM.slice h4
  exact ⟨a, c, b, d, s, A, E, rfl, h1, h2, h3, h4, h5⟩
theorem unchanged_law {l : List Fct} {w0 w : World} {s : StF} {A : Nat} {E : Nat → Option Int} {sv tv : Value} (h : RowPost l w0 s A E sv tv w) :
  Calls Tryz.prog 33 #[.agg #[sv, tv]] w fun e w' => e = .returned (.agg #[sv, tv]) ∧ StateM (memFr w' (fun k => k < w0.heap.size + 1)) (.agg #[sv, tv]) (unchF s) ∧ Below w0.heap.size w0 w' := by
 have hn : (s.stories.map StyF.id).Nodup := List.nodup_iff_pairwise_ne.2 (h.is.ids.imp fun q e => by omega)
 refine (unchanged_any h.row h.tps hn).mono fun e w' hp => ?_
 obtain ⟨he, h1, h2, h3⟩ := hp
 have hA := h.hA
 refine ⟨he, ⟨sv, tv, rfl, h1.stys h.hA, h2.mono (memFr_mono (Upd.refl (fun _ => False) w') fun k _ hf => ⟨fun q => hf (.inl q), fun q => q⟩)⟩, h.bel.trans (h3.below (fun q hq => ?_) h.bel.size)⟩
 obtain ⟨i, hi⟩ := Option.isSome_iff_exists.1 hq
 have := (h.row.low q i hi).1
 omega
set_option maxRecDepth 100000 in
set_option maxHeartbeats 4000000 in
theorem follow_any {mem : Addr → Option Value} {v : Value} {es : List FctE} (h : EsM mem v es) (w : World) (hs : Sees mem w) :
  Calls Tryz.prog 14 #[v] w fun e w' => e = .returned (.bool true) ∧ Below w.heap.size w w' := by
 have c0 := Lib.hid (sane_any w)
 have HS := Lib.hid hs
 have HE := Lib.hid h
 obtain ⟨va, vc, vb, vo, rfl, _⟩ := h.open_
 clear h hs
 go_enter Tryz.func14, Tryz.ntmps14
 go_wp2_with fail
 refine c0.out.mono ?_
 rintro e w0 ⟨rfl, hb0⟩
 have HB0 := Lib.hid hb0
 have cS := Lib.hid (short_law HE.out w0 (HS.out.bel hb0))
 clear hb0 c0
 go_wp2_with fail
 refine cS.out.mono ?_
 rintro e w1 ⟨ra, rc, fs, rfl, hsh⟩
 have HSH := Lib.hid hsh
 have hlen := hsh.len
 have HB1 : Hid (Below w.heap.size w w1) := Lib.hid (HB0.out.trans (hsh.bel.mono HB0.out.size))
 obtain ⟨rb, ro, hrv, hra, hre⟩ : ∃ b o, True ∧ (0 < fs.length → ra = some ⟨b, o, none⟩) ∧ ∀ j (h : j < fs.length), fs[j].ok (fun p => w1.cell? p) ∧ fs[j].at (fun p => w1.cell? p) b (o + j * 23) := by
  obtain ⟨b, o, ⟨_, _, _, e, _, _, h3⟩, h4⟩ := hsh.es
  injection e with e1 _ _
  subst e1
  exact ⟨b, o, trivial, h3, h4⟩
 have HRA := Lib.hid hra
 have HRE := Lib.hid hre
 have HI0 : Hid (TwoI w1 ((fs.take 0).filter fun x => !decide (x.f.kind = 4)) ((fs.take 0).filter fun x => decide (x.f.kind = 4)) (.slice none 0 0) (.slice none 0 0) w1) := Lib.hid (TwoI.start w1)
 have hll : fs.length ≤ 9223372036854775807 := by omega
 clear hsh cS hrv hra hre
 go_wp2_with fail
 go_loopw [6, 4, 5] (fun i va vb wr => ∃ k : Nat, k ≤ fs.length ∧ i = .int .i64 k ∧ (∃ a l q, va = .slice a l q) ∧ (∃ a l q, vb = .slice a l q) ∧ Hid (TwoI w1 ((fs.take k).filter fun x => !decide (x.f.kind = 4)) ((fs.take k).filter fun x => decide (x.f.kind = 4)) va vb wr)) (fun i _ _ _ => fs.length - (intOf i).toNat)
 case atStart => exact ⟨0, Nat.zero_le _, rfl, ⟨_, _, _, rfl⟩, ⟨_, _, _, rfl⟩, HI0⟩
 case round =>
  obtain ⟨k, hk, rfl, ⟨a1, n1, q1, rfl⟩, ⟨a2, n2, q2, rfl⟩, HI⟩ := hrel
  by_cases hlt : k < fs.length
  ·obtain rfl := HRA.out (by omega)
   obtain ⟨hxo, hxa⟩ := HRE.out k hlt
   have HAT : Hid (fs[k].at (fun p => wr.cell? p) rb (ro + k * 23)) := Lib.hid (fun j u hj => sees_bel HI.out.bel _ _ (hxa j u hj))
   have HTK : Hid (fs.take (k + 1) = fs.take k ++ [fs[k]]) := Lib.hid (List.take_succ_eq_append_getElem hlt)
   have hAl : ((fs.take k).filter fun x => !decide (x.f.kind = 4)).length ≤ 40 := by
    have := List.length_filter_le (fun x : FctE => !decide (x.f.kind = 4)) (fs.take k)
    rw [List.length_take] at this; omega
   have hBl : ((fs.take k).filter fun x => decide (x.f.kind = 4)).length ≤ 40 := by
    have := List.length_filter_le (fun x : FctE => decide (x.f.kind = 4)) (fs.take k)
    rw [List.length_take] at this; omega
   have c2 : wr.cell? ⟨rb, ro + k * 23 + 2, none⟩ = some (.int .i64 fs[k].f.kind) := HAT.out 2 _ rfl
   clear hxo hxa
   generalize fs[k] = x at *
   have hsz : w1.heap.size ≤ wr.heap.size := HI.out.bel.size
   cases hmine : decide (x.f.kind = 4) with
   | true =>
    have HM : Hid (((fs.take (k + 1)).filter fun x => !decide (x.f.kind = 4)) = ((fs.take k).filter fun x => !decide (x.f.kind = 4)) ∧ ((fs.take (k + 1)).filter fun x => decide (x.f.kind = 4)) = ((fs.take k).filter fun x => decide (x.f.kind = 4)) ++ [x]) := Lib.hid (by
     rw [HTK.out, List.filter_append, List.filter_append]
     simp [hmine])
    have h2 : x.f.kind = 4 := of_decide_eq_true hmine
    rw [h2] at c2
    generalize ((fs.take k).filter fun x => !decide (x.f.kind = 4)) = A at *
    generalize ((fs.take k).filter fun x => decide (x.f.kind = 4)) = B at *
    clear hmine h2
    go_wp2_with (first
     | ((with_reducible refine at_fload _ rfl ?_); go_must (refine wpList_fct_mid rfl _ rfl (by simp [Act.eval]) HAT.out ?_))
     | ((with_reducible refine at_fslice _ rfl ?_); go_must (refine wpList_fct_slice rfl _ rfl x (by simp [Act.eval, Act.put]) ?_))
     | ((with_reducible refine at_sappend _ _ 22 rfl ?_); go_must (refine wpList_app_fct rfl _ _ rfl w1.heap.size _ B (by simp [Act.eval, Act.put]) (HI.out.rb.same (fun j hj => (bel1 wr _).block j (HI.out.rb.ge j hj).2)) x wr.heap.size 1 (by simp [Act.eval, Act.put]) (World.alloc_heap_new _ _) (by omega) (by simp; omega) ?_); go_must (intro v9 w9 hr9 hg9 ho9; have HI9 := Lib.hid (HI.out.swap.left hr9 hg9 ho9).swap; obtain ⟨a9, c9, hv9⟩ := hr9.shape; subst hv9; rw [List.length_append, List.length_singleton] at HI9; clear hr9 hg9 ho9)))
    go_roundw
    case rel => exact ⟨k + 1, by omega, by go_num, ⟨_, _, _, rfl⟩, ⟨_, _, _, rfl⟩, by rw [HM.out.1, HM.out.2]; exact HI9⟩
    case measure => (try simp only [intOf]); omega
   | false =>
    have HM : Hid (((fs.take (k + 1)).filter fun x => !decide (x.f.kind = 4)) = ((fs.take k).filter fun x => !decide (x.f.kind = 4)) ++ [x] ∧ ((fs.take (k + 1)).filter fun x => decide (x.f.kind = 4)) = ((fs.take k).filter fun x => decide (x.f.kind = 4))) := Lib.hid (by
     rw [HTK.out, List.filter_append, List.filter_append]
     simp [hmine])
    have h2 : x.f.kind ≠ 4 := of_decide_eq_false hmine
    generalize ((fs.take k).filter fun x => !decide (x.f.kind = 4)) = A at *
    generalize ((fs.take k).filter fun x => decide (x.f.kind = 4)) = B at *
    clear hmine
    have h3 : (x.f.kind == 4) = false := by simpa using h2
    clear h2
    go_wp2_with (first
     | ((with_reducible refine at_fload _ rfl ?_); go_must (refine wpList_fct_mid rfl _ rfl (by simp [Act.eval]) HAT.out ?_))
     | ((with_reducible refine at_fslice _ rfl ?_); go_must (refine wpList_fct_slice rfl _ rfl x (by simp [Act.eval, Act.put]) ?_))
     | ((with_reducible refine at_sappend _ _ 22 rfl ?_); go_must (refine wpList_app_fct rfl _ _ rfl w1.heap.size _ A (by simp [Act.eval, Act.put]) (HI.out.ra.same (fun j hj => (bel1 wr _).block j (HI.out.ra.ge j hj).2)) x wr.heap.size 1 (by simp [Act.eval, Act.put]) (World.alloc_heap_new _ _) (by omega) (by simp; omega) ?_); go_must (intro v9 w9 hr9 hg9 ho9; have HI9 := Lib.hid (HI.out.left hr9 hg9 ho9); obtain ⟨a9, c9, hv9⟩ := hr9.shape; subst hv9; rw [List.length_append, List.length_singleton] at HI9; clear hr9 hg9 ho9)))
    go_roundw
    case rel => exact ⟨k + 1, by omega, by go_num, ⟨_, _, _, rfl⟩, ⟨_, _, _, rfl⟩, by rw [HM.out.1, HM.out.2]; exact HI9⟩
    case measure => (try simp only [intOf]); omega
  ·have e' : k = fs.length := by omega
   subst e'
   rw [List.take_length] at HI
   have hAl : (fs.filter fun x => !decide (x.f.kind = 4)).length ≤ 40 := Nat.le_trans (List.length_filter_le _ _) hlen
   have hBl : (fs.filter fun x => decide (x.f.kind = 4)).length ≤ 40 := Nat.le_trans (List.length_filter_le _ _) hlen
   have HMA : Hid (((fs.filter fun x => !decide (x.f.kind = 4)) ++ (fs.filter fun x => decide (x.f.kind = 4))).map FctE.f = lateF (fs.map FctE.f)) := Lib.hid (by
    unfold lateF
    rw [List.map_append, List.filter_map, List.filter_map]
    rfl)
   have HSUB : Hid (∀ x ∈ (fs.filter fun x => !decide (x.f.kind = 4)) ++ (fs.filter fun x => decide (x.f.kind = 4)), x ∈ fs) := Lib.hid (fun x hx => by
    rcases List.mem_append.1 hx with hx | hx
    ·exact (List.mem_filter.1 hx).1
    ·exact (List.mem_filter.1 hx).1)
   generalize (fs.filter fun x => !decide (x.f.kind = 4)) = A at *
   generalize (fs.filter fun x => decide (x.f.kind = 4)) = B at *
   have hxx : ¬ ((fs.length : Int) < (fs.length : Int)) := by omega
   have cF := Lib.hid (Fold_row (HSH.out.es.keep HI.out.bel) (by omega) (fun x hx _ => HSH.out.good x hx) wr (Sees.self wr) (cells_lt wr))
   go_wp2_with fail
   refine cF.out.mono ?_
   rintro e w3 ⟨a, c, b, d, s, A3, E3, rfl, hF3⟩
   have HF3 := Lib.hid hF3
   have cU := Lib.hid (unchanged_law hF3)
   clear hF3 cF
   go_wp2_with fail
   refine cU.out.mono ?_
   rintro e w4 ⟨rfl, hst4, hb4⟩
   have HST4 := Lib.hid hst4
   have hn1 : n1 = A.length := by
    obtain ⟨_, _, e⟩ := HI.out.ra.shape
    injection e
   have hn2 : n2 = B.length := by
    obtain ⟨_, _, e⟩ := HI.out.rb.shape
    injection e
   subst hn1 hn2
   have HRA4 := Lib.hid (HI.out.ra.same (fun j hj => hb4.block j (HI.out.ra.ge j hj).2))
   have HRB4 := Lib.hid (HI.out.rb.same (fun j hj => hb4.block j (HI.out.rb.ge j hj).2))
   have HB4 : Hid (Below w1.heap.size w1 w4) := Lib.hid (HI.out.bel.trans (hb4.mono HI.out.bel.size))
   have HS4 : Hid (Sees (memFr w4 (fun k => k < wr.heap.size + 1)) w4) := Lib.hid (memFr_sees _ _)
   clear hst4 hb4 cU
   go_wp2_with ((with_reducible refine at_sappend _ _ 22 rfl ?_); go_must (refine wpList_wanted (by rfl) (fun K hK => wp_app_facts _ _ rfl w1.heap.size _ A (by simp [Act.eval]) HRA4.out a2 q2 B (by simp [Act.eval]) (HRB4.out.es (fun x hx => mem_keep HB4.out HSH.out.ok x (HSUB.out x (List.mem_append_right _ hx)))) (by omega) HB4.out.size (fun v5 w5 hr5 hg5 ho5 => hK _ _ ?_))))
   have HB5 : Hid (Below w1.heap.size w1 w5) := Lib.hid (HB4.out.grown hg5 HB4.out.size (fun j hj => (HRA4.out.ge j hj).1))
   have HS5 : Hid (Sees (memFr w4 (fun k => k < wr.heap.size + 1)) w5) := Lib.hid (fun p u e => by
    obtain ⟨q1', q2', _⟩ := memFr_lt p u e
    have q4 := memFr_sees w4 _ p u e
    refine (World.cell?_of_block (hg5.block p.block q1' (fun q => ?_))).trans q4
    have := (HI.out.ra.ge _ q.symm).2
    exact q2' (by omega))
   obtain ⟨a5, c5, hv5⟩ := hr5.shape
   subst hv5
   have cF := Lib.hid (Fold_row (es := A ++ B) (hr5.es (fun x hx => mem_keep HB5.out HSH.out.ok x (HSUB.out x hx))) (by rw [List.length_append]; omega) (fun x hx _ => HSH.out.good x (HSUB.out x hx)) w5 (Sees.self w5) (cells_lt w5))
   clear hr5 hg5 ho5
   refine cF.out.mono ?_
   rintro e w6 ⟨a6, c6, b6, d6, s2, A6, E6, rfl, hF6⟩
   have HF6 := Lib.hid hF6
   have cU := Lib.hid (unchanged_law hF6)
   clear hF6 cF
   go_wp2_with fail
   refine cU.out.mono ?_
   rintro e w8 ⟨rfl, hst8, hb8⟩
   have HS8 : Hid (Sees (memFr w4 (fun k => k < wr.heap.size + 1)) w8) := Lib.hid (HS5.out.bel hb8)
   have HB8 : Hid (Below w1.heap.size w1 w8) := Lib.hid (HB5.out.trans (hb8.mono HB5.out.size))
   have hss : unchF s2 = unchF s := unch_late HF3.out.is (by rw [← HMA.out]; exact HF6.out.is)
   have cE := Lib.hid (same_law (mem := fun p => w8.cell? p) (HST4.out.mono HS8.out) (hst8.mono (memFr_sees w8 _)) w8 (Sees.self w8))
   rw [decide_eq_true hss.symm] at cE
   clear hst8 hb8 hss cU
   go_wp2_with fail
   refine cE.out.mono ?_
   rintro e w9 ⟨rfl, hb9⟩
   have HFN : Hid (Below w.heap.size w w9) := Lib.hid (HB1.out.trans ((HB8.out.trans (hb9.mono HB8.out.size)).mono HB1.out.size))
   clear hb9 cE
   go_wp2_with fail
   go_ret
   exact ⟨rfl, HFN.out⟩
end Go.Proofs.YtdkkhmjlamkgdaaGreatDoor
/-
 WHAT IS PROVED HERE: StateCorrectionsFollow returns true and leaves its arguments as they were, for all arguments. Conditions: those of the card (the listed tables of Go's library lie as their text lays them).
-/
namespace Go.Proofs.YtdkkhmjlamkgdaaGreatDoor.fnSCor
open Go.ChangeShapes Go.WideShapes Go.ChangeAt Go.RowKit Go.ChangeMaps Mg

set_option maxRecDepth 100000 in
theorem contract (H : Type) (enc : TypeId × Value → H) (W : World) (base : Nat) (args : Array Value) (ds gs : List (DataW H)) (before : List MemPlace)
  (hval : ∀ (j : Nat) t v, Tryz.f14.params[j]? = some t → args[j]? = some v → Value.okWide Tryz.prog W .any base t v)
  (hW : DataW.Whole enc Tryz.prog Tryz.f14.params.toList Rows.stateCorrectionsFollowSpec.vars false W args.toList ds gs before) :
  Calls Tryz.prog 14 args W fun e W' => ∃ v, e = .returned v ∧ Rows.stateCorrectionsFollowSpec.post enc Tryz.prog Tryz.f14 false true false false W args v W' := by
 have hread : ∀ t ∈ Tryz.f14.params.toList, Tryz.prog.readableRec t = true ∧ t < Tryz.prog.types.size := by
  have hall : (Tryz.f14.params.toList.all fun t => Tryz.prog.readableRec t && decide (t < Tryz.prog.types.size)) = true := by kernel_rfl
  intro t ht
  have := List.all_eq_true.1 hall t ht
  simpa using this
 have hclose : ∀ W', Below W.heap.size W W' → (Rows.stateCorrectionsFollowSpec.fn H ds).results = [.lit (.bool true)] ∧ (Rows.stateCorrectionsFollowSpec.fn H ds).args = ds ∧ (Rows.stateCorrectionsFollowSpec.fn H ds).vars = [] → Rows.stateCorrectionsFollowSpec.post enc Tryz.prog Tryz.f14 false true false false W args (.bool true) W' :=
  fun W' hg hs => close_law hW rfl (by kernel_rfl) hs hread hg
 obtain ⟨p, q, hA0, hV, rfl, hfz, hnd⟩ := hW
 have hA : DataW.TrodAll enc Tryz.prog W 0 (fun _ => true) true Tryz.f14.params.toList args.toList ds p := hA0
 obtain ⟨rfl, rfl⟩ := trodVars_none hV
 rw [Tryz.params14] at hA hval
 clear hA0 hread hfz hnd hV
 obtain ⟨v0, vs0, d0, ds0, p0, q0, hargs, rfl, rfl, h0, r0⟩ := trodAll_cons hA
 obtain ⟨rfl, rfl, rfl⟩ := trodAll_nil r0
 obtain rfl : args = #[v0] := by cases args; simp_all
 obtain ⟨l0, b0⟩ := facts_in (hval 0 22 v0 rfl rfl) h0
 refine (follow_any b0 W (Sees.self W)).mono fun e W' ⟨he, hg⟩ => ?_
 exact ⟨_, he, hclose W' hg ⟨rfl, rfl, rfl⟩⟩

theorem laid_met (os : Os) : laidMet Tryz.prog Rows.stateCorrectionsFollowRow.laid ((laidWorld os).forCall (fun _ _ => 0) ⟨#[], #[.slice none 0 0], []⟩).memory :=
 laidMet_of_run' 8 (by kernel_rfl) (by kernel_rfl)
theorem reads (os : Os) {H : Type} (enc : TypeId × Value → H) : ∃ places, DataW.whole enc Tryz.prog ((laidWorld os).forCall (fun _ _ => 0) ⟨#[], #[.slice none 0 0], []⟩).memory Tryz.f14.params.toList Rows.stateCorrectionsFollowSpec.vars false (#[Value.slice none 0 0] : Array Value).toList 8 = some ([.nil], [], places) :=
 ⟨[], by kernel_rfl⟩

set_option maxRecDepth 100000 in
theorem lifted (os : Os) (started : os.Started) (H : Type) (enc : TypeId × Value → H) (F : Stop.Interp) :
  ReturnsInHanded {} Tryz.checked os 14 .any ((OpenSpec.ofChange Rows.stateCorrectionsFollowSpec).preRow enc Tryz.prog Tryz.f14 Rows.stateCorrectionsFollowRow.domain false Rows.stateCorrectionsFollowRow.laid) (((OpenSpec.ofChange Rows.stateCorrectionsFollowSpec).at F).post enc Tryz.prog Tryz.f14 false true false false) := by
 obtain ⟨places, hx⟩ := reads os enc
 refine returnsInHanded_of_row (C := Tryz.checked) (s := OpenSpec.ofChange Rows.stateCorrectionsFollowSpec) own started (by kernel_rfl) Tryz.func14
  (witness_row_at (enc := enc) (C := Tryz.checked) false (laidWorld os) #[.slice none 0 0] rfl (by kernel_rfl) (by kernel_rfl) (by kernel_rfl)
   (OpenSpec.preRow_of_cond 8 hx (by kernel_rfl) (fun k hk => by cases hk) (by kernel_rfl) (laid_met os))) ?_
 intro W base args ds gs before hval hW _ _ _ _ _ _
 exact contract H enc W base args ds gs before hval hW

theorem j1 : (Rows.stateCorrectionsFollowRow.inPlace == Tryz.prog.inPlace 14) = true := by kernel_rfl
theorem j2 : (Rows.stateCorrectionsFollowRow.unfollowed == Tryz.prog.unfollowed 14) = true := by kernel_rfl
theorem j3 : (Rows.stateCorrectionsFollowRow.recurses == Tryz.prog.recurses 14) = true := by kernel_rfl
theorem j4 : (Rows.stateCorrectionsFollowRow.named == Tryz.prog.varsNamed 14) = true := by kernel_rfl
theorem j5 : joinedRest Tryz.prog Tryz.f14 (OpenSpec.ofChange Rows.stateCorrectionsFollowSpec).bare Rows.stateCorrectionsFollowRow = true := by kernel_rfl
theorem j6 : false = Rows.stateCorrectionsFollowRow.goesBy Tryz.prog := by kernel_rfl
theorem j7 : Rows.stateCorrectionsFollowRow.wfByText (OpenSpec.ofChange Rows.stateCorrectionsFollowSpec) = true := by kernel_rfl
theorem closed : joinedFacts Tryz.prog 14 Tryz.f14 (OpenSpec.ofChange Rows.stateCorrectionsFollowSpec).bare Rows.stateCorrectionsFollowRow = true := joined_of j1 j2 j3 j4 pr_heard pr_enter pr_lifts pr_make j5
theorem named : Tryz.prog.funcNamed Rows.stateCorrectionsFollowRow.func = some 14 := by kernel_rfl

theorem said : Rows.StateCorrectionsFollowSaid :=
 OpenClaim.holds_of_cond 14 Tryz.f14 rfl rfl rfl rfl rfl rfl rfl ⟨rfl, rfl, rfl, rfl, rfl⟩ rfl rfl rfl rfl rfl named Tryz.func14 closed
  (of_decide_eq_true (by kernel_rfl)) (by unfold Func.isWrapper; first | (rw [if_pos (by decide +kernel)]; kernel_rfl) | (rw [if_neg (by decide +kernel)]; exact ⟨rfl, rfl⟩))
  (fun os started H enc _ F => by rw [OpenClaim.pre_eq_preRow]; exact lifted os started H enc F)

/-- No parameter wants a stand-in; the program's own looks are off: what both cards ask. -/
theorem plain (f : FuncId) (fn : Func) (hf : Tryz.pinned.checked.prog.funcNamed "copydesk/copydesklaw07.StateCorrectionsFollow" = some f) (hfn : Tryz.pinned.checked.prog.funcs[f]? = some fn) :
  false = Tryz.pinned.checked.prog.looks [] ∧ ∀ (j : Nat) t, fn.params[j]? = some t → Tryz.pinned.checked.prog.wantsStandIn t = false := by
 obtain rfl : f = 14 := Option.some.inj ((show Tryz.prog.funcNamed "copydesk/copydesklaw07.StateCorrectionsFollow" = some 14 by kernel_rfl).symm.trans hf) |>.symm
 obtain rfl : fn = Tryz.f14 := (Option.some.inj (Tryz.func14.symm.trans hfn)).symm
 refine ⟨by kernel_rfl, fun j t ht => ?_⟩
 have hall : Tryz.f14.params.all (fun t => !Tryz.prog.wantsStandIn t) = true := by kernel_rfl
 have := Array.all_eq_true'.1 hall t (Array.mem_of_getElem? ht)
 exact (by simpa using this : Tryz.prog.wantsStandIn t = false)

/-- ████ THE CARD ████ -/
theorem card : Rows.StateCorrectionsFollowCardSaid :=
 Claim7.holds_tied_plain_at .later [] _ _ _ _ said (fun _ h => by cases h) j7 (fun _ h => by cases h) stateCorrectionsFollow_row_tie rfl ⟨rfl, rfl⟩ (by kernel_rfl) rfl plain j6
end Go.Proofs.YtdkkhmjlamkgdaaGreatDoor.fnSCor

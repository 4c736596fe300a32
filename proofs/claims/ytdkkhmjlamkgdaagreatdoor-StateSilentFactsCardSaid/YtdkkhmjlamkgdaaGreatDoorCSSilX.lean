/-
  WHAT IS PROVED HERE: a law returns true and leaves its arguments as they were, for all arguments (5 texts joined). Conditions: those of the card.
-/
import Derived.Test.YtdkkhmjlamkgdaaGreatDoorBn6
import Derived.Laws.StructEq
namespace Go.Proofs.YtdkkhmjlamkgdaaGreatDoor
open Go.RowKit Mg Go.Shelf Go.Maps

set_option maxHeartbeats 1000000 in
theorem eqStrs_any {mem : Addr → Option Value} {v u : Value} {l m : List ByteArray} (h1 : StrsM mem v l) (h2 : StrsM mem u m) (w : World) (hs : Sees mem w) :
  Calls Tryz.prog 87 #[v, u] w fun e w' => e = .returned (.bool (decide (l = m))) ∧ Below w.heap.size w w' := by
 obtain ⟨ao, cap, b, o, rfl, hcap, hm, hao, _, hcells⟩ := h1.open_ hs
 obtain ⟨ao2, cap2, b2, o2, rfl, hcap2, hm2, hao2, _, hcells2⟩ := h2.open_ hs
 have HA := Lib.hid hao
 have HA2 := Lib.hid hao2
 have HC := Lib.hid hcells
 have HC2 := Lib.hid hcells2
 have hlen : (l.length : Int) ≤ 9223372036854775807 := by unfold maxLen at hm; omega
 have hlen2 : (m.length : Int) ≤ 9223372036854775807 := by unfold maxLen at hm2; omega
 clear hao hao2 hcells hcells2 hs h1 h2 hcap hcap2 hm hm2
 by_cases hl : l.length = m.length
 ·have HL := Lib.hid hl
  rw [← hl]
  clear hl
  go_enter Tryz.func87, Tryz.ntmps87
  go_wp2_with fail
  go_loopw [13] (fun i wr => ∃ k : Nat, k ≤ l.length ∧ i = .int .i64 k ∧ Below w.heap.size w wr ∧ Hid (l.take k = m.take k)) (fun i _ => l.length - (intOf i).toNat)
  case atStart => exact ⟨0, Nat.zero_le _, rfl, Below.refl _ _, Lib.hid rfl⟩
  case round =>
   obtain ⟨k, hk, rfl, hb, ht⟩ := hrel
   by_cases hlt : k < l.length
   ·have hlt2 : k < m.length := by rw [← HL.out]; exact hlt
    have c1 := HC.out k hlt
    have c2 := HC2.out k hlt2
    obtain rfl := HA.out (by omega)
    obtain rfl := HA2.out (by omega)
    replace c1 := (hb.cell (p := ⟨b, o + k, none⟩) (World.block_lt_of_cell? w _ c1)).trans c1
    replace c2 := (hb.cell (p := ⟨b2, o2 + k, none⟩) (World.block_lt_of_cell? w _ c2)).trans c2
    have HE : Hid (l[k] = m[k] → l.take (k + 1) = m.take (k + 1)) := Lib.hid (take_step hlt hlt2 ht.out)
    have HN : Hid (l[k] ≠ m[k] → l ≠ m) := Lib.hid (ne_of_get hlt hlt2)
    generalize l[k] = x at *
    generalize m[k] = y at *
    have hk0 : (0 : Int) ≤ k := by omega
    have hk1 : (k : Int) < l.length := by omega
    clear ht hlt2
    by_cases hxy : x = y
    ·subst hxy
     have HE2 := Lib.hid (HE.out rfl)
     clear HE
     go_wp2_with fail
     go_quiet (fail)
     go_wp2_with fail
     go_roundw
     case rel => exact ⟨k + 1, by omega, by go_num, below_drewN hb _, HE2⟩
     case measure => simp [intOf]; omega
    ·have hne : (x.toList != y.toList) = true := by
      rw [bne_iff_ne]
      intro e
      exact hxy (str_ext (by simpa [ByteArray.toList_eq] using e))
     have hne2 : (x.toList == y.toList) = false := by
      rw [beq_eq_false_iff_ne]
      intro e
      exact hxy (str_ext (by simpa [ByteArray.toList_eq] using e))
     have HNE := Lib.hid hxy
     clear hxy
     go_wp2_with fail
     go_quiet (fail)
     go_wp2_with fail
     go_ret
     exact ⟨ret_bool (by symm; exact decide_eq_false (HN.out HNE.out)), below_drewN hb _⟩
   ·have e : k = l.length := by omega
    subst e
    have HF : Hid (l = m) := Lib.hid (eq_full HL.out ht.out)
    go_wp2_with fail
    go_ret
    exact ⟨ret_bool (by symm; exact decide_eq_true HF.out), hb⟩
 ·have hne : decide (l.length = m.length) = false := decide_eq_false hl
  have HNE : Hid (l ≠ m) := Lib.hid (fun e => hl (by rw [e]))
  go_enter Tryz.func87, Tryz.ntmps87
  go_wp2_with fail
  all_goals first
   | (go_ret; exact ⟨ret_bool (by symm; exact decide_eq_false HNE.out), Below.refl _ _⟩)
   | (exfalso; simp_all; done)
theorem cells_in {w w' : World} {b o sz : Nat} {cs : Array Value} (h : ∀ t, t < sz → w.cell? ⟨b, o + t, none⟩ = cs[t]?) (hb : Below w.heap.size w w') (hz : cs.size = sz := by rfl) : ∀ t, t < sz → w'.cell? ⟨b, o + t, none⟩ = cs[t]? := fun t ht => by
 have h1 := h t ht
 rw [Array.getElem?_eq_getElem (by omega)] at h1 ⊢
 exact sees_bel hb _ _ h1
theorem edn_dec (lang : ByteArray) (rev : Int) (title : ByteArray) (blocks : List Blk) (changed : Int) (lang2 : ByteArray) (rev2 : Int) (title2 : ByteArray) (blocks2 : List Blk) (changed2 : Int) : decide ((⟨lang, rev, title, blocks, changed⟩ : EdnF) = ⟨lang2, rev2, title2, blocks2, changed2⟩) =
  (decide (lang = lang2) && (decide (rev = rev2) && (decide (title = title2) && (decide (blocks = blocks2) && decide (changed = changed2))))) := by
 simp only [EdnF.mk.injEq, Bool.decide_and]
theorem sty_dec (id : Int) (author : ByteArray) (topics : List ByteArray) (eds : List EdnF) (pub : Int) (corr : List Corr) (retr taken : Bool) (id2 : Int) (author2 : ByteArray) (topics2 : List ByteArray) (eds2 : List EdnF) (pub2 : Int) (corr2 : List Corr) (retr2 taken2 : Bool) : decide ((⟨id, author, topics, eds, pub, corr, retr, taken⟩ : StyF) = ⟨id2, author2, topics2, eds2, pub2, corr2, retr2, taken2⟩) =
  (decide (id = id2) && (decide (author = author2) && (decide (topics = topics2) && (decide (eds = eds2) && (decide (pub = pub2) && (decide (corr = corr2) && (decide (retr = retr2) && decide (taken = taken2)))))))) := by
 simp only [StyF.mk.injEq, Bool.decide_and]
theorem str_ne {a b : ByteArray} (h : a ≠ b) : (a.toList == b.toList) = false := by
 simp only [beq_eq_false_iff_ne, ne_eq, ByteArray.toList_eq]
 intro e
 exact h (str_ext e)
set_option maxRecDepth 10000 in
set_option maxHeartbeats 4000000 in
theorem sameEdition_any {mem : Addr → Option Value} {v u : Value} {x y : EdnF} (h1 : EdnV mem v x) (h2 : EdnV mem u y) (w : World) (hs : Sees mem w) :
  Calls Tryz.prog 89 #[v, u] w fun e w' => e = .returned (.bool (decide (x = y))) ∧ Below w.heap.size w w' := by
 obtain ⟨_, bv, rfl, hb1⟩ := h1
 obtain ⟨_, bv2, rfl, hb2⟩ := h2
 obtain ⟨lang, rev, title, blocks, changed⟩ := x
 obtain ⟨lang2, rev2, title2, blocks2, changed2⟩ := y
 have HL := Lib.hid (fun W hW => sameList_any hb1 hb2 W hW)
 obtain ⟨ao, cap, rfl⟩ := hb1.slice
 obtain ⟨ao2, cap2, rfl⟩ := hb2.slice
 have HR := Lib.hid (edn_dec lang rev title blocks changed lang2 rev2 title2 blocks2 changed2)
 have HS := Lib.hid hs
 dsimp only at HL ⊢
 clear hb1 hb2 hs
 generalize hn1 : blocks.length = n1 at *
 generalize hn2 : blocks2.length = n2 at *
 clear hn1 hn2
 obtain ⟨W2, hW2⟩ : ∃ W2, W2 = (w.alloc (.cells #[.string lang, .int .i64 rev, .string title, .slice ao n1 cap, .int .i64 changed] 39)).alloc (.cells #[.string lang2, .int .i64 rev2, .string title2, .slice ao2 n2 cap2, .int .i64 changed2] 39) := ⟨_, rfl⟩
 have hB2 : Below w.heap.size w W2 := by rw [hW2]; exact (bel1 w _).alloc (by simp) _
 have HN1 : Hid (W2.heap[w.heap.size]? = some (.cells #[.string lang, .int .i64 rev, .string title, .slice ao n1 cap, .int .i64 changed] 39 (0, 0))) := Lib.hid (by rw [hW2]; exact heap_new1 w _ _)
 have HN2 : Hid (W2.heap[w.heap.size + 1]? = some (.cells #[.string lang2, .int .i64 rev2, .string title2, .slice ao2 n2 cap2, .int .i64 changed2] 39 (0, 0))) := Lib.hid (by
  rw [hW2]
  have := World.alloc_heap_new (w.alloc (.cells #[.string lang, .int .i64 rev, .string title, .slice ao n1 cap, .int .i64 changed] 39)) (.cells #[.string lang2, .int .i64 rev2, .string title2, .slice ao2 n2 cap2, .int .i64 changed2] 39)
  simpa using this)
 have HB2 := Lib.hid hB2
 have HW2 := Lib.hid hW2
 have HS2 := Lib.hid (HS.out.bel hB2)
 clear hB2 hW2
 go_enter Tryz.func89, Tryz.ntmps89
 go_upto_region 1 with fail
 rw [← HW2.out]
 have HB := HB2
 have HSW := HS2
 have HH1 := HN1
 have HH2 := HN2
 clear HB2 HS2 HN1 HN2 HW2
 have p0 : W2.cell? ⟨w.heap.size, 0, none⟩ = some (.string lang) := rowcell HH1.out
 have q0 : W2.cell? ⟨w.heap.size + 1, 0, none⟩ = some (.string lang2) := rowcell HH2.out
 have p1 : W2.cell? ⟨w.heap.size, 1, none⟩ = some (.int .i64 rev) := rowcell HH1.out
 have q1 : W2.cell? ⟨w.heap.size + 1, 1, none⟩ = some (.int .i64 rev2) := rowcell HH2.out
 have p2 : W2.cell? ⟨w.heap.size, 2, none⟩ = some (.string title) := rowcell HH1.out
 have q2 : W2.cell? ⟨w.heap.size + 1, 2, none⟩ = some (.string title2) := rowcell HH2.out
 have p3 : W2.cell? ⟨w.heap.size, 3, none⟩ = some (.slice ao n1 cap) := rowcell HH1.out
 have q3 : W2.cell? ⟨w.heap.size + 1, 3, none⟩ = some (.slice ao2 n2 cap2) := rowcell HH2.out
 have p4 : W2.cell? ⟨w.heap.size, 4, none⟩ = some (.int .i64 changed) := rowcell HH1.out
 have q4 : W2.cell? ⟨w.heap.size + 1, 4, none⟩ = some (.int .i64 changed2) := rowcell HH2.out
 by_cases e0 : lang = lang2
 ·subst e0
  by_cases e1 : rev = rev2
  ·subst e1
   by_cases e2 : title = title2
   ·subst e2
    go_wp2_with fail
    refine (HL.out _ HSW.out).mono ?_
    rintro e w13 ⟨rfl, hb⟩
    have HB := Lib.hid (HB.out.trans (hb.mono HB.out.size))
    have HSW := Lib.hid (HSW.out.bel hb)
    have HH1 := Lib.hid ((hb.block _ (hlt HH1.out)).trans HH1.out)
    have HH2 := Lib.hid ((hb.block _ (hlt HH2.out)).trans HH2.out)
    clear hb p0 q0 p1 q1 p2 q2 p3 q3 p4 q4
    have p0 : w13.cell? ⟨w.heap.size, 0, none⟩ = some (.string lang) := rowcell HH1.out
    have q0 : w13.cell? ⟨w.heap.size + 1, 0, none⟩ = some (.string lang) := rowcell HH2.out
    have p1 : w13.cell? ⟨w.heap.size, 1, none⟩ = some (.int .i64 rev) := rowcell HH1.out
    have q1 : w13.cell? ⟨w.heap.size + 1, 1, none⟩ = some (.int .i64 rev) := rowcell HH2.out
    have p2 : w13.cell? ⟨w.heap.size, 2, none⟩ = some (.string title) := rowcell HH1.out
    have q2 : w13.cell? ⟨w.heap.size + 1, 2, none⟩ = some (.string title) := rowcell HH2.out
    have p3 : w13.cell? ⟨w.heap.size, 3, none⟩ = some (.slice ao n1 cap) := rowcell HH1.out
    have q3 : w13.cell? ⟨w.heap.size + 1, 3, none⟩ = some (.slice ao2 n2 cap2) := rowcell HH2.out
    have p4 : w13.cell? ⟨w.heap.size, 4, none⟩ = some (.int .i64 changed) := rowcell HH1.out
    have q4 : w13.cell? ⟨w.heap.size + 1, 4, none⟩ = some (.int .i64 changed2) := rowcell HH2.out
    have EN : Hid (decide (blocks = blocks2) = false → decide (blocks = blocks2) = false) := Lib.hid (fun h => h)
    have EY : Hid (decide (blocks = blocks2) = true → blocks = blocks2) := Lib.hid of_decide_eq_true
    generalize hq : decide (blocks = blocks2) = q at *
    cases q with
    | false =>
     clear hq EY EN
     have EN := Lib.hid (Eq.refl false)
     go_wp2_with fail
     go_ret
     exact ⟨ret_false (by first | (rw [HR.out]; simp; done) | (simp [EN.out]; done)), HB.out⟩
    | true =>
     clear hq EY EN
     by_cases e4 : changed = changed2
     ·subst e4
      go_wp2_with fail
      go_ret
      exact ⟨ret_true (by first | (rw [HR.out]; simp; done) | (simp; done)), HB.out⟩
     ·have ne : (changed == changed2) = false := by simpa using e4
      have EN := Lib.hid (decide_eq_false e4)
      clear e4
      go_wp2_with fail
      go_ret
      exact ⟨ret_false (by first | (rw [HR.out]; simp [EN.out]; done) | (simp [EN.out]; done)), HB.out⟩
   ·have ne : (title.toList == title2.toList) = false := str_ne e2
    have EN := Lib.hid (decide_eq_false e2)
    clear e2
    go_wp2_with fail
    go_ret
    exact ⟨ret_false (by first | (rw [HR.out]; simp [EN.out]; done) | (simp [EN.out]; done)), HB.out⟩
  ·have ne : (rev == rev2) = false := by simpa using e1
   have EN := Lib.hid (decide_eq_false e1)
   clear e1
   go_wp2_with fail
   go_ret
   exact ⟨ret_false (by first | (rw [HR.out]; simp [EN.out]; done) | (simp [EN.out]; done)), HB.out⟩
 ·have ne : (lang.toList == lang2.toList) = false := str_ne e0
  have EN := Lib.hid (decide_eq_false e0)
  clear e0
  go_wp2_with fail
  go_ret
  exact ⟨ret_false (by first | (rw [HR.out]; simp [EN.out]; done) | (simp [EN.out]; done)), HB.out⟩
set_option maxRecDepth 10000 in
set_option maxHeartbeats 4000000 in
theorem eqEdns_any {mem : Addr → Option Value} {v u : Value} {l m : List EdnF} (h1 : EdnsM mem v l) (h2 : EdnsM mem u m) (w : World) (hs : Sees mem w) :
  Calls Tryz.prog 88 #[v, u, .func (.func 89) #[] #[]] w fun e w' => e = .returned (.bool (decide (l = m))) ∧ Below w.heap.size w w' := by
 obtain ⟨ao, cap, b, o, rfl, hcap, hm, hao, hblks⟩ := SlM.open_ h1
 obtain ⟨ao2, cap2, b2, o2, rfl, hcap2, hm2, hao2, hblks2⟩ := SlM.open_ h2
 have HA := Lib.hid hao
 have HA2 := Lib.hid hao2
 have HB := Lib.hid hblks
 have HB2 := Lib.hid hblks2
 have HS := Lib.hid hs
 have hlen : (l.length : Int) ≤ 9223372036854775807 := by unfold maxLen at hm; omega
 have hlen2 : (m.length : Int) ≤ 9223372036854775807 := by unfold maxLen at hm2; omega
 clear h1 h2 hao hao2 hblks hblks2 hs hcap hcap2 hm hm2
 by_cases hl : l.length = m.length
 ·have HL := Lib.hid hl
  rw [← hl]
  clear hl
  go_enter Tryz.func88, Tryz.ntmps88
  go_wp2_with fail
  go_loopw [17] (fun i wr => ∃ k : Nat, k ≤ l.length ∧ i = .int .i64 k ∧ Below w.heap.size w wr ∧ Hid (l.take k = m.take k)) (fun i _ => l.length - (intOf i).toNat)
  case atStart => exact ⟨0, Nat.zero_le _, rfl, Below.refl _ _, Lib.hid rfl⟩
  case round =>
   obtain ⟨k, hk, rfl, hb, ht⟩ := hrel
   by_cases hlt : k < l.length
   ·have hlt2 : k < m.length := by rw [← HL.out]; exact hlt
    obtain rfl := HA.out (by omega)
    obtain rfl := HA2.out (by omega)
    obtain ⟨hok, bv, hcells, hP⟩ := HB.out k hlt
    obtain ⟨hok2, bv2, hcells2, hP2⟩ := HB2.out k hlt2
    have HV1 : Hid (EdnV mem (.agg (ednCells l[k] bv)) l[k]) := Lib.hid ⟨hok, _, rfl, hP⟩
    have HV2 : Hid (EdnV mem (.agg (ednCells m[k] bv2)) m[k]) := Lib.hid ⟨hok2, _, rfl, hP2⟩
    have HD1 := Lib.hid (cells_see (sz := 5) (HS.out.bel hb) hcells rfl)
    have HD2 := Lib.hid (cells_see (sz := 5) (HS.out.bel hb) hcells2 rfl)
    obtain ⟨a1, q1, rfl⟩ := hP.slice
    obtain ⟨a2, q2, rfl⟩ := hP2.slice
    generalize l[k].blocks.length = n1 at *
    generalize m[k].blocks.length = n2 at *
    clear hok hok2 hcells hcells2 hP hP2
    have HE : Hid (l[k] = m[k] → l.take (k + 1) = m.take (k + 1)) := Lib.hid (take_step hlt hlt2 ht.out)
    have HN : Hid (l[k] ≠ m[k] → decide (l = m) = false) := Lib.hid (fun e => decide_eq_false (ne_of_get hlt hlt2 e))
    have hk0 : (0 : Int) ≤ k := by omega
    have hk1 : (k : Int) < l.length := by omega
    generalize l[k] = x at *
    generalize m[k] = y at *
    have HC : Hid (∀ W, Sees mem W → Calls Tryz.prog 89 #[.agg (ednCells x (.slice a1 n1 q1)), .agg (ednCells y (.slice a2 n2 q2))] W fun e w' => e = .returned (.bool (decide (x = y))) ∧ Below W.heap.size W w') :=
     Lib.hid (fun W hW => sameEdition_any HV1.out HV2.out W hW)
    have HC9 : Hid (decide (x = y) = true → x = y) := Lib.hid of_decide_eq_true
    have HC8 : Hid (decide (x = y) = false → x ≠ y) := Lib.hid of_decide_eq_false
    generalize hq : decide (x = y) = q at *
    have HB0 := Lib.hid hb
    clear hq ht hb
    go_upto_region 6 with (first
     | ((with_reducible refine at_sload 39 _ rfl ?_); go_must (refine wpList_smid rfl S_edn _ rfl (by simp [Act.eval]) (ednCells x (.slice a1 n1 q1)) rfl HD1.out ?_))
     | ((with_reducible refine at_sstore 39 _ _ rfl ?_); go_must (refine wpList_snew rfl S_edn _ _ rfl rfl _ _ (ednCells x (.slice a1 n1 q1)) (by simp [Act.eval]) (by simp [Act.eval]) rfl rfl (by simp [Value.oneCell']) ?_)))
    obtain ⟨W4, hW4⟩ : ∃ W4, W4 = wr.alloc (.cells (ednCells x (.slice a1 n1 q1)) 39) := ⟨_, rfl⟩
    rw [← hW4]
    have hb4 : Below wr.heap.size wr W4 := by rw [hW4]; exact bel1 _ _
    have HN4 : Hid (W4.heap[wr.heap.size]? = some (.cells (ednCells x (.slice a1 n1 q1)) 39 (0, 0))) := Lib.hid (by rw [hW4]; exact World.alloc_heap_new _ _)
    have HD3 := Lib.hid (cells_in HD2.out hb4)
    have HB4 := Lib.hid hb4
    clear hW4 hb4
    go_upto_region 7 with (first
     | ((with_reducible refine at_sload 39 _ rfl ?_); go_must (refine wpList_smid rfl S_edn _ rfl (by simp [Act.eval]) (ednCells y (.slice a2 n2 q2)) rfl HD3.out ?_))
     | ((with_reducible refine at_sstore 39 _ _ rfl ?_); go_must (refine wpList_snew rfl S_edn _ _ rfl rfl _ _ (ednCells y (.slice a2 n2 q2)) (by simp [Act.eval]) (by simp [Act.eval]) rfl rfl (by simp [Value.oneCell']) ?_)))
    obtain ⟨W5, hW5⟩ : ∃ W5, W5 = W4.alloc (.cells (ednCells y (.slice a2 n2 q2)) 39) := ⟨_, rfl⟩
    rw [← hW5]
    have hb5 : Below W4.heap.size W4 W5 := by rw [hW5]; exact bel1 _ _
    have HN6 : Hid (W5.heap[W4.heap.size]? = some (.cells (ednCells y (.slice a2 n2 q2)) 39 (0, 0))) := Lib.hid (by rw [hW5]; exact World.alloc_heap_new _ _)
    have HN5 := Lib.hid ((hb5.block _ (Go.Proofs.YtdkkhmjlamkgdaaGreatDoor.hlt HN4.out)).trans HN4.out)
    have HB5 : Hid (Below w.heap.size w W5) := Lib.hid ((HB0.out.trans (HB4.out.mono HB0.out.size)).trans (hb5.mono (Nat.le_trans HB0.out.size HB4.out.size)))
    have HS5 := Lib.hid (HS.out.bel HB5.out)
    clear hW5 hb5
    go_wp2_with (first
     | ((with_reducible refine at_sload 39 (.tmp 8) rfl ?_); go_must (refine wpList_sload rfl S_edn _ rfl (by simp [Act.eval]) (ednCells x (.slice a1 n1 q1)) rfl HN5.out ?_))
     | ((with_reducible refine at_sload 39 (.tmp 9) rfl ?_); go_must (refine wpList_sload rfl S_edn _ rfl (by simp [Act.eval, Act.put]) (ednCells y (.slice a2 n2 q2)) rfl HN6.out ?_)))
    refine (HC.out _ HS5.out).mono ?_
    rintro e w3 ⟨rfl, hb3⟩
    have hB3 : Below w.heap.size w w3 := HB5.out.trans (hb3.mono HB5.out.size)
    clear hb3 HB0
    cases q with
    | true =>
     have HE2 := Lib.hid (HE.out (HC9.out rfl))
     clear HE HN HC9 HC8
     go_wp2_with fail
     go_roundw
     case rel => exact ⟨k + 1, by omega, by go_num, hB3, HE2⟩
     case measure => simp [intOf]; omega
    | false =>
     have HN2 := Lib.hid (HN.out (HC8.out rfl))
     clear HE HN HC9 HC8
     go_wp2_with fail
     go_ret
     exact ⟨ret_false HN2.out, hB3⟩
   ·have e : k = l.length := by omega
    subst e
    have HF : Hid (decide (l = m) = true) := Lib.hid (decide_eq_true (eq_full HL.out ht.out))
    go_wp2_with fail
    go_ret
    exact ⟨ret_true HF.out, hb⟩
 ·have HNE : Hid (decide (l = m) = false) := Lib.hid (decide_eq_false (fun e => hl (by rw [e])))
  have hne : decide (l.length = m.length) = false := decide_eq_false hl
  go_enter Tryz.func88, Tryz.ntmps88
  go_wp2_with fail
  all_goals first
   | (go_ret; exact ⟨ret_false HNE.out, Below.refl _ _⟩)
   | (exfalso; simp_all; done)
end Go.Proofs.YtdkkhmjlamkgdaaGreatDoor
namespace Go.Proofs.YtdkkhmjlamkgdaaGreatDoor
open Go.RowKit Mg Go.Shelf Go.Maps

theorem wpStill_value {P : Program} {ops : Array Oper} {w : World} {Q : Act → Prop} {a : Act} {o : Oper} {rest : List Oper} (hg : o.guard = none) (v : Value) (hr : (execOp a.eval o).run P w = .ok (.value v) w) (h : wpStill P ops w Q rest (a.put o.dst v)) : wpStill P ops w Q (o :: rest) a := by
 refine wpStill_step fun K hK => ?_
 rw [if_pos (by simp [Region.wanted, hg])]
 unfold Oper.still
 rw [hr, Oper.stillUpon_value]
 exact hK _ h
theorem S_tpl : StructT Tryz.prog 52 2 := ⟨⟨_, Tryz.underlying52⟩, by kernel_rfl, by decide⟩
theorem toList_iff {a b : ByteArray} : (a.toList = b.toList) ↔ a = b := ⟨fun h => str_ext (by rw [← ByteArray.toList_eq, ← ByteArray.toList_eq]; exact h), fun h => by rw [h]⟩
theorem corrCells_neq (x y : Corr) (W : World) : (binOp .neq 69 (.agg (corrCells x)) (.agg (corrCells y))).run Tryz.prog W = .ok (.bool (!decide (x = y))) W := by
 obtain ⟨a0, a1, a2, a3, a4⟩ := x
 obtain ⟨b0, b1, b2, b3, b4⟩ := y
 rw [run_neq_struct, run_equalIn_agg _ _ _ _ _ (by kernel_rfl) (by kernel_rfl)]
 simp only [Program.fieldsOf, Tryz.underlying69]
 go_simp
 simp only [toList_iff]
 by_cases h0 : a0 = b0 <;> by_cases h1 : a1 = b1 <;> by_cases h2 : a2 = b2 <;> by_cases h3 : a3 = b3 <;> by_cases h4 : a4 = b4 <;> simp [h0, h1, h2, h3, h4]
set_option maxRecDepth 10000 in
set_option maxHeartbeats 1000000 in
theorem eqCorrs_any {mem : Addr → Option Value} {v u : Value} {l m : List Corr} (h1 : CorrsM mem v l) (h2 : CorrsM mem u m) (w : World) (hs : Sees mem w) :
  Calls Tryz.prog 90 #[v, u] w fun e w' => e = .returned (.bool (decide (l = m))) ∧ Below w.heap.size w w' := by
 obtain ⟨ao, cap, b, o, rfl, hcap, hm, hao, hcells⟩ := SlM.open_ h1
 obtain ⟨ao2, cap2, b2, o2, rfl, hcap2, hm2, hao2, hcells2⟩ := SlM.open_ h2
 have HS := Lib.hid hs
 have HA := Lib.hid hao
 have HA2 := Lib.hid hao2
 have HC := Lib.hid hcells
 have HC2 := Lib.hid hcells2
 have hlen : (l.length : Int) ≤ 9223372036854775807 := by unfold maxLen at hm; omega
 have hlen2 : (m.length : Int) ≤ 9223372036854775807 := by unfold maxLen at hm2; omega
 clear hao hao2 hcells hcells2 hs h1 h2 hcap hcap2 hm hm2
 by_cases hl : l.length = m.length
 ·have HL := Lib.hid hl
  rw [← hl]
  clear hl
  go_enter Tryz.func90, Tryz.ntmps90
  go_wp2_with fail
  go_loopw [13] (fun i wr => ∃ k : Nat, k ≤ l.length ∧ i = .int .i64 k ∧ Below w.heap.size w wr ∧ Hid (l.take k = m.take k)) (fun i _ => l.length - (intOf i).toNat)
  case atStart => exact ⟨0, Nat.zero_le _, rfl, Below.refl _ _, Lib.hid rfl⟩
  case round =>
   obtain ⟨k, hk, rfl, hb, ht⟩ := hrel
   by_cases hlt : k < l.length
   ·have hlt2 : k < m.length := by rw [← HL.out]; exact hlt
    have g1 := cells_see (sz := 5) (HS.out.bel hb) (HC.out k hlt).2 rfl
    have g2 := cells_see (sz := 5) (HS.out.bel hb) (HC2.out k hlt2).2 rfl
    obtain rfl := HA.out (by omega)
    obtain rfl := HA2.out (by omega)
    have HE : Hid (l[k] = m[k] → l.take (k + 1) = m.take (k + 1)) := Lib.hid (take_step hlt hlt2 ht.out)
    have HN : Hid (l[k] ≠ m[k] → l ≠ m) := Lib.hid (ne_of_get hlt hlt2)
    generalize l[k] = x at *
    generalize m[k] = y at *
    have G1 := Lib.hid g1
    have G2 := Lib.hid g2
    clear g1 g2
    have hqr : ∀ W : World, (binOp .neq 69 (.agg (corrCells x)) (.agg (corrCells y))).run Tryz.prog W = .ok (.bool (!decide (x = y))) W := fun W => corrCells_neq x y W
    have hk0 : (0 : Int) ≤ k := by omega
    have hk1 : (k : Int) < l.length := by omega
    clear ht hlt2
    by_cases hxy : x = y
    ·have HE2 := Lib.hid (HE.out hxy)
     have hxd : decide (x = y) = true := decide_eq_true hxy
     rw [hxd] at hqr
     clear hxy
     clear HE
     go_wp2_with fail
     refine wp_tail 8 (by kernel_rfl) (by kernel_rfl) ?_
     simp only [List.take_succ_cons, List.take_zero, List.drop_succ_cons, List.drop_zero]
     still_step
     still_step
     still_step
     refine wpStill_value rfl _ (exec_smid S_corr _ rfl (by simp [Act.eval]) (corrCells x) rfl G1.out) ?_
     simp only [Act.put, List.setIfInBounds_toArray, List.set_cons_zero, List.set_cons_succ]
     still_step
     still_step
     still_step
     refine wpStill_value rfl _ (exec_smid S_corr _ rfl (by simp [Act.eval]) (corrCells y) rfl G2.out) ?_
     simp only [Act.put, List.setIfInBounds_toArray, List.set_cons_zero, List.set_cons_succ]
     refine wpStill_nil ?_
     go_wp2_with fail
     go_roundw
     case rel => exact ⟨k + 1, by omega, by go_num, hb.drew, HE2⟩
     case measure => simp [intOf]; omega
    ·have hxd : decide (x = y) = false := decide_eq_false hxy
     rw [hxd] at hqr
     have HNE := Lib.hid hxy
     clear hxy
     go_wp2_with fail
     refine wp_tail 8 (by kernel_rfl) (by kernel_rfl) ?_
     simp only [List.take_succ_cons, List.take_zero, List.drop_succ_cons, List.drop_zero]
     still_step
     still_step
     still_step
     refine wpStill_value rfl _ (exec_smid S_corr _ rfl (by simp [Act.eval]) (corrCells x) rfl G1.out) ?_
     simp only [Act.put, List.setIfInBounds_toArray, List.set_cons_zero, List.set_cons_succ]
     still_step
     still_step
     still_step
     refine wpStill_value rfl _ (exec_smid S_corr _ rfl (by simp [Act.eval]) (corrCells y) rfl G2.out) ?_
     simp only [Act.put, List.setIfInBounds_toArray, List.set_cons_zero, List.set_cons_succ]
     refine wpStill_nil ?_
     go_wp2_with fail
     go_ret
     exact ⟨ret_bool (by symm; exact decide_eq_false (HN.out HNE.out)), hb.drew⟩
   ·have e : k = l.length := by omega
    subst e
    have HF : Hid (l = m) := Lib.hid (eq_full HL.out ht.out)
    go_wp2_with fail
    go_ret
    exact ⟨ret_bool (by symm; exact decide_eq_true HF.out), hb⟩
 ·have hne : decide (l.length = m.length) = false := decide_eq_false hl
  have HNE : Hid (l ≠ m) := Lib.hid (fun e => hl (by rw [e]))
  go_enter Tryz.func90, Tryz.ntmps90
  go_wp2_with fail
  all_goals first
   | (go_ret; exact ⟨ret_bool (by symm; exact decide_eq_false HNE.out), Below.refl _ _⟩)
   | (exfalso; simp_all; done)
set_option maxRecDepth 10000 in
set_option maxHeartbeats 4000000 in
theorem sameStory_any {mem : Addr → Option Value} {v u : Value} {x y : StyF} (h1 : StyV mem v x) (h2 : StyV mem u y) (w : World) (hs : Sees mem w) :
  Calls Tryz.prog 59 #[v, u] w fun e w' => e = .returned (.bool (decide (x = y))) ∧ Below w.heap.size w w' := by
 obtain ⟨_, tv, ev, cv, rfl, ht1, he1, hc1⟩ := h1
 obtain ⟨_, tv2, ev2, cv2, rfl, ht2, he2, hc2⟩ := h2
 obtain ⟨id, author, topics, eds, pub, corr, retr, taken⟩ := x
 obtain ⟨id2, author2, topics2, eds2, pub2, corr2, retr2, taken2⟩ := y
 have HT := Lib.hid (fun W hW => eqStrs_any ht1 ht2 W hW)
 have HE := Lib.hid (fun W hW => eqEdns_any he1 he2 W hW)
 have HC := Lib.hid (fun W hW => eqCorrs_any hc1 hc2 W hW)
 obtain ⟨ta, tc, rfl⟩ := ht1.slice
 obtain ⟨ta2, tc2, rfl⟩ := ht2.slice
 obtain ⟨ea, ec, rfl⟩ := SlM.slice he1
 obtain ⟨ea2, ec2, rfl⟩ := SlM.slice he2
 obtain ⟨ca, cc, rfl⟩ := SlM.slice hc1
 obtain ⟨ca2, cc2, rfl⟩ := SlM.slice hc2
 have HR := Lib.hid (sty_dec id author topics eds pub corr retr taken id2 author2 topics2 eds2 pub2 corr2 retr2 taken2)
 have HS := Lib.hid hs
 dsimp only at HT HE HC ⊢
 clear ht1 ht2 he1 he2 hc1 hc2 hs
 generalize hn1 : topics.length = n1 at *
 generalize hn2 : topics2.length = n2 at *
 generalize hn3 : eds.length = n3 at *
 generalize hn4 : eds2.length = n4 at *
 generalize hn5 : corr.length = n5 at *
 generalize hn6 : corr2.length = n6 at *
 clear hn1 hn2 hn3 hn4 hn5 hn6
 obtain ⟨W2, hW2⟩ : ∃ W2, W2 = (w.alloc (.cells #[.int .i64 id, .string author, .slice ta n1 tc, .slice ea n3 ec, .int .i64 pub, .slice ca n5 cc, .bool retr, .bool taken] 34)).alloc (.cells #[.int .i64 id2, .string author2, .slice ta2 n2 tc2, .slice ea2 n4 ec2, .int .i64 pub2, .slice ca2 n6 cc2, .bool retr2, .bool taken2] 34) := ⟨_, rfl⟩
 have hB2 : Below w.heap.size w W2 := by rw [hW2]; exact (bel1 w _).alloc (by simp) _
 have HN1 : Hid (W2.heap[w.heap.size]? = some (.cells #[.int .i64 id, .string author, .slice ta n1 tc, .slice ea n3 ec, .int .i64 pub, .slice ca n5 cc, .bool retr, .bool taken] 34 (0, 0))) := Lib.hid (by rw [hW2]; exact heap_new1 w _ _)
 have HN2 : Hid (W2.heap[w.heap.size + 1]? = some (.cells #[.int .i64 id2, .string author2, .slice ta2 n2 tc2, .slice ea2 n4 ec2, .int .i64 pub2, .slice ca2 n6 cc2, .bool retr2, .bool taken2] 34 (0, 0))) := Lib.hid (by
  rw [hW2]
  have := World.alloc_heap_new (w.alloc (.cells #[.int .i64 id, .string author, .slice ta n1 tc, .slice ea n3 ec, .int .i64 pub, .slice ca n5 cc, .bool retr, .bool taken] 34)) (.cells #[.int .i64 id2, .string author2, .slice ta2 n2 tc2, .slice ea2 n4 ec2, .int .i64 pub2, .slice ca2 n6 cc2, .bool retr2, .bool taken2] 34)
  simpa using this)
 have HB2 := Lib.hid hB2
 have HW2 := Lib.hid hW2
 have HS2 := Lib.hid (HS.out.bel hB2)
 clear hB2 hW2
 go_enter Tryz.func59, Tryz.ntmps59
 go_upto_region 1 with fail
 rw [← HW2.out]
 have HB := HB2
 have HSW := HS2
 have HH1 := HN1
 have HH2 := HN2
 clear HB2 HS2 HN1 HN2 HW2
 have p0 : W2.cell? ⟨w.heap.size, 0, none⟩ = some (.int .i64 id) := rowcell HH1.out
 have q0 : W2.cell? ⟨w.heap.size + 1, 0, none⟩ = some (.int .i64 id2) := rowcell HH2.out
 have p1 : W2.cell? ⟨w.heap.size, 1, none⟩ = some (.string author) := rowcell HH1.out
 have q1 : W2.cell? ⟨w.heap.size + 1, 1, none⟩ = some (.string author2) := rowcell HH2.out
 have p2 : W2.cell? ⟨w.heap.size, 2, none⟩ = some (.slice ta n1 tc) := rowcell HH1.out
 have q2 : W2.cell? ⟨w.heap.size + 1, 2, none⟩ = some (.slice ta2 n2 tc2) := rowcell HH2.out
 have p3 : W2.cell? ⟨w.heap.size, 3, none⟩ = some (.slice ea n3 ec) := rowcell HH1.out
 have q3 : W2.cell? ⟨w.heap.size + 1, 3, none⟩ = some (.slice ea2 n4 ec2) := rowcell HH2.out
 have p4 : W2.cell? ⟨w.heap.size, 4, none⟩ = some (.int .i64 pub) := rowcell HH1.out
 have q4 : W2.cell? ⟨w.heap.size + 1, 4, none⟩ = some (.int .i64 pub2) := rowcell HH2.out
 have p5 : W2.cell? ⟨w.heap.size, 5, none⟩ = some (.slice ca n5 cc) := rowcell HH1.out
 have q5 : W2.cell? ⟨w.heap.size + 1, 5, none⟩ = some (.slice ca2 n6 cc2) := rowcell HH2.out
 have p6 : W2.cell? ⟨w.heap.size, 6, none⟩ = some (.bool retr) := rowcell HH1.out
 have q6 : W2.cell? ⟨w.heap.size + 1, 6, none⟩ = some (.bool retr2) := rowcell HH2.out
 have p7 : W2.cell? ⟨w.heap.size, 7, none⟩ = some (.bool taken) := rowcell HH1.out
 have q7 : W2.cell? ⟨w.heap.size + 1, 7, none⟩ = some (.bool taken2) := rowcell HH2.out
 by_cases e0 : id = id2
 ·subst e0
  by_cases e1 : author = author2
  ·subst e1
   go_wp2_with fail
   refine (HT.out _ HSW.out).mono ?_
   rintro e w12 ⟨rfl, hb⟩
   have HB := Lib.hid (HB.out.trans (hb.mono HB.out.size))
   have HSW := Lib.hid (HSW.out.bel hb)
   have HH1 := Lib.hid ((hb.block _ (hlt HH1.out)).trans HH1.out)
   have HH2 := Lib.hid ((hb.block _ (hlt HH2.out)).trans HH2.out)
   clear hb p0 q0 p1 q1 p2 q2 p3 q3 p4 q4 p5 q5 p6 q6 p7 q7
   have p0 : w12.cell? ⟨w.heap.size, 0, none⟩ = some (.int .i64 id) := rowcell HH1.out
   have q0 : w12.cell? ⟨w.heap.size + 1, 0, none⟩ = some (.int .i64 id) := rowcell HH2.out
   have p1 : w12.cell? ⟨w.heap.size, 1, none⟩ = some (.string author) := rowcell HH1.out
   have q1 : w12.cell? ⟨w.heap.size + 1, 1, none⟩ = some (.string author) := rowcell HH2.out
   have p2 : w12.cell? ⟨w.heap.size, 2, none⟩ = some (.slice ta n1 tc) := rowcell HH1.out
   have q2 : w12.cell? ⟨w.heap.size + 1, 2, none⟩ = some (.slice ta2 n2 tc2) := rowcell HH2.out
   have p3 : w12.cell? ⟨w.heap.size, 3, none⟩ = some (.slice ea n3 ec) := rowcell HH1.out
   have q3 : w12.cell? ⟨w.heap.size + 1, 3, none⟩ = some (.slice ea2 n4 ec2) := rowcell HH2.out
   have p4 : w12.cell? ⟨w.heap.size, 4, none⟩ = some (.int .i64 pub) := rowcell HH1.out
   have q4 : w12.cell? ⟨w.heap.size + 1, 4, none⟩ = some (.int .i64 pub2) := rowcell HH2.out
   have p5 : w12.cell? ⟨w.heap.size, 5, none⟩ = some (.slice ca n5 cc) := rowcell HH1.out
   have q5 : w12.cell? ⟨w.heap.size + 1, 5, none⟩ = some (.slice ca2 n6 cc2) := rowcell HH2.out
   have p6 : w12.cell? ⟨w.heap.size, 6, none⟩ = some (.bool retr) := rowcell HH1.out
   have q6 : w12.cell? ⟨w.heap.size + 1, 6, none⟩ = some (.bool retr2) := rowcell HH2.out
   have p7 : w12.cell? ⟨w.heap.size, 7, none⟩ = some (.bool taken) := rowcell HH1.out
   have q7 : w12.cell? ⟨w.heap.size + 1, 7, none⟩ = some (.bool taken2) := rowcell HH2.out
   have EN : Hid (decide (topics = topics2) = false → decide (topics = topics2) = false) := Lib.hid (fun h => h)
   have EY : Hid (decide (topics = topics2) = true → topics = topics2) := Lib.hid of_decide_eq_true
   generalize hq : decide (topics = topics2) = q at *
   cases q with
   | false =>
    clear hq EY EN
    have EN := Lib.hid (Eq.refl false)
    go_wp2_with fail
    go_ret
    exact ⟨ret_false (by first | (rw [HR.out]; simp; done) | (simp [EN.out]; done)), HB.out⟩
   | true =>
    clear hq EY EN
    go_wp2_with fail
    refine (HE.out _ HSW.out).mono ?_
    rintro e w13 ⟨rfl, hb⟩
    have HB := Lib.hid (HB.out.trans (hb.mono HB.out.size))
    have HSW := Lib.hid (HSW.out.bel hb)
    have HH1 := Lib.hid ((hb.block _ (hlt HH1.out)).trans HH1.out)
    have HH2 := Lib.hid ((hb.block _ (hlt HH2.out)).trans HH2.out)
    clear hb p0 q0 p1 q1 p2 q2 p3 q3 p4 q4 p5 q5 p6 q6 p7 q7
    have p0 : w13.cell? ⟨w.heap.size, 0, none⟩ = some (.int .i64 id) := rowcell HH1.out
    have q0 : w13.cell? ⟨w.heap.size + 1, 0, none⟩ = some (.int .i64 id) := rowcell HH2.out
    have p1 : w13.cell? ⟨w.heap.size, 1, none⟩ = some (.string author) := rowcell HH1.out
    have q1 : w13.cell? ⟨w.heap.size + 1, 1, none⟩ = some (.string author) := rowcell HH2.out
    have p2 : w13.cell? ⟨w.heap.size, 2, none⟩ = some (.slice ta n1 tc) := rowcell HH1.out
    have q2 : w13.cell? ⟨w.heap.size + 1, 2, none⟩ = some (.slice ta2 n2 tc2) := rowcell HH2.out
    have p3 : w13.cell? ⟨w.heap.size, 3, none⟩ = some (.slice ea n3 ec) := rowcell HH1.out
    have q3 : w13.cell? ⟨w.heap.size + 1, 3, none⟩ = some (.slice ea2 n4 ec2) := rowcell HH2.out
    have p4 : w13.cell? ⟨w.heap.size, 4, none⟩ = some (.int .i64 pub) := rowcell HH1.out
    have q4 : w13.cell? ⟨w.heap.size + 1, 4, none⟩ = some (.int .i64 pub2) := rowcell HH2.out
    have p5 : w13.cell? ⟨w.heap.size, 5, none⟩ = some (.slice ca n5 cc) := rowcell HH1.out
    have q5 : w13.cell? ⟨w.heap.size + 1, 5, none⟩ = some (.slice ca2 n6 cc2) := rowcell HH2.out
    have p6 : w13.cell? ⟨w.heap.size, 6, none⟩ = some (.bool retr) := rowcell HH1.out
    have q6 : w13.cell? ⟨w.heap.size + 1, 6, none⟩ = some (.bool retr2) := rowcell HH2.out
    have p7 : w13.cell? ⟨w.heap.size, 7, none⟩ = some (.bool taken) := rowcell HH1.out
    have q7 : w13.cell? ⟨w.heap.size + 1, 7, none⟩ = some (.bool taken2) := rowcell HH2.out
    have EN : Hid (decide (eds = eds2) = false → decide (eds = eds2) = false) := Lib.hid (fun h => h)
    have EY : Hid (decide (eds = eds2) = true → eds = eds2) := Lib.hid of_decide_eq_true
    generalize hq : decide (eds = eds2) = q at *
    cases q with
    | false =>
     clear hq EY EN
     have EN := Lib.hid (Eq.refl false)
     go_wp2_with fail
     go_ret
     exact ⟨ret_false (by first | (rw [HR.out]; simp; done) | (simp [EN.out]; done)), HB.out⟩
    | true =>
     clear hq EY EN
     by_cases e4 : pub = pub2
     ·subst e4
      go_wp2_with fail
      refine (HC.out _ HSW.out).mono ?_
      rintro e w15 ⟨rfl, hb⟩
      have HB := Lib.hid (HB.out.trans (hb.mono HB.out.size))
      have HSW := Lib.hid (HSW.out.bel hb)
      have HH1 := Lib.hid ((hb.block _ (hlt HH1.out)).trans HH1.out)
      have HH2 := Lib.hid ((hb.block _ (hlt HH2.out)).trans HH2.out)
      clear hb p0 q0 p1 q1 p2 q2 p3 q3 p4 q4 p5 q5 p6 q6 p7 q7
      have p0 : w15.cell? ⟨w.heap.size, 0, none⟩ = some (.int .i64 id) := rowcell HH1.out
      have q0 : w15.cell? ⟨w.heap.size + 1, 0, none⟩ = some (.int .i64 id) := rowcell HH2.out
      have p1 : w15.cell? ⟨w.heap.size, 1, none⟩ = some (.string author) := rowcell HH1.out
      have q1 : w15.cell? ⟨w.heap.size + 1, 1, none⟩ = some (.string author) := rowcell HH2.out
      have p2 : w15.cell? ⟨w.heap.size, 2, none⟩ = some (.slice ta n1 tc) := rowcell HH1.out
      have q2 : w15.cell? ⟨w.heap.size + 1, 2, none⟩ = some (.slice ta2 n2 tc2) := rowcell HH2.out
      have p3 : w15.cell? ⟨w.heap.size, 3, none⟩ = some (.slice ea n3 ec) := rowcell HH1.out
      have q3 : w15.cell? ⟨w.heap.size + 1, 3, none⟩ = some (.slice ea2 n4 ec2) := rowcell HH2.out
      have p4 : w15.cell? ⟨w.heap.size, 4, none⟩ = some (.int .i64 pub) := rowcell HH1.out
      have q4 : w15.cell? ⟨w.heap.size + 1, 4, none⟩ = some (.int .i64 pub) := rowcell HH2.out
      have p5 : w15.cell? ⟨w.heap.size, 5, none⟩ = some (.slice ca n5 cc) := rowcell HH1.out
      have q5 : w15.cell? ⟨w.heap.size + 1, 5, none⟩ = some (.slice ca2 n6 cc2) := rowcell HH2.out
      have p6 : w15.cell? ⟨w.heap.size, 6, none⟩ = some (.bool retr) := rowcell HH1.out
      have q6 : w15.cell? ⟨w.heap.size + 1, 6, none⟩ = some (.bool retr2) := rowcell HH2.out
      have p7 : w15.cell? ⟨w.heap.size, 7, none⟩ = some (.bool taken) := rowcell HH1.out
      have q7 : w15.cell? ⟨w.heap.size + 1, 7, none⟩ = some (.bool taken2) := rowcell HH2.out
      have EN : Hid (decide (corr = corr2) = false → decide (corr = corr2) = false) := Lib.hid (fun h => h)
      have EY : Hid (decide (corr = corr2) = true → corr = corr2) := Lib.hid of_decide_eq_true
      generalize hq : decide (corr = corr2) = q at *
      cases q with
      | false =>
       clear hq EY EN
       have EN := Lib.hid (Eq.refl false)
       go_wp2_with fail
       go_ret
       exact ⟨ret_false (by first | (rw [HR.out]; simp; done) | (simp [EN.out]; done)), HB.out⟩
      | true =>
       clear hq EY EN
       by_cases e6 : retr = retr2
       ·subst e6
        by_cases e7 : taken = taken2
        ·subst e7
         go_wp2_with fail
         go_ret
         exact ⟨ret_true (by first | (rw [HR.out]; simp; done) | (simp; done)), HB.out⟩
        ·have ne : (taken == taken2) = false := by simpa using e7
         have EN := Lib.hid (decide_eq_false e7)
         clear e7
         go_wp2_with fail
         go_ret
         exact ⟨ret_false (by first | (rw [HR.out]; simp [EN.out]; done) | (simp [EN.out]; done)), HB.out⟩
       ·have ne : (retr == retr2) = false := by simpa using e6
        have EN := Lib.hid (decide_eq_false e6)
        clear e6
        go_wp2_with fail
        go_ret
        exact ⟨ret_false (by first | (rw [HR.out]; simp [EN.out]; done) | (simp [EN.out]; done)), HB.out⟩
     ·have ne : (pub == pub2) = false := by simpa using e4
      have EN := Lib.hid (decide_eq_false e4)
      clear e4
      go_wp2_with fail
      go_ret
      exact ⟨ret_false (by first | (rw [HR.out]; simp [EN.out]; done) | (simp [EN.out]; done)), HB.out⟩
  ·have ne : (author.toList == author2.toList) = false := str_ne e1
   have EN := Lib.hid (decide_eq_false e1)
   clear e1
   go_wp2_with fail
   go_ret
   exact ⟨ret_false (by first | (rw [HR.out]; simp [EN.out]; done) | (simp [EN.out]; done)), HB.out⟩
 ·have ne : (id == id2) = false := by simpa using e0
  have EN := Lib.hid (decide_eq_false e0)
  clear e0
  go_wp2_with fail
  go_ret
  exact ⟨ret_false (by first | (rw [HR.out]; simp [EN.out]; done) | (simp [EN.out]; done)), HB.out⟩
set_option maxRecDepth 10000 in
set_option maxHeartbeats 4000000 in
theorem eqStys_any {mem : Addr → Option Value} {v u : Value} {l m : List StyF} (h1 : StysM mem v l) (h2 : StysM mem u m) (w : World) (hs : Sees mem w) :
  Calls Tryz.prog 58 #[v, u, .func (.func 59) #[] #[]] w fun e w' => e = .returned (.bool (decide (l = m))) ∧ Below w.heap.size w w' := by
 obtain ⟨ao, cap, b, o, rfl, hcap, hm, hao, hblks⟩ := SlM.open_ h1
 obtain ⟨ao2, cap2, b2, o2, rfl, hcap2, hm2, hao2, hblks2⟩ := SlM.open_ h2
 have HA := Lib.hid hao
 have HA2 := Lib.hid hao2
 have HB := Lib.hid hblks
 have HB2 := Lib.hid hblks2
 have HS := Lib.hid hs
 have hlen : (l.length : Int) ≤ 9223372036854775807 := by unfold maxLen at hm; omega
 have hlen2 : (m.length : Int) ≤ 9223372036854775807 := by unfold maxLen at hm2; omega
 clear h1 h2 hao hao2 hblks hblks2 hs hcap hcap2 hm hm2
 by_cases hl : l.length = m.length
 ·have HL := Lib.hid hl
  rw [← hl]
  clear hl
  go_enter Tryz.func58, Tryz.ntmps58
  go_wp2_with fail
  go_loopw [17] (fun i wr => ∃ k : Nat, k ≤ l.length ∧ i = .int .i64 k ∧ Below w.heap.size w wr ∧ Hid (l.take k = m.take k)) (fun i _ => l.length - (intOf i).toNat)
  case atStart => exact ⟨0, Nat.zero_le _, rfl, Below.refl _ _, Lib.hid rfl⟩
  case round =>
   obtain ⟨k, hk, rfl, hb, ht⟩ := hrel
   by_cases hlt : k < l.length
   ·have hlt2 : k < m.length := by rw [← HL.out]; exact hlt
    obtain rfl := HA.out (by omega)
    obtain rfl := HA2.out (by omega)
    obtain ⟨hok, tv, ev, cv, hcells, hP⟩ := HB.out k hlt
    obtain ⟨hok2, tv2, ev2, cv2, hcells2, hP2⟩ := HB2.out k hlt2
    have HV1 : Hid (StyV mem (.agg (styCells l[k] tv ev cv)) l[k]) := Lib.hid ⟨hok, _, _, _, rfl, hP⟩
    have HV2 : Hid (StyV mem (.agg (styCells m[k] tv2 ev2 cv2)) m[k]) := Lib.hid ⟨hok2, _, _, _, rfl, hP2⟩
    have HD1 := Lib.hid (cells_see (sz := 8) (HS.out.bel hb) hcells rfl)
    have HD2 := Lib.hid (cells_see (sz := 8) (HS.out.bel hb) hcells2 rfl)
    obtain ⟨t1, t2, e1, e2, c1, c2, rfl, rfl, rfl⟩ := hP.shape
    obtain ⟨t3, t4, e3, e4, c3, c4, rfl, rfl, rfl⟩ := hP2.shape
    generalize l[k].topics.length = n1 at *
    generalize l[k].eds.length = n2 at *
    generalize l[k].corr.length = n3 at *
    generalize m[k].topics.length = n4 at *
    generalize m[k].eds.length = n5 at *
    generalize m[k].corr.length = n6 at *
    clear hok hok2 hcells hcells2 hP hP2
    have HE : Hid (l[k] = m[k] → l.take (k + 1) = m.take (k + 1)) := Lib.hid (take_step hlt hlt2 ht.out)
    have HN : Hid (l[k] ≠ m[k] → decide (l = m) = false) := Lib.hid (fun e => decide_eq_false (ne_of_get hlt hlt2 e))
    have hk0 : (0 : Int) ≤ k := by omega
    have hk1 : (k : Int) < l.length := by omega
    generalize l[k] = x at *
    generalize m[k] = y at *
    have HC : Hid (∀ W, Sees mem W → Calls Tryz.prog 59 #[.agg (styCells x (.slice t1 n1 t2) (.slice e1 n2 e2) (.slice c1 n3 c2)), .agg (styCells y (.slice t3 n4 t4) (.slice e3 n5 e4) (.slice c3 n6 c4))] W fun e w' => e = .returned (.bool (decide (x = y))) ∧ Below W.heap.size W w') :=
     Lib.hid (fun W hW => sameStory_any HV1.out HV2.out W hW)
    have HC9 : Hid (decide (x = y) = true → x = y) := Lib.hid of_decide_eq_true
    have HC8 : Hid (decide (x = y) = false → x ≠ y) := Lib.hid of_decide_eq_false
    generalize hq : decide (x = y) = q at *
    have HB0 := Lib.hid hb
    clear hq ht hb
    go_upto_region 6 with (first
     | ((with_reducible refine at_sload 34 _ rfl ?_); go_must (refine wpList_smid rfl S_sty _ rfl (by simp [Act.eval]) (styCells x (.slice t1 n1 t2) (.slice e1 n2 e2) (.slice c1 n3 c2)) rfl HD1.out ?_))
     | ((with_reducible refine at_sstore 34 _ _ rfl ?_); go_must (refine wpList_snew rfl S_sty _ _ rfl rfl _ _ (styCells x (.slice t1 n1 t2) (.slice e1 n2 e2) (.slice c1 n3 c2)) (by simp [Act.eval]) (by simp [Act.eval]) rfl rfl (by simp [Value.oneCell']) ?_)))
    obtain ⟨W4, hW4⟩ : ∃ W4, W4 = wr.alloc (.cells (styCells x (.slice t1 n1 t2) (.slice e1 n2 e2) (.slice c1 n3 c2)) 34) := ⟨_, rfl⟩
    rw [← hW4]
    have hb4 : Below wr.heap.size wr W4 := by rw [hW4]; exact bel1 _ _
    have HN4 : Hid (W4.heap[wr.heap.size]? = some (.cells (styCells x (.slice t1 n1 t2) (.slice e1 n2 e2) (.slice c1 n3 c2)) 34 (0, 0))) := Lib.hid (by rw [hW4]; exact World.alloc_heap_new _ _)
    have HD3 := Lib.hid (cells_in HD2.out hb4)
    have HB4 := Lib.hid hb4
    clear hW4 hb4
    go_upto_region 7 with (first
     | ((with_reducible refine at_sload 34 _ rfl ?_); go_must (refine wpList_smid rfl S_sty _ rfl (by simp [Act.eval]) (styCells y (.slice t3 n4 t4) (.slice e3 n5 e4) (.slice c3 n6 c4)) rfl HD3.out ?_))
     | ((with_reducible refine at_sstore 34 _ _ rfl ?_); go_must (refine wpList_snew rfl S_sty _ _ rfl rfl _ _ (styCells y (.slice t3 n4 t4) (.slice e3 n5 e4) (.slice c3 n6 c4)) (by simp [Act.eval]) (by simp [Act.eval]) rfl rfl (by simp [Value.oneCell']) ?_)))
    obtain ⟨W5, hW5⟩ : ∃ W5, W5 = W4.alloc (.cells (styCells y (.slice t3 n4 t4) (.slice e3 n5 e4) (.slice c3 n6 c4)) 34) := ⟨_, rfl⟩
    rw [← hW5]
    have hb5 : Below W4.heap.size W4 W5 := by rw [hW5]; exact bel1 _ _
    have HN6 : Hid (W5.heap[W4.heap.size]? = some (.cells (styCells y (.slice t3 n4 t4) (.slice e3 n5 e4) (.slice c3 n6 c4)) 34 (0, 0))) := Lib.hid (by rw [hW5]; exact World.alloc_heap_new _ _)
    have HN5 := Lib.hid ((hb5.block _ (Go.Proofs.YtdkkhmjlamkgdaaGreatDoor.hlt HN4.out)).trans HN4.out)
    have HB5 : Hid (Below w.heap.size w W5) := Lib.hid ((HB0.out.trans (HB4.out.mono HB0.out.size)).trans (hb5.mono (Nat.le_trans HB0.out.size HB4.out.size)))
    have HS5 := Lib.hid (HS.out.bel HB5.out)
    clear hW5 hb5
    go_wp2_with (first
     | ((with_reducible refine at_sload 34 (.tmp 8) rfl ?_); go_must (refine wpList_sload rfl S_sty _ rfl (by simp [Act.eval]) (styCells x (.slice t1 n1 t2) (.slice e1 n2 e2) (.slice c1 n3 c2)) rfl HN5.out ?_))
     | ((with_reducible refine at_sload 34 (.tmp 9) rfl ?_); go_must (refine wpList_sload rfl S_sty _ rfl (by simp [Act.eval, Act.put]) (styCells y (.slice t3 n4 t4) (.slice e3 n5 e4) (.slice c3 n6 c4)) rfl HN6.out ?_)))
    refine (HC.out _ HS5.out).mono ?_
    rintro e w3 ⟨rfl, hb3⟩
    have hB3 : Below w.heap.size w w3 := HB5.out.trans (hb3.mono HB5.out.size)
    clear hb3 HB0
    cases q with
    | true =>
     have HE2 := Lib.hid (HE.out (HC9.out rfl))
     clear HE HN HC9 HC8
     go_wp2_with fail
     go_roundw
     case rel => exact ⟨k + 1, by omega, by go_num, hB3, HE2⟩
     case measure => simp [intOf]; omega
    | false =>
     have HN2 := Lib.hid (HN.out (HC8.out rfl))
     clear HE HN HC9 HC8
     go_wp2_with fail
     go_ret
     exact ⟨ret_false HN2.out, hB3⟩
   ·have e : k = l.length := by omega
    subst e
    have HF : Hid (decide (l = m) = true) := Lib.hid (decide_eq_true (eq_full HL.out ht.out))
    go_wp2_with fail
    go_ret
    exact ⟨ret_true HF.out, hb⟩
 ·have HNE : Hid (decide (l = m) = false) := Lib.hid (decide_eq_false (fun e => hl (by rw [e])))
  have hne : decide (l.length = m.length) = false := decide_eq_false hl
  go_enter Tryz.func58, Tryz.ntmps58
  go_wp2_with fail
  all_goals first
   | (go_ret; exact ⟨ret_false HNE.out, Below.refl _ _⟩)
   | (exfalso; simp_all; done)
end Go.Proofs.YtdkkhmjlamkgdaaGreatDoor
namespace Go.Proofs.YtdkkhmjlamkgdaaGreatDoor
open Go.RowKit Mg Go.Shelf Go.Maps

theorem tplCells_neq (x y : TplF) (W : World) : (binOp .neq 52 (.agg (tplCells x)) (.agg (tplCells y))).run Tryz.prog W = .ok (.bool (!decide (x = y))) W := by
 obtain ⟨a0, a1⟩ := x
 obtain ⟨b0, b1⟩ := y
 rw [run_neq_struct, run_equalIn_agg _ _ _ _ _ (by kernel_rfl) (by kernel_rfl)]
 simp only [Program.fieldsOf, Tryz.underlying52]
 go_simp
 simp only [toList_iff]
 by_cases h0 : a0 = b0 <;> by_cases h1 : a1 = b1 <;> simp [h0, h1]
set_option maxRecDepth 10000 in
set_option maxHeartbeats 1000000 in
theorem eqTpls_any {mem : Addr → Option Value} {v u : Value} {l m : List TplF} (h1 : TplsM mem v l) (h2 : TplsM mem u m) (w : World) (hs : Sees mem w) :
  Calls Tryz.prog 60 #[v, u] w fun e w' => e = .returned (.bool (decide (l = m))) ∧ Below w.heap.size w w' := by
 obtain ⟨ao, cap, b, o, rfl, hcap, hm, hao, hcells⟩ := SlM.open_ h1
 obtain ⟨ao2, cap2, b2, o2, rfl, hcap2, hm2, hao2, hcells2⟩ := SlM.open_ h2
 have HS := Lib.hid hs
 have HA := Lib.hid hao
 have HA2 := Lib.hid hao2
 have HC := Lib.hid hcells
 have HC2 := Lib.hid hcells2
 have hlen : (l.length : Int) ≤ 9223372036854775807 := by unfold maxLen at hm; omega
 have hlen2 : (m.length : Int) ≤ 9223372036854775807 := by unfold maxLen at hm2; omega
 clear hao hao2 hcells hcells2 hs h1 h2 hcap hcap2 hm hm2
 by_cases hl : l.length = m.length
 ·have HL := Lib.hid hl
  rw [← hl]
  clear hl
  go_enter Tryz.func60, Tryz.ntmps60
  go_wp2_with fail
  go_loopw [13] (fun i wr => ∃ k : Nat, k ≤ l.length ∧ i = .int .i64 k ∧ Below w.heap.size w wr ∧ Hid (l.take k = m.take k)) (fun i _ => l.length - (intOf i).toNat)
  case atStart => exact ⟨0, Nat.zero_le _, rfl, Below.refl _ _, Lib.hid rfl⟩
  case round =>
   obtain ⟨k, hk, rfl, hb, ht⟩ := hrel
   by_cases hlt : k < l.length
   ·have hlt2 : k < m.length := by rw [← HL.out]; exact hlt
    have g1 := cells_see (sz := 2) (HS.out.bel hb) (HC.out k hlt).2 rfl
    have g2 := cells_see (sz := 2) (HS.out.bel hb) (HC2.out k hlt2).2 rfl
    obtain rfl := HA.out (by omega)
    obtain rfl := HA2.out (by omega)
    have HE : Hid (l[k] = m[k] → l.take (k + 1) = m.take (k + 1)) := Lib.hid (take_step hlt hlt2 ht.out)
    have HN : Hid (l[k] ≠ m[k] → l ≠ m) := Lib.hid (ne_of_get hlt hlt2)
    generalize l[k] = x at *
    generalize m[k] = y at *
    have G1 := Lib.hid g1
    have G2 := Lib.hid g2
    clear g1 g2
    have hqr : ∀ W : World, (binOp .neq 52 (.agg (tplCells x)) (.agg (tplCells y))).run Tryz.prog W = .ok (.bool (!decide (x = y))) W := fun W => tplCells_neq x y W
    have hk0 : (0 : Int) ≤ k := by omega
    have hk1 : (k : Int) < l.length := by omega
    clear ht hlt2
    by_cases hxy : x = y
    ·have HE2 := Lib.hid (HE.out hxy)
     have hxd : decide (x = y) = true := decide_eq_true hxy
     rw [hxd] at hqr
     clear hxy
     clear HE
     go_wp2_with fail
     refine wp_tail 8 (by kernel_rfl) (by kernel_rfl) ?_
     simp only [List.take_succ_cons, List.take_zero, List.drop_succ_cons, List.drop_zero]
     still_step
     still_step
     still_step
     refine wpStill_value rfl _ (exec_smid S_tpl _ rfl (by simp [Act.eval]) (tplCells x) rfl G1.out) ?_
     simp only [Act.put, List.setIfInBounds_toArray, List.set_cons_zero, List.set_cons_succ]
     still_step
     still_step
     still_step
     refine wpStill_value rfl _ (exec_smid S_tpl _ rfl (by simp [Act.eval]) (tplCells y) rfl G2.out) ?_
     simp only [Act.put, List.setIfInBounds_toArray, List.set_cons_zero, List.set_cons_succ]
     refine wpStill_nil ?_
     go_wp2_with fail
     go_roundw
     case rel => exact ⟨k + 1, by omega, by go_num, hb.drew, HE2⟩
     case measure => simp [intOf]; omega
    ·have hxd : decide (x = y) = false := decide_eq_false hxy
     rw [hxd] at hqr
     have HNE := Lib.hid hxy
     clear hxy
     go_wp2_with fail
     refine wp_tail 8 (by kernel_rfl) (by kernel_rfl) ?_
     simp only [List.take_succ_cons, List.take_zero, List.drop_succ_cons, List.drop_zero]
     still_step
     still_step
     still_step
     refine wpStill_value rfl _ (exec_smid S_tpl _ rfl (by simp [Act.eval]) (tplCells x) rfl G1.out) ?_
     simp only [Act.put, List.setIfInBounds_toArray, List.set_cons_zero, List.set_cons_succ]
     still_step
     still_step
     still_step
     refine wpStill_value rfl _ (exec_smid S_tpl _ rfl (by simp [Act.eval]) (tplCells y) rfl G2.out) ?_
     simp only [Act.put, List.setIfInBounds_toArray, List.set_cons_zero, List.set_cons_succ]
     refine wpStill_nil ?_
     go_wp2_with fail
     go_ret
     exact ⟨ret_bool (by symm; exact decide_eq_false (HN.out HNE.out)), hb.drew⟩
   ·have e : k = l.length := by omega
    subst e
    have HF : Hid (l = m) := Lib.hid (eq_full HL.out ht.out)
    go_wp2_with fail
    go_ret
    exact ⟨ret_bool (by symm; exact decide_eq_true HF.out), hb⟩
 ·have hne : decide (l.length = m.length) = false := decide_eq_false hl
  have HNE : Hid (l ≠ m) := Lib.hid (fun e => hl (by rw [e]))
  go_enter Tryz.func60, Tryz.ntmps60
  go_wp2_with fail
  all_goals first
   | (go_ret; exact ⟨ret_bool (by symm; exact decide_eq_false HNE.out), Below.refl _ _⟩)
   | (exfalso; simp_all; done)
set_option maxRecDepth 10000 in
set_option maxHeartbeats 4000000 in
theorem same_law {mem : Addr → Option Value} {v u : Value} {x y : StF} (h1 : StateM mem v x) (h2 : StateM mem u y) (w : World) (hs : Sees mem w) :
  Calls Tryz.prog 31 #[v, u] w fun e w' => e = .returned (.bool (decide (x = y))) ∧ Below w.heap.size w w' := by
 obtain ⟨sv, tv, rfl, hs1, ht1⟩ := h1
 obtain ⟨sv2, tv2, rfl, hs2, ht2⟩ := h2
 obtain ⟨sts, tps⟩ := x
 obtain ⟨sts2, tps2⟩ := y
 dsimp only at hs1 ht1 hs2 ht2
 have HL := Lib.hid (fun W hW => eqStys_any hs1 hs2 W hW)
 have HT := Lib.hid (fun W hW => eqTpls_any ht1 ht2 W hW)
 obtain ⟨a, c, rfl⟩ := SlM.slice hs1
 obtain ⟨a2, c2, rfl⟩ := SlM.slice hs2
 obtain ⟨b, d, rfl⟩ := SlM.slice ht1
 obtain ⟨b2, d2, rfl⟩ := SlM.slice ht2
 have HR : Hid (decide ((⟨sts, tps⟩ : StF) = ⟨sts2, tps2⟩) = (decide (sts = sts2) && decide (tps = tps2))) := Lib.hid (by simp only [StF.mk.injEq, Bool.decide_and])
 have HS := Lib.hid hs
 clear hs1 hs2 ht1 ht2 hs
 generalize hn1 : sts.length = n1 at *
 generalize hn2 : sts2.length = n2 at *
 generalize hn3 : tps.length = n3 at *
 generalize hn4 : tps2.length = n4 at *
 clear hn1 hn2 hn3 hn4
 obtain ⟨W2, hW2⟩ : ∃ W2, W2 = (w.alloc (.cells #[.slice a n1 c, .slice b n3 d] 27)).alloc (.cells #[.slice a2 n2 c2, .slice b2 n4 d2] 27) := ⟨_, rfl⟩
 have hB2 : Below w.heap.size w W2 := by rw [hW2]; exact (bel1 w _).alloc (by simp) _
 have HN1 : Hid (W2.heap[w.heap.size]? = some (.cells #[.slice a n1 c, .slice b n3 d] 27 (0, 0))) := Lib.hid (by rw [hW2]; exact heap_new1 w _ _)
 have HN2 : Hid (W2.heap[w.heap.size + 1]? = some (.cells #[.slice a2 n2 c2, .slice b2 n4 d2] 27 (0, 0))) := Lib.hid (by
  rw [hW2]
  have := World.alloc_heap_new (w.alloc (.cells #[.slice a n1 c, .slice b n3 d] 27)) (.cells #[.slice a2 n2 c2, .slice b2 n4 d2] 27)
  simpa using this)
 have HB2 := Lib.hid hB2
 have HW2 := Lib.hid hW2
 have HS2 := Lib.hid (HS.out.bel hB2)
 clear hB2 hW2
 go_enter Tryz.func31, Tryz.ntmps31
 go_upto_region 1 with fail
 rw [← HW2.out]
 have HB := HB2
 have HSW := HS2
 have HH1 := HN1
 have HH2 := HN2
 clear HB2 HS2 HN1 HN2 HW2
 have p0 : W2.cell? ⟨w.heap.size, 0, none⟩ = some (.slice a n1 c) := rowcell HH1.out
 have q0 : W2.cell? ⟨w.heap.size + 1, 0, none⟩ = some (.slice a2 n2 c2) := rowcell HH2.out
 have p1 : W2.cell? ⟨w.heap.size, 1, none⟩ = some (.slice b n3 d) := rowcell HH1.out
 have q1 : W2.cell? ⟨w.heap.size + 1, 1, none⟩ = some (.slice b2 n4 d2) := rowcell HH2.out
 go_wp2_with fail
 refine (HL.out _ HSW.out).mono ?_
 rintro e w10 ⟨rfl, hb⟩
 have HB := Lib.hid (HB.out.trans (hb.mono HB.out.size))
 have HSW := Lib.hid (HSW.out.bel hb)
 have HH1 := Lib.hid ((hb.block _ (hlt HH1.out)).trans HH1.out)
 have HH2 := Lib.hid ((hb.block _ (hlt HH2.out)).trans HH2.out)
 clear hb p0 q0 p1 q1
 have p0 : w10.cell? ⟨w.heap.size, 0, none⟩ = some (.slice a n1 c) := rowcell HH1.out
 have q0 : w10.cell? ⟨w.heap.size + 1, 0, none⟩ = some (.slice a2 n2 c2) := rowcell HH2.out
 have p1 : w10.cell? ⟨w.heap.size, 1, none⟩ = some (.slice b n3 d) := rowcell HH1.out
 have q1 : w10.cell? ⟨w.heap.size + 1, 1, none⟩ = some (.slice b2 n4 d2) := rowcell HH2.out
 have EN : Hid (decide (sts = sts2) = false → decide (sts = sts2) = false) := Lib.hid (fun h => h)
 have EY : Hid (decide (sts = sts2) = true → sts = sts2) := Lib.hid of_decide_eq_true
 generalize hq : decide (sts = sts2) = q at *
 cases q with
 | false =>
  clear hq EY EN
  have EN := Lib.hid (Eq.refl false)
  go_wp2_with fail
  go_ret
  exact ⟨ret_false (by first | (rw [HR.out]; simp; done) | (simp [EN.out]; done)), HB.out⟩
 | true =>
  clear hq EY EN
  go_wp2_with fail
  refine (HT.out _ HSW.out).mono ?_
  rintro e w11 ⟨rfl, hb⟩
  have HB := Lib.hid (HB.out.trans (hb.mono HB.out.size))
  have HSW := Lib.hid (HSW.out.bel hb)
  have HH1 := Lib.hid ((hb.block _ (hlt HH1.out)).trans HH1.out)
  have HH2 := Lib.hid ((hb.block _ (hlt HH2.out)).trans HH2.out)
  clear hb p0 q0 p1 q1
  have p0 : w11.cell? ⟨w.heap.size, 0, none⟩ = some (.slice a n1 c) := rowcell HH1.out
  have q0 : w11.cell? ⟨w.heap.size + 1, 0, none⟩ = some (.slice a2 n2 c2) := rowcell HH2.out
  have p1 : w11.cell? ⟨w.heap.size, 1, none⟩ = some (.slice b n3 d) := rowcell HH1.out
  have q1 : w11.cell? ⟨w.heap.size + 1, 1, none⟩ = some (.slice b2 n4 d2) := rowcell HH2.out
  have EN : Hid (decide (tps = tps2) = false → decide (tps = tps2) = false) := Lib.hid (fun h => h)
  have EY : Hid (decide (tps = tps2) = true → tps = tps2) := Lib.hid of_decide_eq_true
  generalize hq : decide (tps = tps2) = q at *
  cases q with
  | false =>
   clear hq EY EN
   have EN := Lib.hid (Eq.refl false)
   go_wp2_with fail
   go_ret
   exact ⟨ret_false (by first | (rw [HR.out]; simp; done) | (simp [EN.out]; done)), HB.out⟩
  | true =>
   clear hq EY EN
   go_wp2_with fail
   go_ret
   exact ⟨ret_true (by first | (rw [HR.out]; simp; done) | (simp; done)), HB.out⟩
end Go.Proofs.YtdkkhmjlamkgdaaGreatDoor
namespace Go.Proofs.YtdkkhmjlamkgdaaGreatDoor
open Go.RowKit Mg Go.Shelf Go.Maps

theorem fill_k4 : Instr.fill (fun i => some (i * 1, 1)) ((Array.range (4 * 1)).map ((Value.int .i64 0).cells[· % (Value.int .i64 0).cells.size]!)) [(0, .int .i64 2), (1, .int .i64 8), (2, .int .i64 9), (3, .int .i64 10)] = some #[.int .i64 2, .int .i64 8, .int .i64 9, .int .i64 10] := by kernel_rfl
def kindE (e : FctE) (k : Int) : FctE := { e with f := { e.f with kind := k } }
theorem kindE_cells (e : FctE) (k : Int) : (kindE e k).cells = e.cells.setIfInBounds 2 (.int .i64 k) := by
 obtain ⟨⟨x0, x1, x2, x3, x4, x5, x6, x7, x8, x9, x10, ⟨y1, y2, y3, y4⟩, x12, x13, x14, x15, x16, x17, x18, x19⟩, ta, tc, ba, bc, aa, ac⟩ := e
 rfl
theorem kindE_ok {mem : Addr → Option Value} {e : FctE} {k : Int} (h : e.ok mem) (hk : okI k) : (kindE e k).ok mem := ⟨{ h.fok with i2 := hk }, h.parts⟩
theorem kinds_get (j : Nat) (hj : j < 4) : (#[.int .i64 2, .int .i64 8, .int .i64 9, .int .i64 10] : Array Value)[j]? = some (.int .i64 (kindsL[j]'hj)) := by
 match j, hj with
 | 0, _ => rfl
 | 1, _ => rfl
 | 2, _ => rfl
 | 3, _ => rfl
theorem kinds_ok (j : Nat) (hj : j < 4) : okI (kindsL[j]'hj) := by
 match j, hj with
 | 0, _ => exact okI_d rfl
 | 1, _ => exact okI_d rfl
 | 2, _ => exact okI_d rfl
 | 3, _ => exact okI_d rfl
structure SilI (w1 : World) (l0 : List Fct) (n : Nat) (a : Option Addr) (len c : Nat) (wr : World) : Prop where
 bel : Below w1.heap.size w1 wr
 row : ∃ AL : List FctE, len = AL.length ∧ EsM (fun p => wr.cell? p) (.slice a AL.length c) AL ∧ AL.length = n ∧ AL.length ≤ c ∧ Alt l0 (AL.map FctE.f) ∧ ∀ x ∈ AL, GoodA x.f
theorem insF_map (AL : List FctE) (k : Nat) (x : FctE) : (AL.take k ++ ([x] ++ AL.drop k)).map FctE.f = insF (AL.map FctE.f) k x.f := by
 unfold insF
 rw [List.map_append, List.map_append, List.map_take, List.map_drop]; rfl
set_option maxRecDepth 100000 in
set_option maxHeartbeats 8000000 in
theorem silent_any {mem : Addr → Option Value} {v v2 v3 : Value} {es ms : List FctE} {ps : List Int} (h : EsM mem v es) (h2 : EsM mem v2 ms) (h3 : IntsM mem v3 ps) (hps : ∀ x ∈ ps, okI x) (w : World) (hs : Sees mem w) :
  Calls Tryz.prog 12 #[v, v2, v3] w fun e w' => e = .returned (.bool true) ∧ Below w.heap.size w w' := by
 have c0 := Lib.hid (sane_any w)
 have HS := Lib.hid hs
 have HE := Lib.hid h
 obtain ⟨va, vc, vb, vo, rfl, _⟩ := h.open_
 obtain ⟨mb, mo, ⟨_, ma, mc, rfl, hmc, hmm, hma⟩, hmat⟩ := h2
 obtain ⟨pb, po, ⟨_, pa, pc, rfl, hpc, hpm, hpa⟩, hpat⟩ := h3
 have HMA := Lib.hid hma
 have HMT := Lib.hid hmat
 have HPA := Lib.hid hpa
 have HPT := Lib.hid hpat
 have HPS := Lib.hid hps
 have hml : ms.length ≤ 9223372036854775807 := by unfold maxLen at hmm; omega
 have hpl : ps.length ≤ 9223372036854775807 := by unfold maxLen at hpm; omega
 clear h hs hma hmat hpa hpat hps
 go_enter Tryz.func12, Tryz.ntmps12
 go_wp2_with fail
 refine c0.out.mono ?_
 rintro e w0 ⟨rfl, hb0⟩
 have HB0 := Lib.hid hb0
 have cS := Lib.hid (short_law HE.out w0 (HS.out.bel hb0))
 clear hb0 c0
 go_wp2_with fail
 refine cS.out.mono ?_
 rintro e w1 ⟨ra, rc, fs, rfl, hsh⟩
 have HSH := Lib.hid hsh
 have hlen := hsh.len
 have HB1 : Hid (Below w.heap.size w w1) := Lib.hid (HB0.out.trans (hsh.bel.mono HB0.out.size))
 have cF := Lib.hid (Fold_law hsh.es (by omega) (fun x hx _ => hsh.good x hx) w1 (Sees.self w1) (cells_lt w1))
 clear hsh cS
 go_wp2_with fail
 refine cF.out.mono ?_
 rintro e w2 ⟨a, c, b, d, s, rfl, hF⟩
 have HF := Lib.hid hF
 have HB2 : Hid (Below w1.heap.size w1 w2) := Lib.hid hF.bel
 clear hF cF
 go_upto_region 4 with ((with_reducible refine at_sstore 27 _ _ rfl ?_); go_must (refine wpList_snew rfl S_state _ _ rfl rfl _ _ #[.slice a s.stories.length c, .slice b s.tpls.length d] (by simp [Act.eval]) (by simp [Act.eval]) rfl rfl (by simp [Value.oneCell']) ?_))
 obtain ⟨W3, hW3⟩ : ∃ W3, W3 = w2.alloc (.cells #[.slice a s.stories.length c, .slice b s.tpls.length d] 27) := ⟨_, rfl⟩
 rw [← hW3]
 have hb3 : Below w2.heap.size w2 W3 := by rw [hW3]; exact bel1 _ _
 have HN3 : Hid (W3.heap[w2.heap.size]? = some (.cells #[.slice a s.stories.length c, .slice b s.tpls.length d] 27 (0, 0))) := Lib.hid (by rw [hW3]; exact World.alloc_heap_new _ _)
 have HS3 : Hid (Sees (memFr w2 (fun k => k < w1.heap.size + 1)) W3) := Lib.hid ((memFr_sees w2 _).bel hb3)
 have HB3 : Hid (Below w1.heap.size w1 W3) := Lib.hid (HB2.out.trans (hb3.mono HB2.out.size))
 clear hW3 hb3
 go_upto_region 5 with ((with_reducible refine at_sslice 46 _ _ rfl ?_); go_must (refine wpList_n_slice rfl E_int 4 (by decide) (by decide) _ rfl [(0, .int .i64 2), (1, .int .i64 8), (2, .int .i64 9), (3, .int .i64 10)] (by simp [Act.eval]) _ fill_k4 ?_))
 obtain ⟨W4, hW4⟩ : ∃ W4, W4 = W3.alloc (.cells #[.int .i64 2, .int .i64 8, .int .i64 9, .int .i64 10] 3) := ⟨_, rfl⟩
 rw [← hW4]
 have hb4 : Below W3.heap.size W3 W4 := by rw [hW4]; exact bel1 _ _
 have HK4 : Hid (W4.heap[W3.heap.size]? = some (.cells #[.int .i64 2, .int .i64 8, .int .i64 9, .int .i64 10] 3 (0, 0))) := Lib.hid (by rw [hW4]; exact World.alloc_heap_new _ _)
 have HN4 := Lib.hid ((hb4.block _ (hlt HN3.out)).trans HN3.out)
 have HS4 := Lib.hid (HS3.out.bel hb4)
 have HB4 : Hid (Below w1.heap.size w1 W4) := Lib.hid (HB3.out.trans (hb4.mono HB3.out.size))
 clear hW4 hb4
 have HI0 : Hid (SilI W4 (fs.map FctE.f) (fs.length + 0) ra fs.length rc W4) := Lib.hid ⟨Below.refl _ _, fs, rfl, HSH.out.es.keep HB4.out, rfl, by
  obtain ⟨_, _, ⟨_, _, _, e, h1, _⟩, _⟩ := HSH.out.es
  injection e with _ _ e
  omega, Alt.refl _, fun x hx _ => HSH.out.good x hx⟩
 go_wp2_with fail
 go_loopw [11, 10] (fun i v wr => ∃ k : Nat, k ≤ ms.length ∧ k ≤ 10 ∧ i = .int .i64 k ∧ ∃ a l q, v = .slice a l q ∧ Hid (SilI W4 (fs.map FctE.f) (fs.length + k) a l q wr)) (fun i _ _ => 10 - (intOf i).toNat)
 case atStart => exact ⟨0, Nat.zero_le _, by omega, rfl, _, _, _, rfl, HI0⟩
 case round =>
  obtain ⟨k, hk, hk10, rfl, aa, al, ac, rfl, HI⟩ := hrel
  obtain ⟨AL, hal, hes, hln, hac, halt, hgd⟩ := HI.out.row
  subst hal
  have HES := Lib.hid hes
  have HALT := Lib.hid halt
  have HGD := Lib.hid hgd
  have hal50 : AL.length ≤ 50 := by omega
  have HKw := Lib.hid ((HI.out.bel.block _ (hlt HK4.out)).trans HK4.out)
  have HLN0 := Lib.hid hln
  clear hes halt hgd hln
  by_cases hlt1 : k < ms.length
  ·by_cases hlt2 : k < 10
   ·obtain rfl := HMA.out (by omega)
    obtain ⟨hyo, hya⟩ := HMT.out k hlt1
    have HSW : Hid (Sees mem wr) := Lib.hid (HS.out.bel (HB1.out.trans ((HB4.out.trans (HI.out.bel.mono HB4.out.size)).mono HB1.out.size)))
    have HAT : Hid (ms[k].at (fun p => wr.cell? p) mb (mo + k * 23)) := Lib.hid (fun j u hj => HSW.out _ _ (hya j u hj))
    have HYO := Lib.hid (hyo.mono HSW.out)
    have HSZ : Hid (ms[k].cells.size = 23) := Lib.hid rfl
    have HON := Lib.hid ms[k].one
    clear hyo hya
    generalize ms[k] = y at *
    go_upto_region 10 with (first
     | ((with_reducible refine at_fload _ rfl ?_); go_must (refine wpList_fct_mid rfl _ rfl (by simp [Act.eval]) HAT.out ?_))
     | ((with_reducible refine at_fstore _ _ rfl ?_); go_must (refine wpList_fct_new rfl _ _ rfl rfl _ _ _ (by simp [Act.eval]) (by simp [Act.eval]) (by rfl) HSZ.out HON.out ?_)))
    obtain ⟨W5, hW5⟩ : ∃ W5, W5 = wr.alloc (.cells y.cells 50) := ⟨_, rfl⟩
    rw [← hW5]
    have hb5 : Below wr.heap.size wr W5 := by rw [hW5]; exact bel1 _ _
    have HX5 : Hid (W5.heap[wr.heap.size]? = some (.cells y.cells 50 (0, 0))) := Lib.hid (by rw [hW5]; exact World.alloc_heap_new _ _)
    have HK5 := Lib.hid ((hb5.block _ (hlt HKw.out)).trans HKw.out)
    have HB5 := Lib.hid hb5
    clear hW5 hb5
    have y2 : W5.cell? ⟨wr.heap.size, 2, none⟩ = some (.int .i64 y.f.kind) := rowcell HX5.out
    have z2 : W5.frozen? ⟨wr.heap.size, 2, none⟩ = false := rowfree HX5.out
    obtain ⟨p0, p1⟩ := pickF_lt (c := y.f.kind) (n := 4) (by omega)
    have c1 := Lib.hid (fun W => pick_any y.f.kind 4 HYO.out.fok.i2 (by omega) (by omega) W)
    obtain ⟨j, hj⟩ : ∃ j : Nat, pickF y.f.kind 4 = (j : Int) := ⟨(pickF y.f.kind 4).toNat, by omega⟩
    rw [hj] at c1
    have hj4 : j < 4 := by omega
    clear hj p0 p1
    go_wp2_with fail
    refine (c1.out _).mono ?_
    rintro e w5' ⟨rfl, rfl⟩
    have kk : W5.cell? ⟨W3.heap.size, j, none⟩ = some (.int .i64 (kindsL[j]'hj4)) := (rowcell HK5.out).trans (kinds_get j hj4)
    have HSL : Hid (silentF (kindE y (kindsL[j]'hj4)).f = true ∧ okI (kindsL[j]'hj4)) := Lib.hid ⟨kinds_silent _ j hj4 rfl, kinds_ok j hj4⟩
    generalize (kindsL[j]'hj4) = kd at *
    go_upto_region 12 with fail
    obtain ⟨W6, hW6⟩ : ∃ W6, W6 = W5.setCell ⟨wr.heap.size, 2, none⟩ (.int .i64 kd) := ⟨_, rfl⟩
    rw [← hW6]
    have HX6 : Hid (W6.heap[wr.heap.size]? = some (.cells (kindE y kd).cells 50 (0, 0))) := Lib.hid (by rw [hW6, kindE_cells]; exact blk_set HX5.out)
    have HB6 : Hid (Below wr.heap.size wr W6) := Lib.hid (by rw [hW6]; exact HB5.out.setCell (Nat.le_refl _) _)
    have HES6 := Lib.hid (HES.out.keep HB6.out)
    clear hW6 y2 z2 kk c1
    by_cases hkp : k < ps.length
    ·obtain rfl := HPA.out (by omega)
     have hpk : W6.cell? ⟨pb, po + k, none⟩ = some (.int .i64 ps[k]) := HSW.out.bel HB6.out _ _ (HPT.out k hkp)
     have hpo := HPS.out ps[k] (List.getElem_mem hkp)
     generalize ps[k] = pk at *
     obtain ⟨p0, p1⟩ := pickF_lt (c := pk) (n := ((AL.length : Nat) : Int) + 1) (by omega)
     have c1 := Lib.hid (fun W => pick_any pk (((AL.length : Nat) : Int) + 1) hpo (by omega) (by omega) W)
     obtain ⟨q, hq0⟩ : ∃ q : Nat, pickF pk (((AL.length : Nat) : Int) + 1) = (q : Int) := ⟨(pickF pk (((AL.length : Nat) : Int) + 1)).toNat, by omega⟩
     rw [hq0] at c1
     have hq : q ≤ AL.length := by omega
     clear hq0 p0 p1
     go_wp2_with fail
     refine (c1.out _).mono ?_
     rintro e w6' ⟨rfl, rfl⟩
     clear c1
     go_upto_region 14 with fail
     have hfrom := fun W => run_facts_from aa AL.length ac q hq W
     have hupto := fun W => run_facts_upto aa AL.length ac q (by omega) W
     have hupto2 : ∀ W, (Instr.slice 22 (.slice aa AL.length ac) none (some (.int .i64 (q : Int))) none).run Tryz.prog W = .ok (.slice aa q ac) W := hupto
     clear hupto
     obtain ⟨da, hda⟩ : ∃ da, da = restAt aa ac q := ⟨_, rfl⟩
     obtain ⟨dc, hdc⟩ : ∃ dc, dc = ac - q := ⟨_, rfl⟩
     have hdl : (AL.drop q).length = AL.length - q := List.length_drop
     have htl : (AL.take q).length = q := by rw [List.length_take]; omega
     have HDR : Hid (EsM (fun p => W6.cell? p) (.slice da (AL.drop q).length dc) (AL.drop q)) := Lib.hid (by rw [hda, hdc]; exact HES6.out.drop q hq)
     have HTR : Hid (EsM (fun p => W6.cell? p) (.slice aa (AL.take q).length ac) (AL.take q)) := Lib.hid (by rw [htl]; exact HES6.out.take q hq)
     rw [← hda, ← hdc, ← hdl] at hfrom
     have hupto3 : ∀ W, (Instr.slice 22 (.slice aa AL.length ac) none (some (.int .i64 (q : Int))) none).run Tryz.prog W = .ok (.slice aa (AL.take q).length ac) W := fun W => by rw [htl]; exact hupto2 W
     clear hupto2
     have hdl50 : (AL.drop q).length ≤ 50 := by omega
     have htl50 : (AL.take q).length ≤ 50 := by omega
     have HMAP : Hid ((AL.take q ++ ([kindE y kd] ++ AL.drop q)).map FctE.f = insF (AL.map FctE.f) q (kindE y kd).f) := Lib.hid (insF_map _ _ _)
     have HIN : Hid (∀ x ∈ AL.take q ++ ([kindE y kd] ++ AL.drop q), x ∈ AL ∨ x = kindE y kd) := Lib.hid (fun x hx => by
      rcases List.mem_append.1 hx with hx | hx
      ·exact .inl (List.mem_of_mem_take hx)
      ·rcases List.mem_append.1 hx with hx | hx
       ·exact .inr (List.mem_singleton.1 hx)
       ·exact .inl (List.mem_of_mem_drop hx))
     have HLN : Hid ((AL.take q ++ ([kindE y kd] ++ AL.drop q)).length = AL.length + 1) := Lib.hid (by rw [List.length_append, List.length_append, hdl, htl]; show _ + (1 + _) = _; omega)
     clear hda hdc hdl htl
     generalize AL.drop q = DL at *
     generalize AL.take q = TL at *
     have HM0 : Hid (W6.drew.heap[wr.heap.size]? = some (.cells (kindE y kd).cells 50 (0, 0))) := Lib.hid HX6.out
     refine wp_sch (.take 0 (.take 2 (.take 3 (.take 4 (.only 1 (.only 5 (.only 6 .done))))))) 1000 (fun W2 => W2.heap[wr.heap.size]? = some (.cells (kindE y kd).cells 50 (0, 0))) (by kernel_rfl) (by kernel_rfl) HM0.out ?_
     obtain ⟨Wd, hWd⟩ : ∃ Wd, Wd = W6.drew := ⟨_, rfl⟩
     have HBD : Hid (Below wr.heap.size wr Wd) := Lib.hid (by rw [hWd]; exact HB6.out.drew)
     have HDD : Hid (EsM (fun p => Wd.cell? p) (.slice da DL.length dc) DL) := Lib.hid (by rw [hWd]; exact HDR.out)
     have HTD : Hid (EsM (fun p => Wd.cell? p) (.slice aa TL.length ac) TL) := Lib.hid (by rw [hWd]; exact HTR.out)
     have HSD : Hid (EsM (fun p => Wd.cell? p) (.slice aa AL.length ac) AL) := Lib.hid (by rw [hWd]; exact HES6.out)
     have HM := HM0
     rw [← hWd] at HM ⊢
     clear hWd HM0 HDR HTR
     refine wpSch_take rfl (.agg (kindE y kd).cells) (fun _ _ _ _ h => h) HM.out (by rfl) (fun W2 hW => by exact exec_fct_load _ rfl (by simp [Act.eval]) hW (FctE.size _)) ?_
     simp only [Act.put, List.setIfInBounds_toArray, List.set_cons_zero, List.set_cons_succ]
     refine wpSch_take rfl (.slice aa AL.length ac) (fun _ _ _ _ h => h) HM.out (by rfl) (fun W2 hW => by go_simp) ?_
     simp only [Act.put, List.setIfInBounds_toArray, List.set_cons_zero, List.set_cons_succ]
     refine wpSch_take rfl (.int .i64 (q : Int)) (fun _ _ _ _ h => h) HM.out (by rfl) (fun W2 hW => by go_simp) ?_
     simp only [Act.put, List.setIfInBounds_toArray, List.set_cons_zero, List.set_cons_succ]
     refine wpSch_take rfl (.slice da DL.length dc) (fun _ _ _ _ h => h) HM.out (by rfl) (fun W2 hW => by go_simp) ?_
     simp only [Act.put, List.setIfInBounds_toArray, List.set_cons_zero, List.set_cons_succ]
     clear hfrom
     refine wpSch_only rfl (fun K hK => ?_)
     rw [if_pos (by rfl)]
     refine wp_fct_slice _ rfl (kindE y kd) (by simp [Act.eval]) ?_
     have HM7 : Hid ((Wd.alloc (.cells (kindE y kd).cells 50)).heap[wr.heap.size]? = some (.cells (kindE y kd).cells 50 (0, 0))) := Lib.hid (((bel1 Wd _).block _ (Go.Proofs.YtdkkhmjlamkgdaaGreatDoor.hlt HM.out)).trans HM.out)
     refine hK _ _ HM7.out ?_
     clear hK K
     simp only [Act.put, List.setIfInBounds_toArray, List.set_cons_zero, List.set_cons_succ]
     refine wpSch_only rfl (fun K hK => ?_)
     rw [if_pos (by rfl)]
     refine wp_app_facts _ _ rfl Wd.heap.size _ [kindE y kd] (by simp [Act.eval] <;> rfl) (frow_one (Nat.le_refl _) (World.alloc_heap_new _ _)) da dc DL (by simp [Act.eval]) (HDD.out.keep (bel1 _ _)) (by show 1 + _ ≤ 100000; omega) (by simp) ?_
     intro v8 w8 hr8 hg8 _
     have hb8 : Below Wd.heap.size Wd w8 := (bel1 Wd _).grown hg8 (by simp) (fun j hj => Nat.le_of_eq (Option.some.inj hj))
     obtain ⟨a8, c8, hv8⟩ := hr8.shape
     subst hv8
     have HR8 := Lib.hid hr8
     have HB8 := Lib.hid hb8
     have HM8 : Hid (w8.heap[wr.heap.size]? = some (.cells (kindE y kd).cells 50 (0, 0))) := Lib.hid ((hb8.block _ (Go.Proofs.YtdkkhmjlamkgdaaGreatDoor.hlt HM.out)).trans HM.out)
     clear hr8 hg8 hb8
     refine hK _ _ HM8.out ?_
     clear hK K
     simp only [Act.put, List.setIfInBounds_toArray, List.set_cons_zero, List.set_cons_succ]
     refine wpSch_only rfl (fun K hK => ?_)
     go_simp
     refine hK _ _ HM8.out ?_
     clear hK K
     refine wpSch_done ?_
     have HO8 : Hid (∀ W, Below wr.heap.size wr W → ∀ x, x ∈ AL ∨ x = kindE y kd → x.ok (fun p => W.cell? p)) := Lib.hid (fun W hW x hx => by
      rcases hx with hx | rfl
      ·obtain ⟨_, _, _, h4⟩ := HES.out
       obtain ⟨j, hj, rfl⟩ := List.getElem_of_mem hx
       exact (h4 j hj).1.mono (sees_bel hW)
      ·exact (kindE_ok HYO.out HSL.out.2).mono (sees_bel hW))
     have HBW8 : Hid (Below wr.heap.size wr w8) := Lib.hid (HBD.out.trans (HB8.out.mono HBD.out.size))
     generalize hRL : [kindE y kd] ++ DL = RL at *
     have hrl51 : RL.length ≤ 51 := by rw [← hRL, List.length_append]; show 1 + _ ≤ 51; omega
     have hrl : RL.length = DL.length + 1 := by rw [← hRL, List.length_append]; show 1 + _ = _; omega
     have HRW : Hid (∀ x ∈ RL, x ∈ AL ∨ x = kindE y kd) := Lib.hid (fun x hx => HIN.out x (List.mem_append_right _ hx))
     have HTW : Hid (∀ x ∈ TL, x ∈ AL ∨ x = kindE y kd) := Lib.hid (fun x hx => HIN.out x (List.mem_append_left _ hx))
     have HT8 := Lib.hid ((HTD.out.keep HB8.out))
     have h8s : w8.heap.size ≤ (w8.alloc (.cells #[] 50)).heap.size := by simp
     clear hRL
     go_upto_region 15 with fail
     have tk1 : True := trivial
     go_wp2_with (first
      | ((with_reducible refine at_sslice 22 _ _ rfl ?_); go_must (refine wpList_empty_slice rfl E_fct _ rfl rfl ?_))
      | (clear tk1; (with_reducible refine at_sappend _ _ 22 rfl ?_); go_must (refine wpList_app_facts rfl _ _ rfl w8.heap.size _ [] (by simp [Act.eval] <;> rfl) (frow_empty (Nat.le_refl _) (World.alloc_heap_new _ _)) aa ac TL (by simp [Act.eval]) (HT8.out.keep (bel1 _ _)) (by show 0 + _ ≤ 100000; omega) (by simp) ?_); go_must (intro v9 w9 hr9 hg9 _; have hb9 : Below w8.heap.size w8 w9 := (bel1 w8 _).grown hg9 h8s (fun j hj => Nat.le_of_eq (Option.some.inj hj)); rw [List.nil_append] at hr9; obtain ⟨a9, c9, hv9⟩ := hr9.shape; subst hv9; have HR9 := Lib.hid hr9; have HB9 := Lib.hid hb9; clear hr9 hg9 hb9))
      | ((with_reducible refine at_sappend _ _ 22 rfl ?_); go_must (refine wpList_app_facts rfl _ _ rfl w8.heap.size _ TL (by simp [Act.eval]) HR9.out a8 c8 RL (by simp [Act.eval, hrl]) ((HR8.out.es (fun x hx => HO8.out w8 HBW8.out x (HRW.out x hx))).keep HB9.out) (by omega) HB9.out.size ?_); go_must (intro v10 w10 hr10 hg10 _; have HB10 : Hid (Below w8.heap.size w8 w10) := Lib.hid (HB9.out.grown hg10 HB9.out.size (fun j hj => (HR9.out.ge j hj).1)); obtain ⟨a10, c10, hv10⟩ := hr10.shape; subst hv10; have HR10 := Lib.hid hr10; clear hr10 hg10)))
     have HI10 : Hid (SilI W4 (fs.map FctE.f) (fs.length + (k + 1)) a10 (TL ++ RL).length c10 w10) := Lib.hid ⟨HI.out.bel.trans ((HBW8.out.trans (HB10.out.mono HBW8.out.size)).mono HI.out.bel.size), TL ++ RL, rfl, HR10.out.es (fun x hx => HO8.out w10 (HBW8.out.trans (HB10.out.mono HBW8.out.size)) x (HIN.out x hx)), by
      have h1 := HLN.out
      have h2 := HLN0.out
      omega, by
      obtain ⟨_, _, ⟨_, _, _, e, h1, _⟩, _⟩ := HR10.out.es (fun x hx => HO8.out w10 (HBW8.out.trans (HB10.out.mono HBW8.out.size)) x (HIN.out x hx))
      injection e with _ _ e
      omega, by rw [HMAP.out]; exact HALT.out.ins HSL.out.1 _, fun x hx => by
      rcases HIN.out x hx with h | rfl
      ·exact HGD.out x h
      ·exact silent_good HSL.out.1⟩
     go_roundw
     case rel => exact ⟨k + 1, by omega, by omega, by go_num, a10, _, c10, rfl, by first | exact HI10 | (rw [List.length_append, hrl] at HI10; exact HI10) | (rw [List.length_append] at HI10; exact HI10)⟩
     case measure => (try simp only [intOf]); omega
    ·have hkp2 : ¬ ((k : Int) < (ps.length : Int)) := by omega
     have hq : 0 ≤ AL.length := Nat.zero_le _
     go_upto_region 14 with fail
     clear hkp2
     have hfrom := fun W => run_facts_from aa AL.length ac 0 hq W
     have hupto := fun W => run_facts_upto aa AL.length ac 0 (by omega) W
     have hupto2 : ∀ W, (Instr.slice 22 (.slice aa AL.length ac) none (some (.int .i64 0)) none).run Tryz.prog W = .ok (.slice aa 0 ac) W := hupto
     clear hupto
     rw [show (((0 : Nat)) : Int) = 0 from rfl] at hfrom
     obtain ⟨da, hda⟩ : ∃ da, da = restAt aa ac 0 := ⟨_, rfl⟩
     obtain ⟨dc, hdc⟩ : ∃ dc, dc = ac - 0 := ⟨_, rfl⟩
     have hdl : (AL.drop 0).length = AL.length - 0 := List.length_drop
     have htl : (AL.take 0).length = 0 := by rw [List.length_take]; omega
     have HDR : Hid (EsM (fun p => W6.cell? p) (.slice da (AL.drop 0).length dc) (AL.drop 0)) := Lib.hid (by rw [hda, hdc]; exact HES6.out.drop 0 hq)
     have HTR : Hid (EsM (fun p => W6.cell? p) (.slice aa (AL.take 0).length ac) (AL.take 0)) := Lib.hid (by rw [htl]; exact HES6.out.take 0 hq)
     rw [← hda, ← hdc, ← hdl] at hfrom
     have hupto3 : ∀ W, (Instr.slice 22 (.slice aa AL.length ac) none (some (.int .i64 0)) none).run Tryz.prog W = .ok (.slice aa (AL.take 0).length ac) W := fun W => by rw [htl]; exact hupto2 W
     clear hupto2
     have hdl50 : (AL.drop 0).length ≤ 50 := by omega
     have htl50 : (AL.take 0).length ≤ 50 := by omega
     have HMAP : Hid ((AL.take 0 ++ ([kindE y kd] ++ AL.drop 0)).map FctE.f = insF (AL.map FctE.f) 0 (kindE y kd).f) := Lib.hid (insF_map _ _ _)
     have HIN : Hid (∀ x ∈ AL.take 0 ++ ([kindE y kd] ++ AL.drop 0), x ∈ AL ∨ x = kindE y kd) := Lib.hid (fun x hx => by
      rcases List.mem_append.1 hx with hx | hx
      ·exact .inl (List.mem_of_mem_take hx)
      ·rcases List.mem_append.1 hx with hx | hx
       ·exact .inr (List.mem_singleton.1 hx)
       ·exact .inl (List.mem_of_mem_drop hx))
     have HLN : Hid ((AL.take 0 ++ ([kindE y kd] ++ AL.drop 0)).length = AL.length + 1) := Lib.hid (by rw [List.length_append, List.length_append, hdl, htl]; show _ + (1 + _) = _; omega)
     clear hda hdc hdl htl
     generalize AL.drop 0 = DL at *
     generalize AL.take 0 = TL at *
     have HM0 : Hid (W6.drew.heap[wr.heap.size]? = some (.cells (kindE y kd).cells 50 (0, 0))) := Lib.hid HX6.out
     refine wp_sch (.take 0 (.take 2 (.take 3 (.take 4 (.only 1 (.only 5 (.only 6 .done))))))) 1000 (fun W2 => W2.heap[wr.heap.size]? = some (.cells (kindE y kd).cells 50 (0, 0))) (by kernel_rfl) (by kernel_rfl) HM0.out ?_
     obtain ⟨Wd, hWd⟩ : ∃ Wd, Wd = W6.drew := ⟨_, rfl⟩
     have HBD : Hid (Below wr.heap.size wr Wd) := Lib.hid (by rw [hWd]; exact HB6.out.drew)
     have HDD : Hid (EsM (fun p => Wd.cell? p) (.slice da DL.length dc) DL) := Lib.hid (by rw [hWd]; exact HDR.out)
     have HTD : Hid (EsM (fun p => Wd.cell? p) (.slice aa TL.length ac) TL) := Lib.hid (by rw [hWd]; exact HTR.out)
     have HSD : Hid (EsM (fun p => Wd.cell? p) (.slice aa AL.length ac) AL) := Lib.hid (by rw [hWd]; exact HES6.out)
     have HM := HM0
     rw [← hWd] at HM ⊢
     clear hWd HM0 HDR HTR
     refine wpSch_take rfl (.agg (kindE y kd).cells) (fun _ _ _ _ h => h) HM.out (by rfl) (fun W2 hW => by exact exec_fct_load _ rfl (by simp [Act.eval]) hW (FctE.size _)) ?_
     simp only [Act.put, List.setIfInBounds_toArray, List.set_cons_zero, List.set_cons_succ]
     refine wpSch_take rfl (.slice aa AL.length ac) (fun _ _ _ _ h => h) HM.out (by rfl) (fun W2 hW => by go_simp) ?_
     simp only [Act.put, List.setIfInBounds_toArray, List.set_cons_zero, List.set_cons_succ]
     refine wpSch_take rfl (.int .i64 0) (fun _ _ _ _ h => h) HM.out (by rfl) (fun W2 hW => by go_simp) ?_
     simp only [Act.put, List.setIfInBounds_toArray, List.set_cons_zero, List.set_cons_succ]
     refine wpSch_take rfl (.slice da DL.length dc) (fun _ _ _ _ h => h) HM.out (by rfl) (fun W2 hW => by go_simp) ?_
     simp only [Act.put, List.setIfInBounds_toArray, List.set_cons_zero, List.set_cons_succ]
     clear hfrom
     refine wpSch_only rfl (fun K hK => ?_)
     rw [if_pos (by rfl)]
     refine wp_fct_slice _ rfl (kindE y kd) (by simp [Act.eval]) ?_
     have HM7 : Hid ((Wd.alloc (.cells (kindE y kd).cells 50)).heap[wr.heap.size]? = some (.cells (kindE y kd).cells 50 (0, 0))) := Lib.hid (((bel1 Wd _).block _ (Go.Proofs.YtdkkhmjlamkgdaaGreatDoor.hlt HM.out)).trans HM.out)
     refine hK _ _ HM7.out ?_
     clear hK K
     simp only [Act.put, List.setIfInBounds_toArray, List.set_cons_zero, List.set_cons_succ]
     refine wpSch_only rfl (fun K hK => ?_)
     rw [if_pos (by rfl)]
     refine wp_app_facts _ _ rfl Wd.heap.size _ [kindE y kd] (by simp [Act.eval] <;> rfl) (frow_one (Nat.le_refl _) (World.alloc_heap_new _ _)) da dc DL (by simp [Act.eval]) (HDD.out.keep (bel1 _ _)) (by show 1 + _ ≤ 100000; omega) (by simp) ?_
     intro v8 w8 hr8 hg8 _
     have hb8 : Below Wd.heap.size Wd w8 := (bel1 Wd _).grown hg8 (by simp) (fun j hj => Nat.le_of_eq (Option.some.inj hj))
     obtain ⟨a8, c8, hv8⟩ := hr8.shape
     subst hv8
     have HR8 := Lib.hid hr8
     have HB8 := Lib.hid hb8
     have HM8 : Hid (w8.heap[wr.heap.size]? = some (.cells (kindE y kd).cells 50 (0, 0))) := Lib.hid ((hb8.block _ (Go.Proofs.YtdkkhmjlamkgdaaGreatDoor.hlt HM.out)).trans HM.out)
     clear hr8 hg8 hb8
     refine hK _ _ HM8.out ?_
     clear hK K
     simp only [Act.put, List.setIfInBounds_toArray, List.set_cons_zero, List.set_cons_succ]
     refine wpSch_only rfl (fun K hK => ?_)
     go_simp
     refine hK _ _ HM8.out ?_
     clear hK K
     refine wpSch_done ?_
     have HO8 : Hid (∀ W, Below wr.heap.size wr W → ∀ x, x ∈ AL ∨ x = kindE y kd → x.ok (fun p => W.cell? p)) := Lib.hid (fun W hW x hx => by
      rcases hx with hx | rfl
      ·obtain ⟨_, _, _, h4⟩ := HES.out
       obtain ⟨j, hj, rfl⟩ := List.getElem_of_mem hx
       exact (h4 j hj).1.mono (sees_bel hW)
      ·exact (kindE_ok HYO.out HSL.out.2).mono (sees_bel hW))
     have HBW8 : Hid (Below wr.heap.size wr w8) := Lib.hid (HBD.out.trans (HB8.out.mono HBD.out.size))
     generalize hRL : [kindE y kd] ++ DL = RL at *
     have hrl51 : RL.length ≤ 51 := by rw [← hRL, List.length_append]; show 1 + _ ≤ 51; omega
     have hrl : RL.length = DL.length + 1 := by rw [← hRL, List.length_append]; show 1 + _ = _; omega
     have HRW : Hid (∀ x ∈ RL, x ∈ AL ∨ x = kindE y kd) := Lib.hid (fun x hx => HIN.out x (List.mem_append_right _ hx))
     have HTW : Hid (∀ x ∈ TL, x ∈ AL ∨ x = kindE y kd) := Lib.hid (fun x hx => HIN.out x (List.mem_append_left _ hx))
     have HT8 := Lib.hid ((HTD.out.keep HB8.out))
     have h8s : w8.heap.size ≤ (w8.alloc (.cells #[] 50)).heap.size := by simp
     clear hRL
     go_upto_region 15 with fail
     have tk1 : True := trivial
     go_wp2_with (first
      | ((with_reducible refine at_sslice 22 _ _ rfl ?_); go_must (refine wpList_empty_slice rfl E_fct _ rfl rfl ?_))
      | (clear tk1; (with_reducible refine at_sappend _ _ 22 rfl ?_); go_must (refine wpList_app_facts rfl _ _ rfl w8.heap.size _ [] (by simp [Act.eval] <;> rfl) (frow_empty (Nat.le_refl _) (World.alloc_heap_new _ _)) aa ac TL (by simp [Act.eval]) (HT8.out.keep (bel1 _ _)) (by show 0 + _ ≤ 100000; omega) (by simp) ?_); go_must (intro v9 w9 hr9 hg9 _; have hb9 : Below w8.heap.size w8 w9 := (bel1 w8 _).grown hg9 h8s (fun j hj => Nat.le_of_eq (Option.some.inj hj)); rw [List.nil_append] at hr9; obtain ⟨a9, c9, hv9⟩ := hr9.shape; subst hv9; have HR9 := Lib.hid hr9; have HB9 := Lib.hid hb9; clear hr9 hg9 hb9))
      | ((with_reducible refine at_sappend _ _ 22 rfl ?_); go_must (refine wpList_app_facts rfl _ _ rfl w8.heap.size _ TL (by simp [Act.eval]) HR9.out a8 c8 RL (by simp [Act.eval, hrl]) ((HR8.out.es (fun x hx => HO8.out w8 HBW8.out x (HRW.out x hx))).keep HB9.out) (by omega) HB9.out.size ?_); go_must (intro v10 w10 hr10 hg10 _; have HB10 : Hid (Below w8.heap.size w8 w10) := Lib.hid (HB9.out.grown hg10 HB9.out.size (fun j hj => (HR9.out.ge j hj).1)); obtain ⟨a10, c10, hv10⟩ := hr10.shape; subst hv10; have HR10 := Lib.hid hr10; clear hr10 hg10)))
     have HI10 : Hid (SilI W4 (fs.map FctE.f) (fs.length + (k + 1)) a10 (TL ++ RL).length c10 w10) := Lib.hid ⟨HI.out.bel.trans ((HBW8.out.trans (HB10.out.mono HBW8.out.size)).mono HI.out.bel.size), TL ++ RL, rfl, HR10.out.es (fun x hx => HO8.out w10 (HBW8.out.trans (HB10.out.mono HBW8.out.size)) x (HIN.out x hx)), by
      have h1 := HLN.out
      have h2 := HLN0.out
      omega, by
      obtain ⟨_, _, ⟨_, _, _, e, h1, _⟩, _⟩ := HR10.out.es (fun x hx => HO8.out w10 (HBW8.out.trans (HB10.out.mono HBW8.out.size)) x (HIN.out x hx))
      injection e with _ _ e
      omega, by rw [HMAP.out]; exact HALT.out.ins HSL.out.1 _, fun x hx => by
      rcases HIN.out x hx with h | rfl
      ·exact HGD.out x h
      ·exact silent_good HSL.out.1⟩
     go_roundw
     case rel => exact ⟨k + 1, by omega, by omega, by go_num, a10, _, c10, rfl, by first | exact HI10 | (rw [List.length_append, hrl] at HI10; exact HI10) | (rw [List.length_append] at HI10; exact HI10)⟩
     case measure => (try simp only [intOf]); omega
   ·have hxA : ¬ ((k : Int) < 10) := by omega
    have HNw := Lib.hid ((HI.out.bel.block _ (hlt HN4.out)).trans HN4.out)
    have HSw := Lib.hid (HS4.out.bel HI.out.bel)
    have HBw : Hid (Below w1.heap.size w1 wr) := Lib.hid (HB4.out.trans (HI.out.bel.mono HB4.out.size))
    go_upto_region 16 with fail
    have HM0 : Hid (wr.drew.heap[w2.heap.size]? = some (.cells #[.slice a s.stories.length c, .slice b s.tpls.length d] 27 (0, 0))) := Lib.hid HNw.out
    refine wp_sch (.take 0 (.take 1 (.take 2 (.take 3 (.only 4 (.only 5 (.only 6 (.only 7 .done)))))))) 1000 (fun W2 => W2.heap[w2.heap.size]? = some (.cells #[.slice a s.stories.length c, .slice b s.tpls.length d] 27 (0, 0))) (by kernel_rfl) (by kernel_rfl) HM0.out ?_
    obtain ⟨Wd, hWd⟩ : ∃ Wd, Wd = wr.drew := ⟨_, rfl⟩
    have HBD : Hid (Below w1.heap.size w1 Wd) := Lib.hid (by rw [hWd]; exact HBw.out.drew)
    have HSD : Hid (Sees (memFr w2 (fun k => k < w1.heap.size + 1)) Wd) := Lib.hid (by rw [hWd]; exact HSw.out.drew)
    have HED : Hid (EsM (fun p => Wd.cell? p) (.slice aa AL.length ac) AL) := Lib.hid (by rw [hWd]; exact HES.out)
    have HM := HM0
    rw [← hWd] at HM ⊢
    clear hWd HM0
    have cF := Lib.hid (Fold_law HED.out (by omega) HGD.out Wd (Sees.self Wd) (cells_lt Wd))
    refine wpSch_take rfl (.bool true) (fun _ _ _ _ h => h) HM.out (by rfl) (fun W2 hW => by go_simp) ?_
    simp only [Act.put, List.setIfInBounds_toArray, List.set_cons_zero, List.set_cons_succ]
    refine wpSch_take rfl (.bool true) (fun _ _ _ _ h => h) HM.out (by rfl) (fun W2 hW => by go_simp) ?_
    simp only [Act.put, List.setIfInBounds_toArray, List.set_cons_zero, List.set_cons_succ]
    refine wpSch_take rfl (.agg #[.slice a s.stories.length c, .slice b s.tpls.length d]) (fun _ _ _ _ h => h) HM.out (by rfl) (fun W2 hW => by exact exec_smid S_state _ rfl (by simp [Act.eval]) _ rfl (whole_cells hW)) ?_
    simp only [Act.put, List.setIfInBounds_toArray, List.set_cons_zero, List.set_cons_succ]
    refine wpSch_take rfl (.slice aa AL.length ac) (fun _ _ _ _ h => h) HM.out (by rfl) (fun W2 hW => by go_simp) ?_
    simp only [Act.put, List.setIfInBounds_toArray, List.set_cons_zero, List.set_cons_succ]
    refine wpSch_only rfl (fun K hK => ?_)
    go_simp
    refine cF.out.mono ?_
    rintro e w7 ⟨a7, c7, b7, d7, s2, rfl, hF2⟩
    dsimp only
    have hss : s2 = s := HALT.out.state HF.out.is hF2.is
    have HS7 : Hid (Sees (memFr w2 (fun k => k < w1.heap.size + 1)) w7) := Lib.hid (HSD.out.bel hF2.bel)
    have HB7 : Hid (Below w1.heap.size w1 w7) := Lib.hid (HBD.out.trans (hF2.bel.mono HBD.out.size))
    have HM7 := Lib.hid ((hF2.bel.block _ (hlt HM.out)).trans HM.out)
    have cE := Lib.hid (same_law (mem := fun p => w7.cell? p) (HF.out.st.mono HS7.out) (hF2.st.mono (memFr_sees w7 _)) w7 (Sees.self w7))
    rw [decide_eq_true hss.symm] at cE
    clear hF2 hss cF
    refine hK _ _ HM7.out ?_
    clear hK K
    refine wpSch_only rfl (fun K hK => ?_)
    go_simp
    refine cE.out.mono ?_
    rintro e w8 ⟨rfl, hb8⟩
    dsimp only
    have HFN : Hid (Below w.heap.size w w8) := Lib.hid (HB1.out.trans ((HB7.out.trans (hb8.mono HB7.out.size)).mono HB1.out.size))
    have HM8 := Lib.hid ((hb8.block _ (hlt HM7.out)).trans HM7.out)
    clear hb8 cE
    refine hK _ _ HM8.out ?_
    clear hK K
    refine wpSch_only rfl (fun K hK => ?_)
    go_simp
    refine hK _ _ HM8.out ?_
    clear hK K
    refine wpSch_only rfl (fun K hK => ?_)
    go_simp
    refine hK _ _ HM8.out ?_
    clear hK K
    refine wpSch_done ?_
    go_wp2_with fail
    go_ret
    exact ⟨rfl, HFN.out⟩
  ·have hxA : ¬ ((k : Int) < (ms.length : Int)) := by omega
   have HNw := Lib.hid ((HI.out.bel.block _ (hlt HN4.out)).trans HN4.out)
   have HSw := Lib.hid (HS4.out.bel HI.out.bel)
   have HBw : Hid (Below w1.heap.size w1 wr) := Lib.hid (HB4.out.trans (HI.out.bel.mono HB4.out.size))
   go_upto_region 16 with fail
   have HM0 : Hid (wr.drew.heap[w2.heap.size]? = some (.cells #[.slice a s.stories.length c, .slice b s.tpls.length d] 27 (0, 0))) := Lib.hid HNw.out
   refine wp_sch (.take 0 (.take 1 (.take 2 (.take 3 (.only 4 (.only 5 (.only 6 (.only 7 .done)))))))) 1000 (fun W2 => W2.heap[w2.heap.size]? = some (.cells #[.slice a s.stories.length c, .slice b s.tpls.length d] 27 (0, 0))) (by kernel_rfl) (by kernel_rfl) HM0.out ?_
   obtain ⟨Wd, hWd⟩ : ∃ Wd, Wd = wr.drew := ⟨_, rfl⟩
   have HBD : Hid (Below w1.heap.size w1 Wd) := Lib.hid (by rw [hWd]; exact HBw.out.drew)
   have HSD : Hid (Sees (memFr w2 (fun k => k < w1.heap.size + 1)) Wd) := Lib.hid (by rw [hWd]; exact HSw.out.drew)
   have HED : Hid (EsM (fun p => Wd.cell? p) (.slice aa AL.length ac) AL) := Lib.hid (by rw [hWd]; exact HES.out)
   have HM := HM0
   rw [← hWd] at HM ⊢
   clear hWd HM0
   have cF := Lib.hid (Fold_law HED.out (by omega) HGD.out Wd (Sees.self Wd) (cells_lt Wd))
   refine wpSch_take rfl (.bool true) (fun _ _ _ _ h => h) HM.out (by rfl) (fun W2 hW => by go_simp) ?_
   simp only [Act.put, List.setIfInBounds_toArray, List.set_cons_zero, List.set_cons_succ]
   refine wpSch_take rfl (.bool true) (fun _ _ _ _ h => h) HM.out (by rfl) (fun W2 hW => by go_simp) ?_
   simp only [Act.put, List.setIfInBounds_toArray, List.set_cons_zero, List.set_cons_succ]
   refine wpSch_take rfl (.agg #[.slice a s.stories.length c, .slice b s.tpls.length d]) (fun _ _ _ _ h => h) HM.out (by rfl) (fun W2 hW => by exact exec_smid S_state _ rfl (by simp [Act.eval]) _ rfl (whole_cells hW)) ?_
   simp only [Act.put, List.setIfInBounds_toArray, List.set_cons_zero, List.set_cons_succ]
   refine wpSch_take rfl (.slice aa AL.length ac) (fun _ _ _ _ h => h) HM.out (by rfl) (fun W2 hW => by go_simp) ?_
   simp only [Act.put, List.setIfInBounds_toArray, List.set_cons_zero, List.set_cons_succ]
   refine wpSch_only rfl (fun K hK => ?_)
   go_simp
   refine cF.out.mono ?_
   rintro e w7 ⟨a7, c7, b7, d7, s2, rfl, hF2⟩
   dsimp only
   have hss : s2 = s := HALT.out.state HF.out.is hF2.is
   have HS7 : Hid (Sees (memFr w2 (fun k => k < w1.heap.size + 1)) w7) := Lib.hid (HSD.out.bel hF2.bel)
   have HB7 : Hid (Below w1.heap.size w1 w7) := Lib.hid (HBD.out.trans (hF2.bel.mono HBD.out.size))
   have HM7 := Lib.hid ((hF2.bel.block _ (hlt HM.out)).trans HM.out)
   have cE := Lib.hid (same_law (mem := fun p => w7.cell? p) (HF.out.st.mono HS7.out) (hF2.st.mono (memFr_sees w7 _)) w7 (Sees.self w7))
   rw [decide_eq_true hss.symm] at cE
   clear hF2 hss cF
   refine hK _ _ HM7.out ?_
   clear hK K
   refine wpSch_only rfl (fun K hK => ?_)
   go_simp
   refine cE.out.mono ?_
   rintro e w8 ⟨rfl, hb8⟩
   dsimp only
   have HFN : Hid (Below w.heap.size w w8) := Lib.hid (HB1.out.trans ((HB7.out.trans (hb8.mono HB7.out.size)).mono HB1.out.size))
   have HM8 := Lib.hid ((hb8.block _ (hlt HM7.out)).trans HM7.out)
   clear hb8 cE
   refine hK _ _ HM8.out ?_
   clear hK K
   refine wpSch_only rfl (fun K hK => ?_)
   go_simp
   refine hK _ _ HM8.out ?_
   clear hK K
   refine wpSch_only rfl (fun K hK => ?_)
   go_simp
   refine hK _ _ HM8.out ?_
   clear hK K
   refine wpSch_done ?_
   go_wp2_with fail
   go_ret
   exact ⟨rfl, HFN.out⟩
end Go.Proofs.YtdkkhmjlamkgdaaGreatDoor
namespace Go.Proofs.YtdkkhmjlamkgdaaGreatDoor.fnSSil
open Go.ChangeShapes Go.WideShapes Go.ChangeAt Go.RowKit Go.ChangeMaps Mg

set_option maxRecDepth 100000 in
theorem contract (H : Type) (enc : TypeId × Value → H) (W : World) (base : Nat) (args : Array Value) (ds gs : List (DataW H)) (before : List MemPlace)
  (hval : ∀ (j : Nat) t v, Tryz.f12.params[j]? = some t → args[j]? = some v → Value.okWide Tryz.prog W .any base t v)
  (hW : DataW.Whole enc Tryz.prog Tryz.f12.params.toList Rows.stateSilentFactsSpec.vars false W args.toList ds gs before) :
  Calls Tryz.prog 12 args W fun e W' => ∃ v, e = .returned v ∧ Rows.stateSilentFactsSpec.post enc Tryz.prog Tryz.f12 false true false false W args v W' := by
 have hread : ∀ t ∈ Tryz.f12.params.toList, Tryz.prog.readableRec t = true ∧ t < Tryz.prog.types.size := by
  have hall : (Tryz.f12.params.toList.all fun t => Tryz.prog.readableRec t && decide (t < Tryz.prog.types.size)) = true := by kernel_rfl
  intro t ht
  have := List.all_eq_true.1 hall t ht
  simpa using this
 have hclose : ∀ W', Below W.heap.size W W' → (Rows.stateSilentFactsSpec.fn H ds).results = [.lit (.bool true)] ∧ (Rows.stateSilentFactsSpec.fn H ds).args = ds ∧ (Rows.stateSilentFactsSpec.fn H ds).vars = [] → Rows.stateSilentFactsSpec.post enc Tryz.prog Tryz.f12 false true false false W args (.bool true) W' :=
  fun W' hg hs => close_law hW rfl (by kernel_rfl) hs hread hg
 obtain ⟨p, q, hA0, hV, rfl, hfz, hnd⟩ := hW
 have hA : DataW.TrodAll enc Tryz.prog W 0 (fun _ => true) true Tryz.f12.params.toList args.toList ds p := hA0
 obtain ⟨rfl, rfl⟩ := trodVars_none hV
 rw [Tryz.params12] at hA hval
 clear hA0 hread hfz hnd hV
 obtain ⟨v0, vs0, d0, ds0, p0, q0, hargs, rfl, rfl, h0, r0⟩ := trodAll_cons hA
 obtain ⟨v1, vs1, d1, ds1, p1, q1, rfl, rfl, rfl, h1, r1⟩ := trodAll_cons r0
 obtain ⟨v2, vs2, d2, ds2, p2, q2, rfl, rfl, rfl, h2, r2⟩ := trodAll_cons r1
 obtain ⟨rfl, rfl, rfl⟩ := trodAll_nil r2
 obtain rfl : args = #[v0, v1, v2] := by cases args; simp_all
 obtain ⟨l0, b0⟩ := facts_in (hval 0 22 v0 rfl rfl) h0
 obtain ⟨l1, b1⟩ := facts_in (hval 1 22 v1 rfl rfl) h1
 obtain ⟨l2, b2, k2⟩ := ints_in (hval 2 46 v2 rfl rfl) h2
 refine (silent_any b0 b1 b2 k2 W (Sees.self W)).mono fun e W' ⟨he, hg⟩ => ?_
 exact ⟨_, he, hclose W' hg ⟨rfl, rfl, rfl⟩⟩

theorem laid_met (os : Os) : laidMet Tryz.prog Rows.stateSilentFactsRow.laid ((laidWorld os).forCall (fun _ _ => 0) ⟨#[], #[.slice none 0 0, .slice none 0 0, .slice none 0 0], []⟩).memory :=
 laidMet_of_run' 8 (by kernel_rfl) (by kernel_rfl)
theorem reads (os : Os) {H : Type} (enc : TypeId × Value → H) : ∃ places, DataW.whole enc Tryz.prog ((laidWorld os).forCall (fun _ _ => 0) ⟨#[], #[.slice none 0 0, .slice none 0 0, .slice none 0 0], []⟩).memory Tryz.f12.params.toList Rows.stateSilentFactsSpec.vars false (#[Value.slice none 0 0, .slice none 0 0, .slice none 0 0] : Array Value).toList 8 = some ([.nil, .nil, .nil], [], places) :=
 ⟨[], by kernel_rfl⟩

set_option maxRecDepth 100000 in
theorem lifted (os : Os) (started : os.Started) (H : Type) (enc : TypeId × Value → H) (F : Stop.Interp) :
  ReturnsInHanded {} Tryz.checked os 12 .any ((OpenSpec.ofChange Rows.stateSilentFactsSpec).preRow enc Tryz.prog Tryz.f12 Rows.stateSilentFactsRow.domain false Rows.stateSilentFactsRow.laid) (((OpenSpec.ofChange Rows.stateSilentFactsSpec).at F).post enc Tryz.prog Tryz.f12 false true false false) := by
 obtain ⟨places, hx⟩ := reads os enc
 refine returnsInHanded_of_row (C := Tryz.checked) (s := OpenSpec.ofChange Rows.stateSilentFactsSpec) own started (by kernel_rfl) Tryz.func12
  (witness_row_at (enc := enc) (C := Tryz.checked) false (laidWorld os) #[.slice none 0 0, .slice none 0 0, .slice none 0 0] rfl (by kernel_rfl) (by kernel_rfl) (by kernel_rfl)
   (OpenSpec.preRow_of_cond 8 hx (by kernel_rfl) (fun k hk => by cases hk) (by kernel_rfl) (laid_met os))) ?_
 intro W base args ds gs before hval hW _ _ _ _ _ _
 exact contract H enc W base args ds gs before hval hW

theorem j1 : (Rows.stateSilentFactsRow.inPlace == Tryz.prog.inPlace 12) = true := by kernel_rfl
theorem j2 : (Rows.stateSilentFactsRow.unfollowed == Tryz.prog.unfollowed 12) = true := by kernel_rfl
theorem j3 : (Rows.stateSilentFactsRow.recurses == Tryz.prog.recurses 12) = true := by kernel_rfl
theorem j4 : (Rows.stateSilentFactsRow.named == Tryz.prog.varsNamed 12) = true := by kernel_rfl
theorem j5 : joinedRest Tryz.prog Tryz.f12 (OpenSpec.ofChange Rows.stateSilentFactsSpec).bare Rows.stateSilentFactsRow = true := by kernel_rfl
theorem j6 : false = Rows.stateSilentFactsRow.goesBy Tryz.prog := by kernel_rfl
theorem j7 : Rows.stateSilentFactsRow.wfByText (OpenSpec.ofChange Rows.stateSilentFactsSpec) = true := by kernel_rfl
theorem closed : joinedFacts Tryz.prog 12 Tryz.f12 (OpenSpec.ofChange Rows.stateSilentFactsSpec).bare Rows.stateSilentFactsRow = true := joined_of j1 j2 j3 j4 pr_heard pr_enter pr_lifts pr_make j5
theorem named : Tryz.prog.funcNamed Rows.stateSilentFactsRow.func = some 12 := by kernel_rfl

theorem said : Rows.StateSilentFactsSaid :=
 OpenClaim.holds_of_cond 12 Tryz.f12 rfl rfl rfl rfl rfl rfl rfl ⟨rfl, rfl, rfl, rfl, rfl⟩ rfl rfl rfl rfl rfl named Tryz.func12 closed
  (of_decide_eq_true (by kernel_rfl)) (by unfold Func.isWrapper; first | (rw [if_pos (by decide +kernel)]; kernel_rfl) | (rw [if_neg (by decide +kernel)]; exact ⟨rfl, rfl⟩))
  (fun os started H enc _ F => by rw [OpenClaim.pre_eq_preRow]; exact lifted os started H enc F)

theorem plain (f : FuncId) (fn : Func) (hf : Tryz.pinned.checked.prog.funcNamed "copydesk/copydesklaw07.StateSilentFacts" = some f) (hfn : Tryz.pinned.checked.prog.funcs[f]? = some fn) :
  false = Tryz.pinned.checked.prog.looks [] ∧ ∀ (j : Nat) t, fn.params[j]? = some t → Tryz.pinned.checked.prog.wantsStandIn t = false := by
 obtain rfl : f = 12 := Option.some.inj ((show Tryz.prog.funcNamed "copydesk/copydesklaw07.StateSilentFacts" = some 12 by kernel_rfl).symm.trans hf) |>.symm
 obtain rfl : fn = Tryz.f12 := (Option.some.inj (Tryz.func12.symm.trans hfn)).symm
 refine ⟨by kernel_rfl, fun j t ht => ?_⟩
 have hall : Tryz.f12.params.all (fun t => !Tryz.prog.wantsStandIn t) = true := by kernel_rfl
 have := Array.all_eq_true'.1 hall t (Array.mem_of_getElem? ht)
 exact (by simpa using this : Tryz.prog.wantsStandIn t = false)

theorem card : Rows.StateSilentFactsCardSaid :=
 Claim7.holds_tied_plain_at .later [] _ _ _ _ said (fun _ h => by cases h) j7 (fun _ h => by cases h) stateSilentFacts_row_tie rfl ⟨rfl, rfl⟩ (by kernel_rfl) rfl plain j6
end Go.Proofs.YtdkkhmjlamkgdaaGreatDoor.fnSSil

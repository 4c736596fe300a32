/-
  WHAT IS PROVED HERE: the walks of the reference's At, Equal, Moved (printed by tools/refh.py out of Hlp). No condition.
-/
import Derived.Test.YtikpbknafhnieaaGreatDoorHlp
namespace Go.Proofs.YtikpbknafhnieaaGreatDoor
open Go.RowKit Mg Go.Shelf

set_option maxHeartbeats 1000000 in
theorem atR_any {mem : Addr → Option Value} (v : Value) (l : List Blk) (h : BlksM mem v l) (x : Int) (w : World) (hs : Sees mem w) :
    Calls Tryz.prog 40 #[v, .int .i64 x] w fun e w' => e = .returned (.int .i64 (idxI (ids l) x)) ∧ w = w' := by
  obtain ⟨ao, cap, b, o, rfl, hcap, hm, hao, hblks⟩ := h.open_
  have HA := Lib.hid hao
  have HC := Lib.hid hblks
  have HS := Lib.hid hs
  have hlen : (l.length : Int) ≤ 9223372036854775807 := by unfold maxLen at hm; omega
  have HL : Hid ((ids l).length = l.length) := Lib.hid (by rw [List.length_map])
  clear hao hblks hs h hcap hm
  go_enter Tryz.func40, Tryz.ntmps40
  go_wp2_with fail
  go_loop [5] (fun i => ∃ k : Nat, k ≤ l.length ∧ i = .int .i64 k ∧ Hid (x ∉ (ids l).take k)) (fun i => l.length - (Go.RowKit.intOf i).toNat)
  case atStart => exact ⟨0, Nat.zero_le _, rfl, Lib.hid (by simp)⟩
  case round =>
    obtain ⟨k, hk, rfl, hn⟩ := hrel
    by_cases hlt : k < l.length
    · obtain ⟨_, lo, lc, _, c9⟩ := (HC.out k hlt).nine HS.out
      have c1 := c9.c0
      clear c9
      obtain rfl := HA.out (by omega)
      have HE : Hid (l[k].id = x → idxI (ids l) x = k) := Lib.hid (fun e => idxI_hit (by rw [HL.out]; exact hlt) hn.out (by rw [List.getElem_map]; exact e))
      have HN : Hid (l[k].id ≠ x → x ∉ (ids l).take (k + 1)) := Lib.hid (fun e => not_take (by rw [HL.out]; exact hlt) hn.out (by rw [List.getElem_map]; exact e))
      generalize l[k].id = y at *
      clear hn
      by_cases hxy : y = x
      · have e1 : (y == x) = true := by simpa using hxy
        have HF := Lib.hid (HE.out hxy)
        clear hxy HE HN
        go_wp2_with fail
        go_ret
        exact ⟨ret_int (by rw [HF.out]), rfl⟩
      · have e1 : (y == x) = false := by simpa using hxy
        have HF := Lib.hid (HN.out hxy)
        clear hxy HE HN
        go_wp2_with fail
        go_round
        case rel => exact ⟨k + 1, by omega, by go_num, HF⟩
        case measure => simp [Go.RowKit.intOf]; omega
    · have e : k = l.length := by omega
      subst e
      have HF : Hid (x ∉ ids l) := Lib.hid (by have := hn.out; rwa [← HL.out, List.take_length] at this)
      go_wp2_with fail
      go_ret
      exact ⟨ret_int (by unfold idxI; rw [if_neg HF.out]), rfl⟩

set_option maxRecDepth 10000 in
set_option maxHeartbeats 4000000 in
theorem equalR_any {mem : Addr → Option Value} {v u : Value} {a b : List Blk} (h1 : BlksM mem v a) (h2 : BlksM mem u b) (i : Int) (w : World) (hs : Sees mem w) :
    Calls Tryz.prog 55 #[v, u, .int .i64 i] w fun e w' => e = .returned (.bool (decide (find a i = find b i))) ∧ Below w.heap.size w w' := by
  have ca := atR_any v a h1 i w hs
  have cb := atR_any u b h2 i w hs
  obtain ⟨ao, cap, g, o, rfl, hcap, hm, hao, hblks⟩ := h1.open_
  obtain ⟨ao2, cap2, g2, o2, rfl, hcap2, hm2, hao2, hblks2⟩ := h2.open_
  have hlen : (a.length : Int) ≤ 9223372036854775807 := by unfold maxLen at hm; omega
  have hlen2 : (b.length : Int) ≤ 9223372036854775807 := by unfold maxLen at hm2; omega
  by_cases p : i ∈ ids a
  · obtain ⟨k, hk, e1, f1⟩ := idx_find p
    rw [e1] at ca
    by_cases q : i ∈ ids b
    · obtain ⟨m, hm', e2, f2⟩ := idx_find q
      rw [e2] at cb
      obtain ⟨_, lo, lc, hi, c9⟩ := (hblks k hk).nine hs
      obtain ⟨_, lo2, lc2, hi2, d9⟩ := (hblks2 m hm').nine hs
      obtain rfl := hao (by omega)
      obtain rfl := hao2 (by omega)
      have HR : Hid (decide (find a i = find b i) = decide (a[k] = b[m])) := Lib.hid (by rw [f1, f2]; simp)
      have hC := fun W hW => sameR_any a[k] b[m] _ _ hi hi2 W hW
      obtain ⟨c0, c1, c2, c3, c4, c5, c6, c7, c8⟩ := c9
      obtain ⟨d0, d1, d2, d3, d4, d5, d6, d7, d8⟩ := d9
      clear f1 f2 e1 e2 p q hao hao2 hblks hblks2 h1 h2 hcap hcap2 hm hm2 hi hi2
      have HS := Lib.hid hs
      have hk0 : (0 : Int) ≤ k := by omega
      have hk1 : (k : Int) < a.length := by omega
      have hm0 : (0 : Int) ≤ m := by omega
      have hm1 : (m : Int) < b.length := by omega
      generalize a[k] = x at *
      generalize b[m] = y at *
      generalize decide (x = y) = q at *
      have HC := Lib.hid hC
      clear hC hs
      go_enter Tryz.func55, Tryz.ntmps55
      go_wp2_with fail
      refine ca.mono ?_
      rintro e w' ⟨rfl, rfl⟩
      go_wp2_with fail
      refine cb.mono ?_
      rintro e w' ⟨rfl, rfl⟩
      clear ca cb
      go_wp2_with fail
      refine wp_tail 8 (by kernel_rfl) (by kernel_rfl) ?_
      simp only [List.take_succ_cons, List.take_zero, List.drop_succ_cons, List.drop_zero]
      repeat still_step
      refine wpStill_nil ?_
      go_wp2_with fail
      refine (HC.out _ HS.out.drew).mono ?_
      rintro e w3 ⟨rfl, hb3⟩
      go_wp2_with fail
      go_ret
      exact ⟨ret_bool HR.out.symm, ((Below.refl _ w).drew).trans hb3⟩
    · obtain ⟨e2, f2⟩ := idx_none q
      rw [e2] at cb
      have HR : Hid (decide (find a i = find b i) = false) := Lib.hid (by rw [f1, f2]; simp)
      clear f1 f2 e1 e2 p q hao hao2 hblks hblks2 h1 h2 hcap hcap2 hm hm2 hs
      go_enter Tryz.func55, Tryz.ntmps55
      go_wp2_with fail
      refine ca.mono ?_
      rintro e w' ⟨rfl, rfl⟩
      go_wp2_with fail
      refine cb.mono ?_
      rintro e w' ⟨rfl, rfl⟩
      clear ca cb
      go_wp2_with fail
      go_ret
      exact ⟨ret_false HR.out, Below.refl _ _⟩
  · obtain ⟨e1, f1⟩ := idx_none p
    rw [e1] at ca
    by_cases q : i ∈ ids b
    · obtain ⟨m, hm', e2, f2⟩ := idx_find q
      rw [e2] at cb
      have HR : Hid (decide (find a i = find b i) = false) := Lib.hid (by rw [f1, f2]; simp)
      clear f1 f2 e1 e2 p q hao hao2 hblks hblks2 h1 h2 hcap hcap2 hm hm2 hs
      go_enter Tryz.func55, Tryz.ntmps55
      go_wp2_with fail
      refine ca.mono ?_
      rintro e w' ⟨rfl, rfl⟩
      go_wp2_with fail
      refine cb.mono ?_
      rintro e w' ⟨rfl, rfl⟩
      clear ca cb
      go_wp2_with fail
      go_ret
      exact ⟨ret_false HR.out, Below.refl _ _⟩
    · obtain ⟨e2, f2⟩ := idx_none q
      rw [e2] at cb
      have HR : Hid (decide (find a i = find b i) = true) := Lib.hid (by rw [f1, f2]; simp)
      clear f1 f2 e1 e2 p q hao hao2 hblks hblks2 h1 h2 hcap hcap2 hm hm2 hs
      go_enter Tryz.func55, Tryz.ntmps55
      go_wp2_with fail
      refine ca.mono ?_
      rintro e w' ⟨rfl, rfl⟩
      go_wp2_with fail
      refine cb.mono ?_
      rintro e w' ⟨rfl, rfl⟩
      clear ca cb
      go_wp2_with fail
      go_ret
      exact ⟨ret_true HR.out, Below.refl _ _⟩
set_option maxRecDepth 10000 in
set_option maxHeartbeats 2000000 in
theorem movedR_any {mem : Addr → Option Value} {v u : Value} {a b : List Blk} (h1 : BlksM mem v a) (h2 : BlksM mem u b) (w : World) (hs : Sees mem w) :
    Calls Tryz.prog 39 #[u, v] w fun e w' => e = .returned (.bool (movedL (ids b) (-1) (ids a))) ∧ Below w.heap.size w w' := by
  have HE := Lib.hid (fun i W hW => atR_any u b h2 i W hW)
  obtain ⟨ao, cap, g, o, rfl, hcap, hm, hao, hblks⟩ := h1.open_
  have hm2 : b.length ≤ maxLen := by obtain ⟨_, _, _, _, _, h3, h4, _⟩ := h2.open_; omega
  obtain ⟨ao2, cap2, rfl⟩ := h2.slice
  have HA := Lib.hid hao
  have HC := Lib.hid hblks
  have HS := Lib.hid hs
  have hlen : (a.length : Int) ≤ 9223372036854775807 := by unfold maxLen at hm; omega
  have HL2 : Hid ((ids b).length ≤ 9223372036854775807) := Lib.hid (by rw [List.length_map]; unfold maxLen at hm2; omega)
  clear hao hblks h1 h2 hs hcap hm hm2
  go_enter Tryz.func39, Tryz.ntmps39
  go_wp2_with fail
  go_loopw [6, 5] (fun i l wr => ∃ (k : Nat) (last : Int), k ≤ a.length ∧ i = .int .i64 k ∧ l = .int .i64 last ∧ -1 ≤ last ∧ last ≤ 9223372036854775807 ∧ Below w.heap.size w wr ∧ Hid (movedL (ids b) (-1) (ids a) = movedL (ids b) last ((ids a).drop k))) (fun i _ _ => a.length - (Go.RowKit.intOf i).toNat)
  case atStart => exact ⟨0, -1, Nat.zero_le _, rfl, rfl, by omega, by omega, Below.refl _ _, Lib.hid rfl⟩
  case round =>
    obtain ⟨k, last, hk, rfl, rfl, hl0, hl1, hb, hn⟩ := hrel
    by_cases hlt : k < a.length
    · obtain ⟨_, lo, lc, _, c9⟩ := (HC.out k hlt).nine (HS.out.bel hb)
      have c1 := c9.c0
      clear c9
      obtain rfl := HA.out (by omega)
      have hd : (ids a).drop k = a[k].id :: (ids a).drop (k + 1) := by
        rw [List.drop_eq_getElem_cons (by rw [List.length_map]; exact hlt), List.getElem_map]
      rw [hd] at hn
      clear hd
      generalize a[k].id = y at *
      have hc := HE.out y wr (HS.out.bel hb)
      have hmv : Hid (movedL (ids b) last (y :: (ids a).drop (k + 1)) = if y ∈ ids b then (if ((ids b).idxOf y : Int) < last then true else movedL (ids b) ((ids b).idxOf y) ((ids a).drop (k + 1))) else movedL (ids b) last ((ids a).drop (k + 1))) := Lib.hid rfl
      by_cases hq : y ∈ ids b
      · have e1 : idxI (ids b) y = ((ids b).idxOf y : Nat) := by unfold idxI; rw [if_pos hq]
        have hjl := List.idxOf_lt_length_iff.2 hq
        have hL2 := HL2.out
        rw [e1] at hc
        have hmv2 := Lib.hid (hn.out.trans hmv.out)
        rw [if_pos hq] at hmv2
        generalize (ids b).idxOf y = j at *
        clear hn hmv hq e1
        by_cases hjj : (j : Int) < last
        · rw [if_pos hjj] at hmv2
          go_wp2_with fail
          refine hc.mono ?_
          rintro e w2 ⟨rfl, rfl⟩
          clear hc
          go_wp2_with fail
          go_ret
          exact ⟨ret_bool hmv2.out.symm, hb⟩
        · rw [if_neg hjj] at hmv2
          go_wp2_with fail
          refine hc.mono ?_
          rintro e w2 ⟨rfl, rfl⟩
          clear hc
          go_wp2_with fail
          go_roundw
          case rel => exact ⟨k + 1, j, by omega, by go_num, rfl, by omega, by omega, hb, hmv2⟩
          case measure => simp [Go.RowKit.intOf]; omega
      · have e1 : idxI (ids b) y = -1 := by unfold idxI; rw [if_neg hq]
        rw [e1] at hc
        have hmv2 := Lib.hid (hn.out.trans hmv.out)
        rw [if_neg hq] at hmv2
        clear hn hmv hq e1
        go_wp2_with fail
        refine hc.mono ?_
        rintro e w2 ⟨rfl, rfl⟩
        clear hc
        go_wp2_with fail
        go_roundw
        case rel => exact ⟨k + 1, last, by omega, by go_num, rfl, by omega, by omega, hb, hmv2⟩
        case measure => simp [Go.RowKit.intOf]; omega
    · have e : k = a.length := by omega
      subst e
      have HF : Hid (movedL (ids b) (-1) (ids a) = false) := Lib.hid (by
        rw [hn.out, List.drop_of_length_le (by rw [List.length_map]; omega)]; rfl)
      go_wp2_with fail
      go_ret
      exact ⟨ret_bool HF.out.symm, hb⟩
end Go.Proofs.YtikpbknafhnieaaGreatDoor

/-
  WHAT IS PROVED HERE: the walk of the law MergeOwns (printed by tools/lown.py). Condition: each list of stories of the arguments takes at most 2^47 - 4096 bytes.
-/
import Derived.Test.YtikpbknafhnieaaGreatDoorOwnP
namespace Go.Proofs.YtikpbknafhnieaaGreatDoor
open Go.RowKit Mg Go.Shelf

theorem short_ok {mem : Addr → Option Value} {v : Value} {l : List Blk} (h : BlksM mem v l) : ∀ x ∈ shortL l, x.text.size ≤ maxLen ∧ okI x.kind ∧ okI x.id := fun y hy => by
  obtain ⟨x, hx, rfl⟩ := List.mem_map.1 hy
  exact cutB_ok (h.ok x (List.mem_of_mem_take hx))
theorem own_mem {w5 : World} {B g : Nat} {n cap : Nat} {b o : Nat} {u : Value} (h : memFr w5 (fun k => k < B ∨ (Value.slice (some ⟨g, 0, none⟩) n cap).ownBlock = some k) ⟨b, o, none⟩ = some u) : (B ≤ b ∧ b < w5.heap.size) ∧ b ≠ g := by
  obtain ⟨h1, h2, _⟩ := memFr_lt _ u h
  exact ⟨⟨Nat.le_of_not_lt (fun h => h2 (.inl h)), h1⟩, fun e => h2 (.inr (by rw [← e]; rfl))⟩
theorem memFr_later {W W' : World} {B B' : Nat} (hb : Below W.heap.size W W') (h : B ≤ B') : ∀ a u, memFr W (fun k => k < B') a = some u → memFr W' (fun k => k < B) a = some u :=
  memFr_mono (Upd.of_below hb) (fun k hk hf => ⟨fun g => hf (by omega), fun g => by omega⟩)

set_option maxRecDepth 100000 in
set_option maxHeartbeats 8000000 in
theorem law_owns_w {mem : Addr → Option Value} {v1 v2 v3 : Value} {base a b : List Blk} (h1 : BlksM mem v1 base) (h2 : BlksM mem v2 a) (h3 : BlksM mem v3 b)
    (z1 : ∀ x ∈ base, x.lab.after.length * 8 ≤ 140737488351232) (z2 : ∀ x ∈ a, x.lab.after.length * 8 ≤ 140737488351232) (z3 : ∀ x ∈ b, x.lab.after.length * 8 ≤ 140737488351232) (w : World) (hs : Sees mem w) :
    Calls Tryz.prog 10 #[v1, v2, v3] w fun e w' => e = .returned (.bool true) ∧ Below w.heap.size w w' := by
  have HH := Lib.hid (And.intro h1 (And.intro h2 h3))
  have HZ := Lib.hid (And.intro z1 (And.intro z2 z3))
  have HO := Lib.hid (And.intro (short_ok h1) (And.intro (short_ok h2) (short_ok h3)))
  obtain ⟨a1, n1, rfl⟩ := h1.slice
  obtain ⟨a2, n2, rfl⟩ := h2.slice
  obtain ⟨a3, n3, rfl⟩ := h3.slice
  clear h1 h2 h3 z1 z2 z3
  go_enter Tryz.func10, Tryz.ntmps10
  go_wp2_with fail
  refine (sane_any w).mono ?_
  rintro e w1 ⟨rfl, hb⟩
  replace hs := hs.bel hb
  go_wp2_with fail
  refine (fresh_any HH.out.1 HZ.out.1 w1 hs).mono ?_
  rintro e w2 ⟨x1, rfl, b1, hb2⟩
  replace hs := hs.bel hb2
  have hzw2 := hb2.size
  have s1 := b1.seen HO.out.1
  replace hb := hb.trans (hb2.mono hb.size)
  clear b1
  clear hb2
  obtain ⟨y1, m1, rfl⟩ := s1.slice
  go_wp2_with fail
  refine (fresh_any HH.out.2.1 HZ.out.2.1 w2 hs).mono ?_
  rintro e w3 ⟨x2, rfl, b2, hb2⟩
  replace hs := hs.bel hb2
  have hzw3 := hb2.size
  have s2 := b2.seen HO.out.2.1
  replace s1 := see s1 hb2
  replace hb := hb.trans (hb2.mono hb.size)
  clear b2
  clear hb2
  obtain ⟨y2, m2, rfl⟩ := s2.slice
  go_wp2_with fail
  refine (fresh_any HH.out.2.2 HZ.out.2.2 w3 hs).mono ?_
  rintro e w4 ⟨x3, rfl, b3, hb2⟩
  replace hs := hs.bel hb2
  have hzw4 := hb2.size
  have s3 := b3.seen HO.out.2.2
  replace s1 := see s1 hb2
  replace s2 := see s2 hb2
  replace hb := hb.trans (hb2.mono hb.size)
  clear b3
  clear hb2
  obtain ⟨y3, m3, rfl⟩ := s3.slice
  generalize hX : shortL base = X at *
  generalize hY : shortL a = Y at *
  generalize hZ : shortL b = Z at *
  have HX := Lib.hid hX
  have HY := Lib.hid hY
  have HZZ := Lib.hid hZ
  clear hX hY hZ
  obtain ⟨L, C, E, hR⟩ : ∃ L C E, mergeF X Y Z = (L, C, E) := ⟨_, _, _, rfl⟩
  have HOL := Lib.hid (mergeF_blks s2 s3 hR)
  have HR := Lib.hid hR
  have HSS := Lib.hid (And.intro s1 (And.intro s2 s3))
  clear hR s1 s2 s3
  go_wp2_with fail
  have cM := merge_any HSS.out.1 HSS.out.2.1 HSS.out.2.2 w4 (Sees.self w4)
  unfold MergePost at cM
  rw [HR.out] at cM
  refine cM.mono ?_
  rintro e w5 ⟨v, u, rfl, hr, hi, hb2⟩
  replace hs := hs.bel hb2
  have hw45 := hb2.size
  have H45 := Lib.hid hb2
  have hw4 := hb.size
  replace hb := hb.trans (hb2.mono hb.size)
  have hw5 := hb.size
  have HB5 := Lib.hid hr
  clear cM hr hi hb2
  go_wp2_with fail
  refine (fresh_any HH.out.1 HZ.out.1 w5 hs).mono ?_
  rintro e w6 ⟨x1, rfl, b1, hb2⟩
  replace hs := hs.bel hb2
  have hzw6 := hb2.size
  have t1 := b1.blks (by rw [HX.out]; exact HO.out.1)
  have H56 := Lib.hid hb2
  clear hb2
  go_wp2_with fail
  refine (fresh_any HH.out.2.1 HZ.out.2.1 w6 hs).mono ?_
  rintro e w7 ⟨x2, rfl, b2, hb2⟩
  replace hs := hs.bel hb2
  have hzw7 := hb2.size
  have t2 := b2.blks (by rw [HY.out]; exact HO.out.2.1)
  have H67 := Lib.hid hb2
  clear hb2
  go_wp2_with fail
  refine (fresh_any HH.out.2.2 HZ.out.2.2 w7 hs).mono ?_
  rintro e w8 ⟨x3, rfl, b3, hb2⟩
  replace hs := hs.bel hb2
  have hzw8 := hb2.size
  have t3 := b3.blks (by rw [HZZ.out]; exact HO.out.2.2)
  have H78 := Lib.hid hb2
  clear hb2
  have H68 := Lib.hid (H67.out.trans (H78.out.mono hzw7))
  have H58 := Lib.hid (H56.out.trans (H68.out.mono hzw6))
  replace t1 := t1.mono (memFr_later H68.out (Nat.le_refl w5.heap.size))
  replace t2 := t2.mono (memFr_later (B := w5.heap.size) H78.out hzw6)
  replace t3 := t3.mono (memFr_later (B := w5.heap.size) (Below.refl w8.heap.size w8) (Nat.le_trans hzw6 hzw7))
  rw [HX.out] at t1
  rw [HY.out] at t2
  rw [HZZ.out] at t3
  have HT := Lib.hid (And.intro t1 (And.intro t2 t3))
  obtain ⟨q1, k1, rfl⟩ := t1.slice
  obtain ⟨q2, k2, rfl⟩ := t2.slice
  obtain ⟨q3, k3, rfl⟩ := t3.slice
  clear t1 t2 t3 b1 b2 b3 hs
  go_wp2_with fail
  have cM := refmerge_any HT.out.1 HT.out.2.1 HT.out.2.2 w8 (memFr_sees w8 _)
  unfold RefPost at cM
  rw [HR.out] at cM
  refine cM.mono ?_
  rintro e w9 ⟨vr, ur, rfl, hr2, hi2, hb2⟩
  obtain ⟨ra, rn, rc, rfl⟩ := hr2.sl
  obtain ⟨ua, uc, rfl⟩ := hi2.shape
  have H59 := Lib.hid (H58.out.trans (hb2.mono (by omega)))
  have hz9 := hb2.size
  have HR2 := Lib.hid hr2
  have HS9 := Lib.hid ((memFr_sees w8 (fun k => k < w5.heap.size)).bel hb2)
  clear cM hr2 hi2 hb2 HO HX HY HZZ HZ HH
  obtain ⟨ao, cap, g, rfl, hcl, hcm, hao, hK0, hst⟩ := own_start HB5.out H59.out
  have HK0 := Lib.hid hK0
  have HST := Lib.hid hst
  have HAO := Lib.hid hao
  have hll : (L.length : Int) ≤ 9223372036854775807 := by unfold maxLen at hcm; omega
  clear hK0 hst hao HB5 hcm
  go_wp2_with fail
  go_loopw [17] (fun i wr => ∃ k : Nat, k ≤ L.length ∧ i = .int .i64 k ∧ Hid (OwnK w5 w9 w4.heap.size w5.heap.size g L.length (memFr w5 (fun k => k < w4.heap.size ∨ (Value.slice ao L.length cap).ownBlock = some k)) k wr)) (fun i _ => L.length - (Go.RowKit.intOf i).toNat)
  case atStart => exact ⟨0, Nat.zero_le _, rfl, HK0⟩
  case round =>
    obtain ⟨k, hk, rfl, hK⟩ := hrel
    by_cases hlt : k < L.length
    · obtain ⟨rfl, hgB, hgN⟩ := HAO.out (by omega)
      obtain ⟨so, sc, h6, hsc, hscm, sb, so', hso, hsf⟩ := HST.out k hlt
      have H6 := Lib.hid h6
      have HSO := Lib.hid hso
      have HSF := Lib.hid hsf
      have hms : (L[k].lab.after.length : Int) ≤ 9223372036854775807 := by unfold maxLen at hscm; omega
      clear h6 hso hsf hscm
      generalize L[k].lab.after.length = m at *
      obtain ⟨wo, rfl⟩ : ∃ wo : World, wo = wr := ⟨_, rfl⟩
      go_wp2_with fail
      go_loopw [18] (fun j wq => ∃ i : Nat, i ≤ m ∧ j = .int .i64 i ∧ Hid (OwnK w5 w9 w4.heap.size w5.heap.size g L.length (memFr w5 (fun k => k < w4.heap.size ∨ (Value.slice (some ⟨g, 0, none⟩) L.length cap).ownBlock = some k)) k wq)) (fun j _ => m - (Go.RowKit.intOf j).toNat)
      case atStart => exact ⟨0, Nat.zero_le _, rfl, hK⟩
      case round =>
        obtain ⟨i, hi, rfl, hK2⟩ := hrel
        have hk6 := (hK2.out.keep k (Nat.le_refl _) hlt).trans H6.out
        by_cases hj : i < m
        · obtain rfl := HSO.out (by omega)
          obtain ⟨u, hu⟩ := HSF.out i hj
          obtain ⟨hbo, hbg⟩ := own_mem hu
          obtain ⟨⟨u', hc⟩, hf⟩ := hK2.out.free _ u hu
          have HN := Lib.hid (hK2.out.story (o := so' + i) hbo hbg (.int .i64 (-1)))
          clear hu hbo hbg
          go_wp2_with fail
          go_roundw
          case rel => exact ⟨i + 1, by omega, by go_num, HN⟩
          case measure => simp [Go.RowKit.intOf]; omega
        · have e : i = m := by omega
          subst e
          obtain ⟨⟨u0, r0⟩, f0⟩ := hK2.out.row (k * 9) (by omega)
          obtain ⟨⟨u1, r1⟩, f1⟩ := hK2.out.row (k * 9 + 1) (by omega)
          obtain ⟨⟨u2, r2⟩, f2⟩ := hK2.out.row (k * 9 + 2) (by omega)
          obtain ⟨⟨u3, r3⟩, f3⟩ := hK2.out.row (k * 9 + 3) (by omega)
          obtain ⟨⟨u4, r4⟩, f4⟩ := hK2.out.row (k * 9 + 4) (by omega)
          obtain ⟨⟨u5, r5⟩, f5⟩ := hK2.out.row (k * 9 + 5) (by omega)
          obtain ⟨⟨u6, r6⟩, f6⟩ := hK2.out.row (k * 9 + 6) (by omega)
          obtain ⟨⟨u7, r7⟩, f7⟩ := hK2.out.row (k * 9 + 7) (by omega)
          obtain ⟨⟨u8, r8⟩, f8⟩ := hK2.out.row (k * 9 + 8) (by omega)
          have HN := Lib.hid ((((((((((hK2.out.next.cell ⟨hgB, hgN⟩ (c := k * 9) (by omega) (.int .i64 0)).cell ⟨hgB, hgN⟩ (c := k * 9 + 1) (by omega) (.int .i64 0)).cell ⟨hgB, hgN⟩ (c := k * 9 + 2) (by omega) (.string ⟨#[]⟩)).cell ⟨hgB, hgN⟩ (c := k * 9 + 3) (by omega) (.int .i64 0)).cell ⟨hgB, hgN⟩ (c := k * 9 + 4) (by omega) (.int .i64 0)).cell ⟨hgB, hgN⟩ (c := k * 9 + 5) (by omega) (.int .i64 0)).cell ⟨hgB, hgN⟩ (c := k * 9 + 6) (by omega) (.slice none 0 0)).cell ⟨hgB, hgN⟩ (c := k * 9 + 7) (by omega) (.int .i64 0)).cell ⟨hgB, hgN⟩ (c := k * 9 + 8) (by omega) (.int .i64 0)))
          go_wp2_with fail
          go_roundw
          case rel => exact ⟨k + 1, by omega, by go_num, HN⟩
          case measure => simp [Go.RowKit.intOf]; omega
    · have e : k = L.length := by omega
      subst e
      have hup := hK.out.upd
      have hb9r : Below w4.heap.size w9 wr := hup.below (fun i h => h.1) (by omega)
      have hb4r : Below w4.heap.size w4 wr := (H45.out.trans ((H59.out).mono hw45)).trans hb9r
      have HS4 := Lib.hid ((Sees.self w4).bel hb4r)
      have hrr := HR2.out.kept hup (fun k hk h => by have := (HR2.out.ge k hk).1; omega)
      have hsr := HS9.out.upd hup (fun a v hv h => (memFr_lt a v hv).2.1 h.2)
      have HF := Lib.hid (And.intro hrr hsr)
      have hbr := hb.trans ((H59.out.mono hw5).trans (hb9r.mono (by omega)))
      have hzr := hbr.size
      clear hup hb9r hb4r hrr hsr hK HK0 HST HAO
      go_wp2_with fail
      have cM := merge_any HSS.out.1 HSS.out.2.1 HSS.out.2.2 wr HS4.out
      unfold MergePost at cM
      rw [HR.out] at cM
      refine cM.mono ?_
      rintro e w10 ⟨vn, un, rfl, hr3, hi3, hb2⟩
      have r3 := hr3.seen HOL.out
      have r2 := (HF.out.1.bel hb2).blks (HF.out.2.bel hb2) HOL.out
      obtain ⟨na, nc, rfl⟩ := r3.slice
      obtain ⟨pa, pc, e2⟩ := r2.slice
      injection e2 with e1 e2 e3
      subst e1 e2 e3
      obtain ⟨ub, ud, rfl⟩ := hi3.shape
      have HRR := Lib.hid (And.intro r3 r2)
      replace hbr := hbr.trans (hb2.mono hzr)
      clear cM hr3 hi3 hb2 r2 r3 HF
      go_wp2_with fail
      have cS := sameListR_any HRR.out.1 HRR.out.2 w10 (Sees.self w10)
      rw [decide_eq_true rfl] at cS
      refine cS.mono ?_
      rintro e w11 ⟨rfl, hb2⟩
      clear cS
      go_wp2_with fail
      go_ret
      exact ⟨by simp, hbr.trans (hb2.mono hbr.size)⟩
end Go.Proofs.YtikpbknafhnieaaGreatDoor

/-
  WHAT IS PROVED HERE: the walk of the law MergeContents. No condition.
-/
import Derived.Test.YtikpbknafhnieaaGreatDoorLawP
namespace Go.Proofs.YtikpbknafhnieaaGreatDoor
open Go.RowKit Mg Go.Shelf

set_option maxRecDepth 100000 in
set_option maxHeartbeats 8000000 in
theorem law_contents_w {mem : Addr → Option Value} {v1 v2 v3 : Value} {base a b : List Blk} (h1 : BlksM mem v1 base) (h2 : BlksM mem v2 a) (h3 : BlksM mem v3 b) (w : World) (hs : Sees mem w) :
    Calls Tryz.prog 5 #[v1, v2, v3] w fun e w' => e = .returned (.bool true) ∧ Below w.heap.size w w' := by
  have HH := Lib.hid (And.intro h1 (And.intro h2 h3))
  obtain ⟨a1, n1, rfl⟩ := h1.slice
  obtain ⟨a2, n2, rfl⟩ := h2.slice
  obtain ⟨a3, n3, rfl⟩ := h3.slice
  clear h1 h2 h3
  go_enter Tryz.func5, Tryz.ntmps5
  go_wp2_with fail
  refine (sane_any w).mono ?_
  rintro e w1 ⟨rfl, hb⟩
  replace hs := hs.bel hb
  go_wp2_with fail
  refine (short_any HH.out.1 w1 hs).mono ?_
  rintro e w2 ⟨x1, rfl, s1, hb2⟩
  replace hs := hs.bel hb2
  replace hb := hb.trans (hb2.mono hb.size)
  clear hb2
  obtain ⟨b1, m1, rfl⟩ := s1.slice
  go_wp2_with fail
  refine (short_any HH.out.2.1 w2 hs).mono ?_
  rintro e w3 ⟨x2, rfl, s2, hb2⟩
  replace hs := hs.bel hb2
  replace hb := hb.trans (hb2.mono hb.size)
  replace s1 := see s1 hb2
  clear hb2
  obtain ⟨b2, m2, rfl⟩ := s2.slice
  go_wp2_with fail
  refine (short_any HH.out.2.2 w3 hs).mono ?_
  rintro e w4 ⟨x3, rfl, s3, hb2⟩
  replace hb := hb.trans (hb2.mono hb.size)
  replace s1 := see s1 hb2
  replace s2 := see s2 hb2
  clear hb2 hs HH
  obtain ⟨b3, m3, rfl⟩ := s3.slice
  generalize shortL base = X at *
  generalize shortL a = Y at *
  generalize shortL b = Z at *
  go_wp2_with fail
  have cM := merge_any s1 s2 s3 w4 (Sees.self w4)
  unfold MergePost at cM
  rcases mergeF_cases X Y Z with ⟨p1, p2, p3, hn, hm⟩ | hm
  rotate_left
  · rw [hm] at cM
    refine cM.mono ?_
    rintro e w5 ⟨v, u, rfl, hr, hi, hb2⟩
    replace hb := hb.trans (hb2.mono hb.size)
    obtain ⟨ra, rn, rc, rfl⟩ := hr.sl
    obtain ⟨ua, uc, rfl⟩ := hi.shape
    clear hr hi hb2 cM s1 s2 s3 hm
    go_wp2_with fail
    go_ret
    exact ⟨rfl, hb⟩
  rw [hm] at cM
  refine cM.mono ?_
  rintro e w5 ⟨v, u, rfl, hr, hi, hb2⟩
  have r1 := hr.seen (merged_ok s2 s3)
  have i1 := hi.ints
  obtain ⟨ra, rc, rfl⟩ := r1.slice
  obtain ⟨ua, uc, rfl⟩ := hi.shape
  replace hb := hb.trans (hb2.mono hb.size)
  replace s1 := see s1 hb2
  replace s2 := see s2 hb2
  replace s3 := see s3 hb2
  clear hr hi hb2 cM
  have HA := Lib.hid (fun i => law_contents (X := X) p2 p3 i)
  obtain ⟨L, HL⟩ := named (merged X Y Z)
  rw [← HL.out] at r1 HA
  rw [← HL.out]
  have c1 := fun (i : Int) (W : World) (h : Below w5.heap.size w5 W) => equal_law (see r1 h) (see s2 h) i W (Sees.self W)
  have c2 := fun (i : Int) (W : World) (h : Below w5.heap.size w5 W) => equal_law (see r1 h) (see s3 h) i W (Sees.self W)
  have c3 := fun (i : Int) (W : World) (h : Below w5.heap.size w5 W) => equal_law (see s1 h) (see s2 h) i W (Sees.self W)
  have c4 := fun (i : Int) (W : World) (h : Below w5.heap.size w5 W) => equal_law (see s1 h) (see s3 h) i W (Sees.self W)
  have HC := Lib.hid (And.intro c1 (And.intro c2 (And.intro c3 c4)))
  clear i1 hm hn p1 p2 p3 HL c1 c2 c3 c4 s1 s2 s3 r1
  have hz := hb.size
  go_wp2_with fail
  go_loopw [11] (fun i wr => ∃ k : Nat, 1 ≤ k ∧ k ≤ 1001 ∧ i = .int .i64 k ∧ Below w5.heap.size w5 wr) (fun i _ => 1001 - (Go.RowKit.intOf i).toNat)
  case atStart => exact ⟨1, by omega, by omega, rfl, Below.refl _ _⟩
  case round =>
    obtain ⟨k, hk1, hk2, rfl, g1⟩ := hrel
    by_cases hlt : k ≤ 1000
    · obtain ⟨c1, c2, c3, c4⟩ := HC.out
      replace c1 := c1 k
      replace c2 := c2 k
      replace c3 := c3 k
      replace c4 := c4 k
      have ha := HA.out k
      rw [← decide_eq_true_iff (p := find L k = find Y k), ← decide_eq_true_iff (p := find L k = find Z k), ← decide_eq_true_iff (p := find X k = find Y k), ← decide_eq_true_iff (p := find X k = find Z k)] at ha
      generalize decide (find L k = find Y k) = q1 at *
      generalize decide (find L k = find Z k) = q2 at *
      generalize decide (find X k = find Y k) = q3 at *
      generalize decide (find X k = find Z k) = q4 at *
      obtain ⟨k1, k2, k3⟩ := ha
      have H3 := Lib.hid (And.intro k1 (And.intro k2 k3))
      clear k1 k2 k3
      go_wp2_with fail
      refine (c1 wr g1).mono ?_
      rintro e w6 ⟨rfl, g2⟩
      replace g1 := g1.trans (g2.mono g1.size)
      clear g2
      go_wp2_with fail
      refine (c2 w6 g1).mono ?_
      rintro e w7 ⟨rfl, g2⟩
      replace g1 := g1.trans (g2.mono g1.size)
      clear g2
      go_wp2_with fail
      refine (c3 w7 g1).mono ?_
      rintro e w8 ⟨rfl, g2⟩
      replace g1 := g1.trans (g2.mono g1.size)
      clear g2
      go_wp2_with fail
      refine (c4 w8 g1).mono ?_
      rintro e w9 ⟨rfl, g2⟩
      replace g1 := g1.trans (g2.mono g1.size)
      clear g2 c1 c2 c3 c4
      obtain ⟨k1, k2, k3⟩ := H3.out
      clear H3
      cases q1 <;> cases q2 <;> cases q3 <;> cases q4
      all_goals first
        | (exfalso; simp at k1 k2 k3; done)
        | (clear k1 k2 k3
           go_wp2_with fail
           go_roundw
           case rel => exact ⟨k + 1, by omega, by omega, by go_num, g1⟩
           case measure => simp [Go.RowKit.intOf]; omega)
    · have e : k = 1001 := by omega
      subst e
      go_wp2_with fail
      go_ret
      exact ⟨rfl, hb.trans (g1.mono hz)⟩
end Go.Proofs.YtikpbknafhnieaaGreatDoor

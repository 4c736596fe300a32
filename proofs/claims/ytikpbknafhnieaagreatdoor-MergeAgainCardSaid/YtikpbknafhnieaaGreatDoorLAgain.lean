/-
  WHAT IS PROVED HERE: the walk of the law MergeAgain. No condition.
-/
import Derived.Test.YtikpbknafhnieaaGreatDoorLawP
namespace Go.Proofs.YtikpbknafhnieaaGreatDoor
open Go.RowKit Mg Go.Shelf

set_option maxRecDepth 100000 in
set_option maxHeartbeats 8000000 in
theorem law_again_w {mem : Addr → Option Value} {v1 v2 v3 : Value} {base a b : List Blk} (h1 : BlksM mem v1 base) (h2 : BlksM mem v2 a) (h3 : BlksM mem v3 b) (w : World) (hs : Sees mem w) :
    Calls Tryz.prog 8 #[v1, v2, v3] w fun e w' => e = .returned (.bool true) ∧ Below w.heap.size w w' := by
  have HH := Lib.hid (And.intro h1 (And.intro h2 h3))
  obtain ⟨a1, n1, rfl⟩ := h1.slice
  obtain ⟨a2, n2, rfl⟩ := h2.slice
  obtain ⟨a3, n3, rfl⟩ := h3.slice
  clear h1 h2 h3
  go_enter Tryz.func8, Tryz.ntmps8
  go_wp2_with fail
  refine (sane_any w).mono ?_
  rintro e w1 ⟨rfl, hb⟩
  replace hs := hs.bel hb
  go_wp2_with fail
  refine (short_any HH.out.1 w1 hs).mono ?_
  rintro e w2 ⟨x1, rfl, s1, hb2⟩
  replace hs := hs.bel hb2
  replace hb := hb.trans (hb2.mono hb.size)
  clear hb2
  obtain ⟨b1, m1, rfl⟩ := s1.slice
  go_wp2_with fail
  refine (short_any HH.out.2.1 w2 hs).mono ?_
  rintro e w3 ⟨x2, rfl, s2, hb2⟩
  replace hs := hs.bel hb2
  replace hb := hb.trans (hb2.mono hb.size)
  replace s1 := see s1 hb2
  clear hb2
  obtain ⟨b2, m2, rfl⟩ := s2.slice
  go_wp2_with fail
  refine (short_any HH.out.2.2 w3 hs).mono ?_
  rintro e w4 ⟨x3, rfl, s3, hb2⟩
  replace hb := hb.trans (hb2.mono hb.size)
  replace s1 := see s1 hb2
  replace s2 := see s2 hb2
  clear hb2 hs HH
  obtain ⟨b3, m3, rfl⟩ := s3.slice
  generalize shortL base = X at *
  generalize shortL a = Y at *
  generalize shortL b = Z at *
  go_wp2_with fail
  have cM := merge_any s1 s2 s3 w4 (Sees.self w4)
  unfold MergePost at cM
  rcases mergeF_cases X Y Z with ⟨p1, p2, p3, hn, hm⟩ | hm
  rotate_left
  · rw [hm] at cM
    refine cM.mono ?_
    rintro e w5 ⟨v, u, rfl, hr, hi, hb2⟩
    replace hb := hb.trans (hb2.mono hb.size)
    obtain ⟨ra, rn, rc, rfl⟩ := hr.sl
    obtain ⟨ua, uc, rfl⟩ := hi.shape
    clear hr hi hb2 cM s1 s2 s3 hm
    go_wp2_with fail
    go_ret
    exact ⟨rfl, hb⟩
  rw [hm] at cM
  refine cM.mono ?_
  rintro e w5 ⟨v, u, rfl, hr, hi, hb2⟩
  have r1 := hr.seen (merged_ok s2 s3)
  have i1 := hi.ints
  obtain ⟨ra, rc, rfl⟩ := r1.slice
  obtain ⟨ua, uc, rfl⟩ := hi.shape
  replace hb := hb.trans (hb2.mono hb.size)
  replace s1 := see s1 hb2
  replace s2 := see s2 hb2
  replace s3 := see s3 hb2
  clear hr hi hb2 cM
  have HA := Lib.hid (law_again hm)
  obtain ⟨L, HL⟩ := named (merged X Y Z)
  rw [← HL.out] at r1 HA
  obtain ⟨q1, q2, q3, q4⟩ := HA.out
  rw [← HL.out]
  have hok := r1.ok
  clear i1 hm hn p1 p2 p3 HL HA
  have hz := hb.size
  go_wp2_with fail
  have cM := merge_any s1 s2 r1 w5 (Sees.self w5)
  unfold MergePost at cM
  rw [q1] at cM
  refine cM.mono ?_
  rintro e w6 ⟨v2, u2, rfl, hr, hi, g1⟩
  have r2 := hr.seen (merged_ok s2 r1)
  obtain ⟨rb, rd, rfl⟩ := r2.slice
  obtain ⟨ub, ud, rfl⟩ := hi.shape
  replace s1 := see s1 g1
  replace s3 := see s3 g1
  replace r1 := see r1 g1
  clear hr hi cM
  go_wp2_with fail
  have cM := merge_any s1 s3 r1 w6 (Sees.self w6)
  unfold MergePost at cM
  rw [q2] at cM
  refine cM.mono ?_
  rintro e w7 ⟨v3, u3, rfl, hr, hi, g2⟩
  have r3 := hr.seen (merged_ok s3 r1)
  obtain ⟨rb2, rd2, rfl⟩ := r3.slice
  obtain ⟨ub2, ud2, rfl⟩ := hi.shape
  replace r1 := see r1 g2
  replace r2 := see r2 g2
  replace g1 := g1.trans (g2.mono g1.size)
  clear hr hi cM g2 s1 s3
  have c1 := fun (W : World) (h : Below w7.heap.size w7 W) => alike_any (see r1 h) (see r2 h) W (Sees.self W)
  have c2 := fun (W : World) (h : Below w7.heap.size w7 W) => alike_any (see r1 h) (see r3 h) W (Sees.self W)
  rw [q3] at c1
  rw [q4] at c2
  go_wp2_with fail
  refine (c1 w7 (Below.refl _ _)).mono ?_
  rintro e w8 ⟨rfl, g2⟩
  go_wp2_with fail
  refine (c2 w8 g2).mono ?_
  rintro e w9 ⟨rfl, g3⟩
  go_wp2_with fail
  go_ret
  exact ⟨rfl, hb.trans ((g1.trans ((g2.trans (g3.mono g2.size)).mono g1.size)).mono hz)⟩
end Go.Proofs.YtikpbknafhnieaaGreatDoor

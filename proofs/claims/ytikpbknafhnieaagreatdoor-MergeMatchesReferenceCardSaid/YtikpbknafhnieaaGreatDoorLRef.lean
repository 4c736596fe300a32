/-
  WHAT IS PROVED HERE: the walk of the law MergeMatchesReference. No condition.
-/
import Derived.Test.YtikpbknafhnieaaGreatDoorRefW
namespace Go.Proofs.YtikpbknafhnieaaGreatDoor
open Go.RowKit Mg Go.Shelf

set_option maxRecDepth 100000 in
set_option maxHeartbeats 8000000 in
theorem law_ref_w {mem : Addr → Option Value} {v1 v2 v3 : Value} {base a b : List Blk} (h1 : BlksM mem v1 base) (h2 : BlksM mem v2 a) (h3 : BlksM mem v3 b) (w : World) (hs : Sees mem w) :
    Calls Tryz.prog 3 #[v1, v2, v3] w fun e w' => e = .returned (.bool true) ∧ Below w.heap.size w w' := by
  have HH := Lib.hid (And.intro h1 (And.intro h2 h3))
  obtain ⟨a1, n1, rfl⟩ := h1.slice
  obtain ⟨a2, n2, rfl⟩ := h2.slice
  obtain ⟨a3, n3, rfl⟩ := h3.slice
  clear h1 h2 h3
  go_enter Tryz.func3, Tryz.ntmps3
  go_wp2_with fail
  refine (sane_any w).mono ?_
  rintro e w1 ⟨rfl, hb⟩
  replace hs := hs.bel hb
  go_wp2_with fail
  refine (short_any HH.out.1 w1 hs).mono ?_
  rintro e w2 ⟨x1, rfl, s1, hb2⟩
  replace hs := hs.bel hb2
  replace hb := hb.trans (hb2.mono hb.size)
  clear hb2
  obtain ⟨b1, m1, rfl⟩ := s1.slice
  go_wp2_with fail
  refine (short_any HH.out.2.1 w2 hs).mono ?_
  rintro e w3 ⟨x2, rfl, s2, hb2⟩
  replace hs := hs.bel hb2
  replace hb := hb.trans (hb2.mono hb.size)
  replace s1 := see s1 hb2
  clear hb2
  obtain ⟨b2, m2, rfl⟩ := s2.slice
  go_wp2_with fail
  refine (short_any HH.out.2.2 w3 hs).mono ?_
  rintro e w4 ⟨x3, rfl, s3, hb2⟩
  replace hb := hb.trans (hb2.mono hb.size)
  replace s1 := see s1 hb2
  replace s2 := see s2 hb2
  clear hb2 hs HH
  obtain ⟨b3, m3, rfl⟩ := s3.slice
  generalize shortL base = X at *
  generalize shortL a = Y at *
  generalize shortL b = Z at *
  go_wp2_with fail
  obtain ⟨L, C, E, hR⟩ : ∃ L C E, mergeF X Y Z = (L, C, E) := ⟨_, _, _, rfl⟩
  have cM := merge_any s1 s2 s3 w4 (Sees.self w4)
  unfold MergePost at cM
  rw [hR] at cM
  refine cM.mono ?_
  rintro e w5 ⟨v, u, rfl, hr, hi, g1⟩
  have r1 := hr.seen (mergeF_blks s2 s3 hR)
  have i1 := hi.ints
  obtain ⟨ra, rc, rfl⟩ := r1.slice
  obtain ⟨ua, uc, rfl⟩ := hi.shape
  replace s1 := see s1 g1
  replace s2 := see s2 g1
  replace s3 := see s3 g1
  replace hb := hb.trans (g1.mono hb.size)
  clear hr hi cM g1
  go_wp2_with fail
  have cM := refmerge_any s1 s2 s3 w5 (Sees.self w5)
  unfold RefPost at cM
  rw [hR] at cM
  refine cM.mono ?_
  rintro e w6 ⟨v2, u2, rfl, hr, hi, g1⟩
  have r2 := hr.blks ((Sees.self w5).bel g1) (mergeF_blks s2 s3 hR)
  have i2 := hi.ints
  obtain ⟨rb, rd, rfl⟩ := r2.slice
  obtain ⟨ub, ud, rfl⟩ := hi.shape
  replace r1 := see r1 g1
  replace i1 := i1.mono ((Sees.self w5).bel g1)
  replace hb := hb.trans (g1.mono hb.size)
  have cS := sameListR_any r1 r2 w6 (Sees.self w6)
  rw [decide_eq_true rfl] at cS
  clear hr hi cM g1 hR s1 s2 s3
  go_wp2_with fail
  refine cS.mono ?_
  rintro e w7 ⟨rfl, g1⟩
  have cI := sameInts_any (mem := fun a => w7.cell? a) _ _ _ _ (i1.mono ((Sees.self w6).bel g1)) (i2.mono ((Sees.self w6).bel g1)) w7 (Sees.self w7)
  rw [decide_eq_true rfl] at cI
  replace hb := hb.trans (g1.mono hb.size)
  clear cS i1 i2 r1 r2 g1
  go_wp2_with fail
  refine cI.mono ?_
  rintro e w8 ⟨rfl, g1⟩
  clear cI
  go_wp2_with fail
  go_ret
  exact ⟨by simp, hb.trans (g1.mono hb.size)⟩
end Go.Proofs.YtikpbknafhnieaaGreatDoor

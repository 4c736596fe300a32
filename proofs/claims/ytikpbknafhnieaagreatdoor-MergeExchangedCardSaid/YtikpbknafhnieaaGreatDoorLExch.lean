/-
  WHAT IS PROVED HERE: the walk of the law MergeExchanged. No condition.
-/
import Derived.Test.YtikpbknafhnieaaGreatDoorLawP
namespace Go.Proofs.YtikpbknafhnieaaGreatDoor
open Go.RowKit Mg Go.Shelf

set_option maxRecDepth 100000 in
set_option maxHeartbeats 8000000 in
theorem law_exchanged_w {mem : Addr → Option Value} {v1 v2 v3 : Value} {base a b : List Blk} (h1 : BlksM mem v1 base) (h2 : BlksM mem v2 a) (h3 : BlksM mem v3 b) (w : World) (hs : Sees mem w) :
    Calls Tryz.prog 7 #[v1, v2, v3] w fun e w' => e = .returned (.bool true) ∧ Below w.heap.size w w' := by
  have HH := Lib.hid (And.intro h1 (And.intro h2 h3))
  obtain ⟨a1, n1, rfl⟩ := h1.slice
  obtain ⟨a2, n2, rfl⟩ := h2.slice
  obtain ⟨a3, n3, rfl⟩ := h3.slice
  clear h1 h2 h3
  go_enter Tryz.func7, Tryz.ntmps7
  go_wp2_with fail
  refine (sane_any w).mono ?_
  rintro e w1 ⟨rfl, hb⟩
  replace hs := hs.bel hb
  go_wp2_with fail
  refine (short_any HH.out.1 w1 hs).mono ?_
  rintro e w2 ⟨x1, rfl, s1, hb2⟩
  replace hs := hs.bel hb2
  replace hb := hb.trans (hb2.mono hb.size)
  clear hb2
  obtain ⟨b1, m1, rfl⟩ := s1.slice
  go_wp2_with fail
  refine (short_any HH.out.2.1 w2 hs).mono ?_
  rintro e w3 ⟨x2, rfl, s2, hb2⟩
  replace hs := hs.bel hb2
  replace hb := hb.trans (hb2.mono hb.size)
  replace s1 := see s1 hb2
  clear hb2
  obtain ⟨b2, m2, rfl⟩ := s2.slice
  go_wp2_with fail
  refine (short_any HH.out.2.2 w3 hs).mono ?_
  rintro e w4 ⟨x3, rfl, s3, hb2⟩
  replace hb := hb.trans (hb2.mono hb.size)
  replace s1 := see s1 hb2
  replace s2 := see s2 hb2
  clear hb2 hs HH
  obtain ⟨b3, m3, rfl⟩ := s3.slice
  generalize shortL base = X at *
  generalize shortL a = Y at *
  generalize shortL b = Z at *
  go_wp2_with fail
  obtain ⟨L, C, E, hR⟩ : ∃ L C E, mergeF X Y Z = (L, C, E) := ⟨_, _, _, rfl⟩
  obtain ⟨L', C', E', hR'⟩ : ∃ L C E, mergeF X Z Y = (L, C, E) := ⟨_, _, _, rfl⟩
  obtain ⟨e1, e2, hal⟩ := law_exchanged hR hR'
  subst e1 e2
  have cM := merge_any s1 s2 s3 w4 (Sees.self w4)
  unfold MergePost at cM
  rw [hR] at cM
  refine cM.mono ?_
  rintro e w5 ⟨v, u, rfl, hr, hi, g1⟩
  have r1 := hr.seen (mergeF_blks s2 s3 hR)
  have i1 := hi.ints
  obtain ⟨ra, rc, rfl⟩ := r1.slice
  obtain ⟨ua, uc, rfl⟩ := hi.shape
  replace s1 := see s1 g1
  replace s2 := see s2 g1
  replace s3 := see s3 g1
  replace hb := hb.trans (g1.mono hb.size)
  clear hr hi cM g1 hR
  go_wp2_with fail
  have cM := merge_any s1 s3 s2 w5 (Sees.self w5)
  unfold MergePost at cM
  rw [hR'] at cM
  refine cM.mono ?_
  rintro e w6 ⟨v2, u2, rfl, hr, hi, g1⟩
  have r2 := hr.seen (mergeF_blks s3 s2 hR')
  have i2 := hi.ints
  obtain ⟨rb, rd, rfl⟩ := r2.slice
  obtain ⟨ub, ud, rfl⟩ := hi.shape
  replace r1 := see r1 g1
  replace i1 := i1.mono ((Sees.self w5).bel g1)
  replace hb := hb.trans (g1.mono hb.size)
  have cS := sameInts_any (mem := fun a => w6.cell? a) _ _ _ _ i1 i2 w6 (Sees.self w6)
  rw [decide_eq_true rfl] at cS
  clear hr hi cM g1 hR' s1 s2 s3
  go_wp2_with fail
  refine cS.mono ?_
  rintro e w7 ⟨rfl, g1⟩
  have cA := alike_any (see r1 g1) (see r2 g1) w7 (Sees.self w7)
  replace hb := hb.trans (g1.mono hb.size)
  clear cS i1 i2 r1 r2 g1
  by_cases hC : C' = []
  · rw [hal hC] at cA
    subst hC
    clear hal
    go_wp2_with fail
    refine cA.mono ?_
    rintro e w8 ⟨rfl, g1⟩
    go_wp2_with fail
    go_ret
    exact ⟨rfl, hb.trans (g1.mono hb.size)⟩
  · have hl : 0 < C'.length := List.length_pos_iff.2 hC
    clear hal cA hC
    go_wp2_with fail
    go_ret
    exact ⟨rfl, hb⟩
end Go.Proofs.YtikpbknafhnieaaGreatDoor

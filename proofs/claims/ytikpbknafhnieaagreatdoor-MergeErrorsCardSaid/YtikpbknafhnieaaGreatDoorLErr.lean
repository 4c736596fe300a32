/-
  WHAT IS PROVED HERE: the walk of the law MergeErrors. No condition.
-/
import Derived.Test.YtikpbknafhnieaaGreatDoorRefW
namespace Go.Proofs.YtikpbknafhnieaaGreatDoor
open Go.RowKit Mg Go.Shelf

set_option maxRecDepth 100000 in
set_option maxHeartbeats 8000000 in
theorem law_errors_w {mem : Addr → Option Value} {v1 v2 v3 : Value} {base a b : List Blk} (h1 : BlksM mem v1 base) (h2 : BlksM mem v2 a) (h3 : BlksM mem v3 b) (w : World) (hs : Sees mem w) :
    Calls Tryz.prog 4 #[v1, v2, v3] w fun e w' => e = .returned (.bool true) ∧ Below w.heap.size w w' := by
  have HH := Lib.hid (And.intro h1 (And.intro h2 h3))
  obtain ⟨a1, n1, rfl⟩ := h1.slice
  obtain ⟨a2, n2, rfl⟩ := h2.slice
  obtain ⟨a3, n3, rfl⟩ := h3.slice
  clear h1 h2 h3
  go_enter Tryz.func4, Tryz.ntmps4
  go_wp2_with fail
  refine (sane_any w).mono ?_
  rintro e w1 ⟨rfl, hb⟩
  replace hs := hs.bel hb
  go_wp2_with fail
  refine (short_any HH.out.1 w1 hs).mono ?_
  rintro e w2 ⟨x1, rfl, s1, hb2⟩
  replace hs := hs.bel hb2
  replace hb := hb.trans (hb2.mono hb.size)
  clear hb2
  obtain ⟨b1, m1, rfl⟩ := s1.slice
  go_wp2_with fail
  refine (short_any HH.out.2.1 w2 hs).mono ?_
  rintro e w3 ⟨x2, rfl, s2, hb2⟩
  replace hs := hs.bel hb2
  replace hb := hb.trans (hb2.mono hb.size)
  replace s1 := see s1 hb2
  clear hb2
  obtain ⟨b2, m2, rfl⟩ := s2.slice
  go_wp2_with fail
  refine (short_any HH.out.2.2 w3 hs).mono ?_
  rintro e w4 ⟨x3, rfl, s3, hb2⟩
  replace hb := hb.trans (hb2.mono hb.size)
  replace s1 := see s1 hb2
  replace s2 := see s2 hb2
  clear hb2 hs HH
  obtain ⟨b3, m3, rfl⟩ := s3.slice
  generalize shortL base = X at *
  generalize shortL a = Y at *
  generalize shortL b = Z at *
  go_wp2_with fail
  have cM := merge_any s1 s2 s3 w4 (Sees.self w4)
  unfold MergePost at cM
  rcases mergeF_cases X Y Z with ⟨p1, p2, p3, hn, hm⟩ | hm
  rotate_left
  · rw [hm] at cM
    refine cM.mono ?_
    rintro e w5 ⟨v, u, rfl, hr, hi, g1⟩
    replace hb := hb.trans (g1.mono hb.size)
    have r0 : ∃ rc, v = .slice none 0 rc ∨ ∃ ra, v = .slice ra 0 rc := by
      obtain ⟨ra, rc, e⟩ := (hr.seen (fun x hx => by cases hx)).slice
      exact ⟨rc, .inr ⟨ra, e⟩⟩
    obtain ⟨ra, rc, rfl⟩ : ∃ ra rc, v = .slice ra 0 rc := (hr.seen (fun x hx => by cases hx)).slice
    obtain ⟨ua, uc, rfl⟩ : ∃ ra rc, u = .slice ra 0 rc := hi.shape
    replace s1 := see s1 g1
    replace s2 := see s2 g1
    replace s3 := see s3 g1
    clear hr hi g1 cM r0
    go_wp2_with fail
    by_cases p1 : ValidL X
    · skip
      refine (valid_bool (q := true) s1 (decide_eq_true p1) w5 (Sees.self w5)).mono ?_
      rintro e w6 ⟨rfl, g1⟩
      replace s1 := see s1 g1
      replace s2 := see s2 g1
      replace s3 := see s3 g1
      replace hb := hb.trans (g1.mono hb.size)
      clear g1
      go_wp2_with fail
      by_cases p2 : ValidL Y
      · skip
        refine (valid_bool (q := true) s2 (decide_eq_true p2) w6 (Sees.self w6)).mono ?_
        rintro e w7 ⟨rfl, g1⟩
        replace s1 := see s1 g1
        replace s2 := see s2 g1
        replace s3 := see s3 g1
        replace hb := hb.trans (g1.mono hb.size)
        clear g1
        go_wp2_with fail
        by_cases p3 : ValidL Z
        · skip
          refine (valid_bool (q := true) s3 (decide_eq_true p3) w7 (Sees.self w7)).mono ?_
          rintro e w8 ⟨rfl, g1⟩
          replace s1 := see s1 g1
          replace s2 := see s2 g1
          replace s3 := see s3 g1
          replace hb := hb.trans (g1.mono hb.size)
          clear g1
          go_wp2_with fail
          have cM := refmerge_any s1 s2 s3 w8 (Sees.self w8)
          unfold RefPost at cM
          rw [hm] at cM
          refine cM.mono ?_
          rintro e w9 ⟨v2, u2, rfl, hr, hi, g1⟩
          obtain ⟨rb, rn2, rd, rfl⟩ := hr.sl
          obtain ⟨ub, ud, rfl⟩ := hi.shape
          replace hb := hb.trans (g1.mono hb.size)
          clear hr hi cM g1 s1 s2 s3 hm
          go_wp2_with fail
          go_ret
          exact ⟨rfl, hb⟩
        · skip
          refine (valid_bool (q := false) s3 (decide_eq_false p3) w7 (Sees.self w7)).mono ?_
          rintro e w8 ⟨rfl, g1⟩
          replace s1 := see s1 g1
          replace s2 := see s2 g1
          replace s3 := see s3 g1
          replace hb := hb.trans (g1.mono hb.size)
          clear g1
          go_wp2_with fail
          have cM := refmerge_any s1 s2 s3 w8 (Sees.self w8)
          unfold RefPost at cM
          rw [hm] at cM
          refine cM.mono ?_
          rintro e w9 ⟨v2, u2, rfl, hr, hi, g1⟩
          obtain ⟨rb, rn2, rd, rfl⟩ := hr.sl
          obtain ⟨ub, ud, rfl⟩ := hi.shape
          replace hb := hb.trans (g1.mono hb.size)
          clear hr hi cM g1 s1 s2 s3 hm
          go_wp2_with fail
          go_ret
          exact ⟨rfl, hb⟩
      · skip
        refine (valid_bool (q := false) s2 (decide_eq_false p2) w6 (Sees.self w6)).mono ?_
        rintro e w7 ⟨rfl, g1⟩
        replace s1 := see s1 g1
        replace s2 := see s2 g1
        replace s3 := see s3 g1
        replace hb := hb.trans (g1.mono hb.size)
        clear g1
        go_wp2_with fail
        have cM := refmerge_any s1 s2 s3 w7 (Sees.self w7)
        unfold RefPost at cM
        rw [hm] at cM
        refine cM.mono ?_
        rintro e w9 ⟨v2, u2, rfl, hr, hi, g1⟩
        obtain ⟨rb, rn2, rd, rfl⟩ := hr.sl
        obtain ⟨ub, ud, rfl⟩ := hi.shape
        replace hb := hb.trans (g1.mono hb.size)
        clear hr hi cM g1 s1 s2 s3 hm
        go_wp2_with fail
        go_ret
        exact ⟨rfl, hb⟩
    · skip
      refine (valid_bool (q := false) s1 (decide_eq_false p1) w5 (Sees.self w5)).mono ?_
      rintro e w6 ⟨rfl, g1⟩
      replace s1 := see s1 g1
      replace s2 := see s2 g1
      replace s3 := see s3 g1
      replace hb := hb.trans (g1.mono hb.size)
      clear g1
      go_wp2_with fail
      have cM := refmerge_any s1 s2 s3 w6 (Sees.self w6)
      unfold RefPost at cM
      rw [hm] at cM
      refine cM.mono ?_
      rintro e w9 ⟨v2, u2, rfl, hr, hi, g1⟩
      obtain ⟨rb, rn2, rd, rfl⟩ := hr.sl
      obtain ⟨ub, ud, rfl⟩ := hi.shape
      replace hb := hb.trans (g1.mono hb.size)
      clear hr hi cM g1 s1 s2 s3 hm
      go_wp2_with fail
      go_ret
      exact ⟨rfl, hb⟩
  rw [hm] at cM
  refine cM.mono ?_
  rintro e w5 ⟨v, u, rfl, hr, hi, g1⟩
  have r1 := hr.seen (merged_ok s2 s3)
  obtain ⟨ra, rc, rfl⟩ := r1.slice
  obtain ⟨ua, uc, rfl⟩ := hi.shape
  replace hb := hb.trans (g1.mono hb.size)
  replace s1 := see s1 g1
  replace s2 := see s2 g1
  replace s3 := see s3 g1
  have p4 := merged_valid (base := X) p2 p3 hn
  clear hr hi g1 cM hm hn
  go_wp2_with fail
  refine (valid_bool (q := true) s1 (decide_eq_true p1) w5 (Sees.self w5)).mono ?_
  rintro e w6 ⟨rfl, g1⟩
  replace s1 := see s1 g1
  replace s2 := see s2 g1
  replace s3 := see s3 g1
  replace r1 := see r1 g1
  replace hb := hb.trans (g1.mono hb.size)
  clear g1
  go_wp2_with fail
  refine (valid_bool (q := true) s2 (decide_eq_true p2) w6 (Sees.self w6)).mono ?_
  rintro e w7 ⟨rfl, g1⟩
  replace s1 := see s1 g1
  replace s2 := see s2 g1
  replace s3 := see s3 g1
  replace r1 := see r1 g1
  replace hb := hb.trans (g1.mono hb.size)
  clear g1
  go_wp2_with fail
  refine (valid_bool (q := true) s3 (decide_eq_true p3) w7 (Sees.self w7)).mono ?_
  rintro e w8 ⟨rfl, g1⟩
  replace s1 := see s1 g1
  replace s2 := see s2 g1
  replace s3 := see s3 g1
  replace r1 := see r1 g1
  replace hb := hb.trans (g1.mono hb.size)
  clear g1
  go_wp2_with fail
  refine (valid_bool (q := true) r1 (decide_eq_true p4) w8 (Sees.self w8)).mono ?_
  rintro e w9 ⟨rfl, g1⟩
  replace hb := hb.trans (g1.mono hb.size)
  clear g1 s1 s2 s3 r1 p1 p2 p3 p4
  go_wp2_with fail
  go_ret
  exact ⟨rfl, hb⟩
end Go.Proofs.YtikpbknafhnieaaGreatDoor

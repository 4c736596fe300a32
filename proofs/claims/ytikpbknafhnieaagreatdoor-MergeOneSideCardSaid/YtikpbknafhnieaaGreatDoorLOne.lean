/-
  WHAT IS PROVED HERE: the walk of the law MergeOneSide. No condition.
-/
import Derived.Test.YtikpbknafhnieaaGreatDoorLawQ
namespace Go.Proofs.YtikpbknafhnieaaGreatDoor
open Go.RowKit Mg Go.Shelf

set_option maxRecDepth 100000 in
set_option maxHeartbeats 8000000 in
theorem law_oneSide_w {mem : Addr → Option Value} {v1 v2 : Value} {base a : List Blk} (h1 : BlksM mem v1 base) (h2 : BlksM mem v2 a) (w : World) (hs : Sees mem w) :
    Calls Tryz.prog 11 #[v1, v2] w fun e w' => e = .returned (.bool true) ∧ Below w.heap.size w w' := by
  have HH := Lib.hid (And.intro h1 h2)
  obtain ⟨a1, n1, rfl⟩ := h1.slice
  obtain ⟨a2, n2, rfl⟩ := h2.slice
  clear h1 h2
  go_enter Tryz.func11, Tryz.ntmps11
  go_wp2_with fail
  refine (sane_any w).mono ?_
  rintro e w1 ⟨rfl, hb⟩
  replace hs := hs.bel hb
  go_wp2_with fail
  refine (short_any HH.out.1 w1 hs).mono ?_
  rintro e w2 ⟨x1, rfl, s1, hb2⟩
  replace hs := hs.bel hb2
  replace hb := hb.trans (hb2.mono hb.size)
  clear hb2
  obtain ⟨b1, m1, rfl⟩ := s1.slice
  go_wp2_with fail
  refine (short_any HH.out.2 w2 hs).mono ?_
  rintro e w3 ⟨x2, rfl, s2, hb2⟩
  replace hb := hb.trans (hb2.mono hb.size)
  replace s1 := see s1 hb2
  clear hb2 hs HH
  obtain ⟨b2, m2, rfl⟩ := s2.slice
  generalize shortL base = X at *
  generalize shortL a = Y at *
  go_wp2_with fail
  have cv := fun p h => valid_bool (q := p) s1 h w3 (Sees.self w3)
  by_cases p1 : ValidL X
  · refine (cv true (decide_eq_true p1)).mono ?_
    rintro e w4 ⟨rfl, g0⟩
    clear cv
    replace hb := hb.trans (g0.mono hb.size)
    replace s1 := see s1 g0
    replace s2 := see s2 g0
    clear g0
    go_wp2_with fail
    have cv := fun p h => valid_bool (q := p) s2 h w4 (Sees.self w4)
    by_cases p2 : ValidL Y
    · obtain ⟨q1, q2, q3⟩ := law_one p1 p2
      refine (cv true (decide_eq_true p2)).mono ?_
      rintro e w5 ⟨rfl, g0⟩
      clear cv
      replace hb := hb.trans (g0.mono hb.size)
      replace s1 := see s1 g0
      replace s2 := see s2 g0
      have hz := hb.size
      clear g0 p1 p2
      go_wp2_with fail
      go_loopw [7] (fun i wr => ∃ k : Nat, k ≤ 3 ∧ i = .int .i64 k ∧ Below w5.heap.size w5 wr) (fun i _ => 3 - (Go.RowKit.intOf i).toNat)
      case atStart => exact ⟨0, by omega, rfl, Below.refl _ _⟩
      case round =>
        obtain ⟨k, hk, rfl, g1⟩ := hrel
        by_cases hlt : k < 3
        · have hk3 : k = 0 ∨ k = 1 ∨ k = 2 := by omega
          have s1wr := see s1 g1
          have s2wr := see s2 g1
          clear hlt hk
          rcases hk3 with rfl | rfl | rfl
          · go_wp2_with fail
            have cM := merge_any s1wr s2wr s2wr wr (Sees.self wr)
            unfold MergePost at cM
            rw [q1] at cM
            refine cM.mono ?_
            rintro e w6 ⟨v, u, rfl, hr, hi, g2⟩
            have r1 := hr.seen s2.ok
            obtain ⟨ra, rc, rfl⟩ := r1.slice
            obtain ⟨ua, uc, rfl⟩ := hi.shape
            replace g1 := g1.trans (g2.mono g1.size)
            have s1w6 := see s1 g1
            have s2w6 := see s2 g1
            clear hr hi g2 cM
            go_wp2_with fail
            have cS := sameList_any r1 s2w6 w6 (Sees.self w6)
            rw [decide_eq_true rfl] at cS
            refine cS.mono ?_
            rintro e w8 ⟨rfl, g2⟩
            replace g1 := g1.trans (g2.mono g1.size)
            clear g2 cS
            go_wp2_with fail
            go_roundw
            case rel => exact ⟨1, by omega, by go_num, g1⟩
            case measure => simp [Go.RowKit.intOf]
          · go_wp2_with fail
            have cM := merge_any s1wr s2wr s2wr wr (Sees.self wr)
            unfold MergePost at cM
            rw [q1] at cM
            refine cM.mono ?_
            rintro e w6 ⟨v, u, rfl, hr, hi, g2⟩
            have r1 := hr.seen s2.ok
            obtain ⟨ra, rc, rfl⟩ := r1.slice
            obtain ⟨ua, uc, rfl⟩ := hi.shape
            replace g1 := g1.trans (g2.mono g1.size)
            have s1w6 := see s1 g1
            have s2w6 := see s2 g1
            clear hr hi g2 cM
            go_wp2_with fail
            clear r1
            have cM := merge_any s1w6 s1w6 s2w6 w6 (Sees.self w6)
            unfold MergePost at cM
            rw [q2] at cM
            refine cM.mono ?_
            rintro e w7 ⟨v, u, rfl, hr, hi, g2⟩
            have r1 := hr.seen s2.ok
            obtain ⟨ra, rc, rfl⟩ := r1.slice
            obtain ⟨ua, uc, rfl⟩ := hi.shape
            replace g1 := g1.trans (g2.mono g1.size)
            have s1w7 := see s1 g1
            have s2w7 := see s2 g1
            clear hr hi g2 cM
            go_wp2_with fail
            have cS := sameList_any r1 s2w7 w7 (Sees.self w7)
            rw [decide_eq_true rfl] at cS
            refine cS.mono ?_
            rintro e w8 ⟨rfl, g2⟩
            replace g1 := g1.trans (g2.mono g1.size)
            clear g2 cS
            go_wp2_with fail
            go_roundw
            case rel => exact ⟨2, by omega, by go_num, g1⟩
            case measure => simp [Go.RowKit.intOf]
          · go_wp2_with fail
            have cM := merge_any s1wr s2wr s2wr wr (Sees.self wr)
            unfold MergePost at cM
            rw [q1] at cM
            refine cM.mono ?_
            rintro e w6 ⟨v, u, rfl, hr, hi, g2⟩
            have r1 := hr.seen s2.ok
            obtain ⟨ra, rc, rfl⟩ := r1.slice
            obtain ⟨ua, uc, rfl⟩ := hi.shape
            replace g1 := g1.trans (g2.mono g1.size)
            have s1w6 := see s1 g1
            have s2w6 := see s2 g1
            clear hr hi g2 cM
            go_wp2_with fail
            clear r1
            have cM := merge_any s1w6 s2w6 s1w6 w6 (Sees.self w6)
            unfold MergePost at cM
            rw [q3] at cM
            refine cM.mono ?_
            rintro e w7 ⟨v, u, rfl, hr, hi, g2⟩
            have r1 := hr.seen s2.ok
            obtain ⟨ra, rc, rfl⟩ := r1.slice
            obtain ⟨ua, uc, rfl⟩ := hi.shape
            replace g1 := g1.trans (g2.mono g1.size)
            have s1w7 := see s1 g1
            have s2w7 := see s2 g1
            clear hr hi g2 cM
            go_wp2_with fail
            have cS := sameList_any r1 s2w7 w7 (Sees.self w7)
            rw [decide_eq_true rfl] at cS
            refine cS.mono ?_
            rintro e w8 ⟨rfl, g2⟩
            replace g1 := g1.trans (g2.mono g1.size)
            clear g2 cS
            go_wp2_with fail
            go_roundw
            case rel => exact ⟨3, by omega, by go_num, g1⟩
            case measure => simp [Go.RowKit.intOf]
        · have e : k = 3 := by omega
          subst e
          go_wp2_with fail
          go_ret
          exact ⟨rfl, hb.trans (g1.mono hz)⟩
    · obtain ⟨q1, q2, q3⟩ := law_one_bad (X := X) (Y := Y) (fun h => p2 h.2)
      refine (cv false (decide_eq_false p2)).mono ?_
      rintro e w5 ⟨rfl, g0⟩
      clear cv
      replace hb := hb.trans (g0.mono hb.size)
      replace s1 := see s1 g0
      replace s2 := see s2 g0
      have hz := hb.size
      clear g0 p1 p2
      go_wp2_with fail
      go_loopw [7] (fun i wr => ∃ k : Nat, k ≤ 3 ∧ i = .int .i64 k ∧ Below w5.heap.size w5 wr) (fun i _ => 3 - (Go.RowKit.intOf i).toNat)
      case atStart => exact ⟨0, by omega, rfl, Below.refl _ _⟩
      case round =>
        obtain ⟨k, hk, rfl, g1⟩ := hrel
        by_cases hlt : k < 3
        · have hk3 : k = 0 ∨ k = 1 ∨ k = 2 := by omega
          have s1wr := see s1 g1
          have s2wr := see s2 g1
          clear hlt hk
          rcases hk3 with rfl | rfl | rfl
          · go_wp2_with fail
            have cM := merge_any s1wr s2wr s2wr wr (Sees.self wr)
            unfold MergePost at cM
            rw [q1] at cM
            refine cM.mono ?_
            rintro e w6 ⟨v, u, rfl, hr, hi, g2⟩
            have r1 := hr.seen (fun x hx => by cases hx)
            obtain ⟨ra, rc, rfl⟩ := r1.slice
            obtain ⟨ua, uc, rfl⟩ := hi.shape
            replace g1 := g1.trans (g2.mono g1.size)
            have s1w6 := see s1 g1
            have s2w6 := see s2 g1
            clear hr hi g2 cM
            go_wp2_with fail
            go_roundw
            case rel => exact ⟨1, by omega, by go_num, g1⟩
            case measure => simp [Go.RowKit.intOf]
          · go_wp2_with fail
            have cM := merge_any s1wr s2wr s2wr wr (Sees.self wr)
            unfold MergePost at cM
            rw [q1] at cM
            refine cM.mono ?_
            rintro e w6 ⟨v, u, rfl, hr, hi, g2⟩
            have r1 := hr.seen (fun x hx => by cases hx)
            obtain ⟨ra, rc, rfl⟩ := r1.slice
            obtain ⟨ua, uc, rfl⟩ := hi.shape
            replace g1 := g1.trans (g2.mono g1.size)
            have s1w6 := see s1 g1
            have s2w6 := see s2 g1
            clear hr hi g2 cM
            go_wp2_with fail
            clear r1
            have cM := merge_any s1w6 s1w6 s2w6 w6 (Sees.self w6)
            unfold MergePost at cM
            rw [q2] at cM
            refine cM.mono ?_
            rintro e w7 ⟨v, u, rfl, hr, hi, g2⟩
            have r1 := hr.seen (fun x hx => by cases hx)
            obtain ⟨ra, rc, rfl⟩ := r1.slice
            obtain ⟨ua, uc, rfl⟩ := hi.shape
            replace g1 := g1.trans (g2.mono g1.size)
            have s1w7 := see s1 g1
            have s2w7 := see s2 g1
            clear hr hi g2 cM
            go_wp2_with fail
            go_roundw
            case rel => exact ⟨2, by omega, by go_num, g1⟩
            case measure => simp [Go.RowKit.intOf]
          · go_wp2_with fail
            have cM := merge_any s1wr s2wr s2wr wr (Sees.self wr)
            unfold MergePost at cM
            rw [q1] at cM
            refine cM.mono ?_
            rintro e w6 ⟨v, u, rfl, hr, hi, g2⟩
            have r1 := hr.seen (fun x hx => by cases hx)
            obtain ⟨ra, rc, rfl⟩ := r1.slice
            obtain ⟨ua, uc, rfl⟩ := hi.shape
            replace g1 := g1.trans (g2.mono g1.size)
            have s1w6 := see s1 g1
            have s2w6 := see s2 g1
            clear hr hi g2 cM
            go_wp2_with fail
            clear r1
            have cM := merge_any s1w6 s2w6 s1w6 w6 (Sees.self w6)
            unfold MergePost at cM
            rw [q3] at cM
            refine cM.mono ?_
            rintro e w7 ⟨v, u, rfl, hr, hi, g2⟩
            have r1 := hr.seen (fun x hx => by cases hx)
            obtain ⟨ra, rc, rfl⟩ := r1.slice
            obtain ⟨ua, uc, rfl⟩ := hi.shape
            replace g1 := g1.trans (g2.mono g1.size)
            have s1w7 := see s1 g1
            have s2w7 := see s2 g1
            clear hr hi g2 cM
            go_wp2_with fail
            go_roundw
            case rel => exact ⟨3, by omega, by go_num, g1⟩
            case measure => simp [Go.RowKit.intOf]
        · have e : k = 3 := by omega
          subst e
          go_wp2_with fail
          go_ret
          exact ⟨rfl, hb.trans (g1.mono hz)⟩
  · obtain ⟨q1, q2, q3⟩ := law_one_bad (X := X) (Y := Y) (fun h => p1 h.1)
    refine (cv false (decide_eq_false p1)).mono ?_
    rintro e w5 ⟨rfl, g0⟩
    clear cv
    replace hb := hb.trans (g0.mono hb.size)
    replace s1 := see s1 g0
    replace s2 := see s2 g0
    have hz := hb.size
    clear g0 p1
    go_wp2_with fail
    go_loopw [7] (fun i wr => ∃ k : Nat, k ≤ 3 ∧ i = .int .i64 k ∧ Below w5.heap.size w5 wr) (fun i _ => 3 - (Go.RowKit.intOf i).toNat)
    case atStart => exact ⟨0, by omega, rfl, Below.refl _ _⟩
    case round =>
      obtain ⟨k, hk, rfl, g1⟩ := hrel
      by_cases hlt : k < 3
      · have hk3 : k = 0 ∨ k = 1 ∨ k = 2 := by omega
        have s1wr := see s1 g1
        have s2wr := see s2 g1
        clear hlt hk
        rcases hk3 with rfl | rfl | rfl
        · go_wp2_with fail
          have cM := merge_any s1wr s2wr s2wr wr (Sees.self wr)
          unfold MergePost at cM
          rw [q1] at cM
          refine cM.mono ?_
          rintro e w6 ⟨v, u, rfl, hr, hi, g2⟩
          have r1 := hr.seen (fun x hx => by cases hx)
          obtain ⟨ra, rc, rfl⟩ := r1.slice
          obtain ⟨ua, uc, rfl⟩ := hi.shape
          replace g1 := g1.trans (g2.mono g1.size)
          have s1w6 := see s1 g1
          have s2w6 := see s2 g1
          clear hr hi g2 cM
          go_wp2_with fail
          go_roundw
          case rel => exact ⟨1, by omega, by go_num, g1⟩
          case measure => simp [Go.RowKit.intOf]
        · go_wp2_with fail
          have cM := merge_any s1wr s2wr s2wr wr (Sees.self wr)
          unfold MergePost at cM
          rw [q1] at cM
          refine cM.mono ?_
          rintro e w6 ⟨v, u, rfl, hr, hi, g2⟩
          have r1 := hr.seen (fun x hx => by cases hx)
          obtain ⟨ra, rc, rfl⟩ := r1.slice
          obtain ⟨ua, uc, rfl⟩ := hi.shape
          replace g1 := g1.trans (g2.mono g1.size)
          have s1w6 := see s1 g1
          have s2w6 := see s2 g1
          clear hr hi g2 cM
          go_wp2_with fail
          clear r1
          have cM := merge_any s1w6 s1w6 s2w6 w6 (Sees.self w6)
          unfold MergePost at cM
          rw [q2] at cM
          refine cM.mono ?_
          rintro e w7 ⟨v, u, rfl, hr, hi, g2⟩
          have r1 := hr.seen (fun x hx => by cases hx)
          obtain ⟨ra, rc, rfl⟩ := r1.slice
          obtain ⟨ua, uc, rfl⟩ := hi.shape
          replace g1 := g1.trans (g2.mono g1.size)
          have s1w7 := see s1 g1
          have s2w7 := see s2 g1
          clear hr hi g2 cM
          go_wp2_with fail
          go_roundw
          case rel => exact ⟨2, by omega, by go_num, g1⟩
          case measure => simp [Go.RowKit.intOf]
        · go_wp2_with fail
          have cM := merge_any s1wr s2wr s2wr wr (Sees.self wr)
          unfold MergePost at cM
          rw [q1] at cM
          refine cM.mono ?_
          rintro e w6 ⟨v, u, rfl, hr, hi, g2⟩
          have r1 := hr.seen (fun x hx => by cases hx)
          obtain ⟨ra, rc, rfl⟩ := r1.slice
          obtain ⟨ua, uc, rfl⟩ := hi.shape
          replace g1 := g1.trans (g2.mono g1.size)
          have s1w6 := see s1 g1
          have s2w6 := see s2 g1
          clear hr hi g2 cM
          go_wp2_with fail
          clear r1
          have cM := merge_any s1w6 s2w6 s1w6 w6 (Sees.self w6)
          unfold MergePost at cM
          rw [q3] at cM
          refine cM.mono ?_
          rintro e w7 ⟨v, u, rfl, hr, hi, g2⟩
          have r1 := hr.seen (fun x hx => by cases hx)
          obtain ⟨ra, rc, rfl⟩ := r1.slice
          obtain ⟨ua, uc, rfl⟩ := hi.shape
          replace g1 := g1.trans (g2.mono g1.size)
          have s1w7 := see s1 g1
          have s2w7 := see s2 g1
          clear hr hi g2 cM
          go_wp2_with fail
          go_roundw
          case rel => exact ⟨3, by omega, by go_num, g1⟩
          case measure => simp [Go.RowKit.intOf]
      · have e : k = 3 := by omega
        subst e
        go_wp2_with fail
        go_ret
        exact ⟨rfl, hb.trans (g1.mono hz)⟩
end Go.Proofs.YtikpbknafhnieaaGreatDoor

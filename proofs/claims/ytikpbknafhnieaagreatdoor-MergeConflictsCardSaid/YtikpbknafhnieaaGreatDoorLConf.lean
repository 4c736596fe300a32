/-
  WHAT IS PROVED HERE: the walk of the law MergeConflicts. No condition.
-/
import Derived.Test.YtikpbknafhnieaaGreatDoorLawQ
namespace Go.Proofs.YtikpbknafhnieaaGreatDoor
open Go.RowKit Mg Go.Shelf

set_option maxRecDepth 100000 in
set_option maxHeartbeats 8000000 in
theorem law_conflicts_w {mem : Addr → Option Value} {v1 v2 v3 : Value} {base a b : List Blk} (h1 : BlksM mem v1 base) (h2 : BlksM mem v2 a) (h3 : BlksM mem v3 b) (w : World) (hs : Sees mem w) :
    Calls Tryz.prog 6 #[v1, v2, v3] w fun e w' => e = .returned (.bool true) ∧ Below w.heap.size w w' := by
  have HH := Lib.hid (And.intro h1 (And.intro h2 h3))
  obtain ⟨a1, n1, rfl⟩ := h1.slice
  obtain ⟨a2, n2, rfl⟩ := h2.slice
  obtain ⟨a3, n3, rfl⟩ := h3.slice
  clear h1 h2 h3
  go_enter Tryz.func6, Tryz.ntmps6
  go_wp2_with fail
  refine (sane_any w).mono ?_
  rintro e w1 ⟨rfl, hb⟩
  replace hs := hs.bel hb
  go_wp2_with fail
  refine (short_any HH.out.1 w1 hs).mono ?_
  rintro e w2 ⟨x1, rfl, s1, hb2⟩
  replace hs := hs.bel hb2
  replace hb := hb.trans (hb2.mono hb.size)
  clear hb2
  obtain ⟨b1, m1, rfl⟩ := s1.slice
  go_wp2_with fail
  refine (short_any HH.out.2.1 w2 hs).mono ?_
  rintro e w3 ⟨x2, rfl, s2, hb2⟩
  replace hs := hs.bel hb2
  replace hb := hb.trans (hb2.mono hb.size)
  replace s1 := see s1 hb2
  clear hb2
  obtain ⟨b2, m2, rfl⟩ := s2.slice
  go_wp2_with fail
  refine (short_any HH.out.2.2 w3 hs).mono ?_
  rintro e w4 ⟨x3, rfl, s3, hb2⟩
  replace hb := hb.trans (hb2.mono hb.size)
  replace s1 := see s1 hb2
  replace s2 := see s2 hb2
  clear hb2 hs HH
  obtain ⟨b3, m3, rfl⟩ := s3.slice
  generalize shortL base = X at *
  generalize shortL a = Y at *
  generalize shortL b = Z at *
  go_wp2_with fail
  have cM := merge_any s1 s2 s3 w4 (Sees.self w4)
  unfold MergePost at cM
  rcases mergeF_cases X Y Z with ⟨p1, p2, p3, hn, hm⟩ | hm
  rotate_left
  · rw [hm] at cM
    refine cM.mono ?_
    rintro e w5 ⟨v, u, rfl, hr, hi, hb2⟩
    replace hb := hb.trans (hb2.mono hb.size)
    obtain ⟨ra, rn, rc, rfl⟩ := hr.sl
    obtain ⟨ua, uc, rfl⟩ := hi.shape
    clear hr hi hb2 cM s1 s2 s3 hm
    go_wp2_with fail
    go_ret
    exact ⟨rfl, hb⟩
  rw [hm] at cM
  refine cM.mono ?_
  rintro e w5 ⟨v, u, rfl, hr, hi, hb2⟩
  have r1 := hr.seen (merged_ok s2 s3)
  have i1 := hi.ints
  have hi' := hi
  obtain ⟨ra, rc, rfl⟩ := r1.slice
  obtain ⟨ua, uc, rfl⟩ := hi.shape
  replace hb := hb.trans (hb2.mono hb.size)
  replace s1 := see s1 hb2
  replace s2 := see s2 hb2
  replace s3 := see s3 hb2
  clear hr hi hb2 cM
  have HA := Lib.hid (fun i => law_conflict (X := X) p2 p3 i)
  have HG := Lib.hid (fun k hk h => confs_get (X := X) (Y := Y) (Z := Z) (k := k) hk h)
  have HSt := Lib.hid (confsTo_step X Y Z)
  have HLn := Lib.hid (confsTo_len X Y Z)
  have HE := Lib.hid (confsTo_all X Y Z)
  have hcl : (confs X Y Z).length ≤ 1000 := by rw [confsTo_all]; exact confsTo_len X Y Z 1000
  have HCell := Lib.hid (fun j hj => IRow.cells hi' j hj)
  obtain ⟨L, HL⟩ := named (merged X Y Z)
  obtain ⟨C, HCC⟩ := named (confs X Y Z)
  rw [← HL.out] at r1 HA
  rw [← HCC.out] at HA HG HE hcl HCell i1
  rw [← HL.out, ← HCC.out]
  have c1 := fun (i : Int) (W : World) (h : Below w5.heap.size w5 W) => equal_law (see s1 h) (see s2 h) i W (Sees.self W)
  have c2 := fun (i : Int) (W : World) (h : Below w5.heap.size w5 W) => equal_law (see s1 h) (see s3 h) i W (Sees.self W)
  have c3 := fun (i : Int) (W : World) (h : Below w5.heap.size w5 W) => equal_law (see s2 h) (see s3 h) i W (Sees.self W)
  have c4 := fun (i : Int) (W : World) (h : Below w5.heap.size w5 W) => has_any (mem := fun a => W.cell? a) _ C (i1.mono ((Sees.self w5).bel h)) i W (Sees.self W)
  have c5 := fun (i : Int) (W : World) (h : Below w5.heap.size w5 W) => at_any _ Z (see s3 h) i W (Sees.self W)
  have c6 := fun (i : Int) (W : World) (h : Below w5.heap.size w5 W) => equal_law (see r1 h) (see s3 h) i W (Sees.self W)
  have c7 := fun (i : Int) (W : World) (h : Below w5.heap.size w5 W) => equal_law (see r1 h) (see s2 h) i W (Sees.self W)
  have HC := Lib.hid (And.intro c1 (And.intro c2 (And.intro c3 (And.intro c4 (And.intro c5 (And.intro c6 c7))))))
  have hU0 : (confsTo X Y Z 0).length = 0 := rfl
  clear i1 hm hn p1 p2 p3 HL HCC c1 c2 c3 c4 c5 c6 c7 s1 s2 s3 r1 hi'
  have hz := hb.size
  go_wp2_with fail
  go_loopw [12, 11] (fun i n wr => ∃ k : Nat, k ≤ 1000 ∧ i = .int .i64 ((k : Int) + 1) ∧ n = .int .i64 ((confsTo X Y Z k).length : Nat) ∧ Below w5.heap.size w5 wr) (fun i _ _ => 1001 - (Go.RowKit.intOf i).toNat)
  case atStart => exact ⟨0, by omega, rfl, by rw [hU0]; rfl, Below.refl _ _⟩
  case round =>
    obtain ⟨k, hk, rfl, rfl, g1⟩ := hrel
    by_cases hlt : k < 1000
    · obtain ⟨c1, c2, c3, c4, c5, c6, c7⟩ := HC.out
      have cn1 := c1 ((k : Int) + 1)
      have cn2 := c2 ((k : Int) + 1)
      have cn3 := c3 ((k : Int) + 1)
      have cn4 := c4 ((k : Int) + 1)
      obtain ⟨a1, a2, a3⟩ := HA.out ((k : Int) + 1) (by omega)
      have hu := HLn.out k
      have hst := HSt.out k
      by_cases hp : (pickAt X Y Z ((k : Int) + 1)).2 = true
      · rw [hp] at a2
        have hq : decide (find X ((k : Int) + 1) = find Y ((k : Int) + 1)) = false ∧ decide (find X ((k : Int) + 1) = find Z ((k : Int) + 1)) = false ∧ decide (find Y ((k : Int) + 1) = find Z ((k : Int) + 1)) = false := by
          revert a2
          generalize decide (find X ((k : Int) + 1) = find Y ((k : Int) + 1)) = q1
          generalize decide (find X ((k : Int) + 1) = find Z ((k : Int) + 1)) = q2
          generalize decide (find Y ((k : Int) + 1) = find Z ((k : Int) + 1)) = q3
          cases q1 <;> cases q2 <;> cases q3 <;> simp
        rw [hq.1] at cn1
        rw [hq.2.1] at cn2
        rw [hq.2.2] at cn3
        rw [hq.1, hq.2.1, hq.2.2] at a1
        rw [show decide ((k : Int) + 1 ∈ C) = true from a1] at cn4
        obtain ⟨hn, hget⟩ := HG.out k hlt hp
        obtain ⟨g, cp, e, _, _, _, hcell⟩ := HCell.out _ hn
        injection e with e _ e2
        subst e e2
        rw [hget] at hcell
        have hUs : (confsTo X Y Z (k + 1)).length = (confsTo X Y Z k).length + 1 := by rw [hst, if_pos hp, List.length_append]; rfl
        have hcf : ∀ W, Below w5.heap.size w5 W → W.cell? ⟨g, (confsTo X Y Z k).length, none⟩ = some (.int .i64 ((k : Int) + 1)) := fun W h => (Sees.self w5).bel h _ _ hcell
        have HCF := Lib.hid hcf
        have ht := a3 hp
        have cn5 := c5 ((k : Int) + 1)
        have hun : ((confsTo X Y Z k).length : Int) < C.length := by omega
        have hu0 : (0 : Int) ≤ ((confsTo X Y Z k).length : Nat) := by omega
        by_cases hz : (k : Int) + 1 ∈ ids Z
        · have hzf : find Z ((k : Int) + 1) ≠ none := fun e => find_none.1 e hz
          rw [if_neg hzf] at ht
          have cn6 := c6 ((k : Int) + 1)
          rw [decide_eq_true ht] at cn6
          have e1 : idxI (ids Z) ((k : Int) + 1) = ((ids Z).idxOf ((k : Int) + 1) : Nat) := by unfold idxI; rw [if_pos hz]
          rw [e1] at cn5
          generalize (ids Z).idxOf ((k : Int) + 1) = j at *
          generalize hnn : (confsTo X Y Z k).length = nn at *
          clear hq a1 a2 a3 c1 c2 c3 c4 c5 c6 c7 hget hcell hcf ht hzf hz e1 hst hp hnn
          go_wp2_with fail
          refine (cn1 wr g1).mono ?_
          rintro e w6 ⟨rfl, g2⟩
          replace g1 := g1.trans (g2.mono g1.size)
          clear g2
          go_wp2_with fail
          refine (cn2 w6 g1).mono ?_
          rintro e w7 ⟨rfl, g2⟩
          replace g1 := g1.trans (g2.mono g1.size)
          clear g2
          go_wp2_with fail
          refine (cn3 w7 g1).mono ?_
          rintro e w8 ⟨rfl, g2⟩
          replace g1 := g1.trans (g2.mono g1.size)
          clear g2
          go_wp2_with fail
          refine (cn4 w8 g1).mono ?_
          rintro e w9 ⟨rfl, rfl⟩
          have hc8 := HCF.out w8 g1
          go_wp2_with fail
          refine (cn5 w8 g1).mono ?_
          rintro e w9 ⟨rfl, rfl⟩
          go_wp2_with fail
          refine (cn6 w8 g1).mono ?_
          rintro e w9 ⟨rfl, g2⟩
          replace g1 := g1.trans (g2.mono g1.size)
          clear g2 cn1 cn2 cn3 cn4 cn5 cn6 hc8
          go_wp2_with fail
          go_roundw
          case rel => exact ⟨k + 1, by omega, by go_num, by rw [hUs]; go_num, g1⟩
          case measure => simp [Go.RowKit.intOf]; omega
        · have hzf : find Z ((k : Int) + 1) = none := find_none.2 hz
          rw [if_pos hzf] at ht
          have cn6 := c7 ((k : Int) + 1)
          rw [decide_eq_true ht] at cn6
          have e1 : idxI (ids Z) ((k : Int) + 1) = -1 := by unfold idxI; rw [if_neg hz]
          rw [e1] at cn5
          generalize hnn : (confsTo X Y Z k).length = nn at *
          clear hq a1 a2 a3 c1 c2 c3 c4 c5 c6 c7 hget hcell hcf ht hzf hz e1 hst hp hnn
          go_wp2_with fail
          refine (cn1 wr g1).mono ?_
          rintro e w6 ⟨rfl, g2⟩
          replace g1 := g1.trans (g2.mono g1.size)
          clear g2
          go_wp2_with fail
          refine (cn2 w6 g1).mono ?_
          rintro e w7 ⟨rfl, g2⟩
          replace g1 := g1.trans (g2.mono g1.size)
          clear g2
          go_wp2_with fail
          refine (cn3 w7 g1).mono ?_
          rintro e w8 ⟨rfl, g2⟩
          replace g1 := g1.trans (g2.mono g1.size)
          clear g2
          go_wp2_with fail
          refine (cn4 w8 g1).mono ?_
          rintro e w9 ⟨rfl, rfl⟩
          have hc8 := HCF.out w8 g1
          go_wp2_with fail
          refine (cn5 w8 g1).mono ?_
          rintro e w9 ⟨rfl, rfl⟩
          go_wp2_with fail
          refine (cn6 w8 g1).mono ?_
          rintro e w9 ⟨rfl, g2⟩
          replace g1 := g1.trans (g2.mono g1.size)
          clear g2 cn1 cn2 cn3 cn4 cn5 cn6 hc8
          go_wp2_with fail
          go_roundw
          case rel => exact ⟨k + 1, by omega, by go_num, by rw [hUs]; go_num, g1⟩
          case measure => simp [Go.RowKit.intOf]; omega
      · have hUs : (confsTo X Y Z (k + 1)).length = (confsTo X Y Z k).length := by rw [hst, if_neg hp, List.append_nil]
        rw [Bool.not_eq_true] at hp
        rw [hp] at a2
        rw [← a2] at a1
        rw [show decide ((k : Int) + 1 ∈ C) = false from a1] at cn4
        generalize decide (find X ((k : Int) + 1) = find Y ((k : Int) + 1)) = q1 at *
        generalize decide (find X ((k : Int) + 1) = find Z ((k : Int) + 1)) = q2 at *
        generalize decide (find Y ((k : Int) + 1) = find Z ((k : Int) + 1)) = q3 at *
        have HQ := Lib.hid a2
        clear a1 a2 a3 c1 c2 c3 c4 c5 c6 c7 hst hp
        generalize hnn : (confsTo X Y Z k).length = nn at *
        clear hnn
        go_wp2_with fail
        refine (cn1 wr g1).mono ?_
        rintro e w6 ⟨rfl, g2⟩
        replace g1 := g1.trans (g2.mono g1.size)
        clear g2
        go_wp2_with fail
        refine (cn2 w6 g1).mono ?_
        rintro e w7 ⟨rfl, g2⟩
        replace g1 := g1.trans (g2.mono g1.size)
        clear g2
        go_wp2_with fail
        refine (cn3 w7 g1).mono ?_
        rintro e w8 ⟨rfl, g2⟩
        replace g1 := g1.trans (g2.mono g1.size)
        have hqq := HQ.out
        clear g2 cn1 cn2 cn3 HQ
        cases q1 <;> cases q2 <;> cases q3
        all_goals first
          | (exfalso; simp at hqq; done)
          | (clear hqq
             go_wp2_with fail
             refine (cn4 w8 g1).mono ?_
             rintro e w9 ⟨rfl, rfl⟩
             go_wp2_with fail
             go_roundw
             case rel => exact ⟨k + 1, by omega, by go_num, by rw [hUs], g1⟩
             case measure => simp [Go.RowKit.intOf]; omega)
    · have e : k = 1000 := by omega
      subst e
      have hE : (confsTo X Y Z 1000).length = C.length := by rw [HE.out]
      rw [hE]
      go_wp2_with fail
      go_ret
      exact ⟨rfl, hb.trans (g1.mono hz)⟩
end Go.Proofs.YtikpbknafhnieaaGreatDoor

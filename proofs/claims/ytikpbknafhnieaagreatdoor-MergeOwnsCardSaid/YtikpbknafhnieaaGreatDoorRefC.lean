/-
  WHAT IS PROVED HERE: the walk of the reference's ids (printed by tools/refc.py). No condition.
-/
import Derived.Test.YtikpbknafhnieaaGreatDoorRefH
namespace Go.Proofs.YtikpbknafhnieaaGreatDoor
open Go.RowKit Mg Go.Shelf

def anyId (X Y Z : List Blk) (i : Int) : Bool := decide (i ∈ ids X) || decide (i ∈ ids Y) || decide (i ∈ ids Z)
def idsTo (X Y Z : List Blk) (k : Nat) : List Int := ((List.range k).map fun n : Nat => (n : Int) + 1).filter (anyId X Y Z)
theorem idsTo_step (X Y Z : List Blk) (k : Nat) : idsTo X Y Z (k + 1) = idsTo X Y Z k ++ if anyId X Y Z ((k : Int) + 1) = true then [(k : Int) + 1] else [] := by
  unfold idsTo
  rw [List.range_succ, List.map_append, List.filter_append]
  congr 1
  by_cases h : anyId X Y Z ((k : Int) + 1) = true
  · rw [if_pos h]
    exact List.filter_cons_of_pos h
  · rw [if_neg h]
    exact List.filter_cons_of_neg h
theorem idsTo_len (X Y Z : List Blk) (k : Nat) : (idsTo X Y Z k).length ≤ k := by
  unfold idsTo
  have := List.length_filter_le (anyId X Y Z) ((List.range k).map fun n : Nat => (n : Int) + 1)
  rwa [List.length_map, List.length_range] at this
theorem idxI_in {l : List Int} {i : Int} (h : i ∈ l) : ∃ j : Nat, idxI l i = j := ⟨l.idxOf i, by unfold idxI; rw [if_pos h]⟩
theorem idxI_out {l : List Int} {i : Int} (h : i ∉ l) : idxI l i = -1 := by unfold idxI; rw [if_neg h]

set_option maxRecDepth 10000 in
set_option maxHeartbeats 8000000 in
theorem idsR_any {mem : Addr → Option Value} {v1 v2 v3 : Value} {X Y Z : List Blk} (h1 : BlksM mem v1 X) (h2 : BlksM mem v2 Y) (h3 : BlksM mem v3 Z) (w : World) (hs : Sees mem w) :
    Calls Tryz.prog 37 #[v1, v2, v3] w fun e w' => ∃ u, e = .returned u ∧ IRow w' w.heap.size u (idsTo X Y Z 1000) ∧ Below w.heap.size w w' := by
  have HC1 := Lib.hid (fun i W hW => atR_any v1 X h1 i W hW)
  have HC2 := Lib.hid (fun i W hW => atR_any v2 Y h2 i W hW)
  have HC3 := Lib.hid (fun i W hW => atR_any v3 Z h3 i W hW)
  obtain ⟨a1, n1, rfl⟩ := h1.slice
  obtain ⟨a2, n2, rfl⟩ := h2.slice
  obtain ⟨a3, n3, rfl⟩ := h3.slice
  have HS := Lib.hid hs
  have H0 : Hid (IRow w w.heap.size (.slice none 0 0) (idsTo X Y Z 0)) := Lib.hid (World.ownsRow_nil _ _ _ _)
  clear h1 h2 h3 hs
  go_enter Tryz.func37, Tryz.ntmps37
  go_wp2_with fail
  go_loopw [8, 7] (fun i r wr => ∃ k : Nat, k ≤ 1000 ∧ i = .int .i64 ((k : Int) + 1) ∧ (∃ ra rn rc, r = .slice ra rn rc) ∧ Below w.heap.size w wr ∧ Hid (IRow wr w.heap.size r (idsTo X Y Z k))) (fun i _ _ => 1001 - (Go.RowKit.intOf i).toNat)
  case atStart => exact ⟨0, by omega, rfl, ⟨_, _, _, rfl⟩, Below.refl _ _, H0⟩
  case round =>
    obtain ⟨k, hk, rfl, ⟨ra, rn, rc, rfl⟩, hb, hR⟩ := hrel
    have hw := hb.size
    by_cases hlt : k < 1000
    · have hll : (idsTo X Y Z k).length ≤ 100000 := by have := idsTo_len X Y Z k; omega
      have c1 := HC1.out ((k : Int) + 1) wr (HS.out.bel hb)
      have c2 := HC2.out ((k : Int) + 1) wr (HS.out.bel hb)
      have c3 := HC3.out ((k : Int) + 1) wr (HS.out.bel hb)
      by_cases p0 : (k : Int) + 1 ∈ ids X
      · skip
        obtain ⟨j0, e0⟩ := idxI_in p0
        rw [e0] at c1
        clear e0
        have ha : anyId X Y Z ((k : Int) + 1) = true := by unfold anyId; simp [p0]
        have hst : idsTo X Y Z (k + 1) = idsTo X Y Z k ++ [(k : Int) + 1] := by rw [idsTo_step, if_pos ha]
        clear ha p0 c2 c3
        go_wp2_with fail
        refine c1.mono ?_
        rintro e w' ⟨rfl, rfl⟩
        clear c1
        go_wp2_with (at_builtin; refine wpList_app_int rfl _ _ rfl w.heap.size _ _ rfl (IRow.alloc hR.out _) ((k : Int) + 1) wr.heap.size 1 rfl (cell_new rfl rfl) hll (by simp; omega) ?_; intro v2 w2 h2 hg2 _; have HR2 := Lib.hid (by rw [hst]; exact h2 : IRow w2 w.heap.size v2 (idsTo X Y Z (k + 1))); have hb2 : Below w.heap.size w w2 := (hb.alloc hw _).grown hg2 (by simp; omega) (fun j e => IRow.ge hR.out j e); obtain ⟨qa, qn, qc, rfl⟩ := h2.sl; clear h2 hg2)
        go_roundw
        case rel => exact ⟨k + 1, by omega, by go_num, ⟨_, _, _, rfl⟩, hb2, HR2⟩
        case measure => simp [Go.RowKit.intOf]; omega
      · by_cases p1 : (k : Int) + 1 ∈ ids Y
        · skip
          rw [idxI_out p0] at c1
          obtain ⟨j1, e1⟩ := idxI_in p1
          rw [e1] at c2
          clear e1
          have ha : anyId X Y Z ((k : Int) + 1) = true := by unfold anyId; simp [p0, p1]
          have hst : idsTo X Y Z (k + 1) = idsTo X Y Z k ++ [(k : Int) + 1] := by rw [idsTo_step, if_pos ha]
          clear ha p0 p1 c3
          go_wp2_with fail
          refine c1.mono ?_
          rintro e w' ⟨rfl, rfl⟩
          clear c1
          go_wp2_with fail
          refine c2.mono ?_
          rintro e w' ⟨rfl, rfl⟩
          clear c2
          go_wp2_with (at_builtin; refine wpList_app_int rfl _ _ rfl w.heap.size _ _ rfl (IRow.alloc hR.out _) ((k : Int) + 1) wr.heap.size 1 rfl (cell_new rfl rfl) hll (by simp; omega) ?_; intro v2 w2 h2 hg2 _; have HR2 := Lib.hid (by rw [hst]; exact h2 : IRow w2 w.heap.size v2 (idsTo X Y Z (k + 1))); have hb2 : Below w.heap.size w w2 := (hb.alloc hw _).grown hg2 (by simp; omega) (fun j e => IRow.ge hR.out j e); obtain ⟨qa, qn, qc, rfl⟩ := h2.sl; clear h2 hg2)
          go_roundw
          case rel => exact ⟨k + 1, by omega, by go_num, ⟨_, _, _, rfl⟩, hb2, HR2⟩
          case measure => simp [Go.RowKit.intOf]; omega
        · by_cases p2 : (k : Int) + 1 ∈ ids Z
          · skip
            rw [idxI_out p0] at c1
            rw [idxI_out p1] at c2
            obtain ⟨j2, e2⟩ := idxI_in p2
            rw [e2] at c3
            clear e2
            have ha : anyId X Y Z ((k : Int) + 1) = true := by unfold anyId; simp [p0, p1, p2]
            have hst : idsTo X Y Z (k + 1) = idsTo X Y Z k ++ [(k : Int) + 1] := by rw [idsTo_step, if_pos ha]
            clear ha p0 p1 p2
            go_wp2_with fail
            refine c1.mono ?_
            rintro e w' ⟨rfl, rfl⟩
            clear c1
            go_wp2_with fail
            refine c2.mono ?_
            rintro e w' ⟨rfl, rfl⟩
            clear c2
            go_wp2_with fail
            refine c3.mono ?_
            rintro e w' ⟨rfl, rfl⟩
            clear c3
            go_wp2_with (at_builtin; refine wpList_app_int rfl _ _ rfl w.heap.size _ _ rfl (IRow.alloc hR.out _) ((k : Int) + 1) wr.heap.size 1 rfl (cell_new rfl rfl) hll (by simp; omega) ?_; intro v2 w2 h2 hg2 _; have HR2 := Lib.hid (by rw [hst]; exact h2 : IRow w2 w.heap.size v2 (idsTo X Y Z (k + 1))); have hb2 : Below w.heap.size w w2 := (hb.alloc hw _).grown hg2 (by simp; omega) (fun j e => IRow.ge hR.out j e); obtain ⟨qa, qn, qc, rfl⟩ := h2.sl; clear h2 hg2)
            go_roundw
            case rel => exact ⟨k + 1, by omega, by go_num, ⟨_, _, _, rfl⟩, hb2, HR2⟩
            case measure => simp [Go.RowKit.intOf]; omega
          · skip
            rw [idxI_out p0] at c1
            rw [idxI_out p1] at c2
            rw [idxI_out p2] at c3
            have ha : ¬ anyId X Y Z ((k : Int) + 1) = true := by unfold anyId; simp [p0, p1, p2]
            have hst : idsTo X Y Z (k + 1) = idsTo X Y Z k := by rw [idsTo_step, if_neg ha, List.append_nil]
            clear ha p0 p1 p2
            go_wp2_with fail
            refine c1.mono ?_
            rintro e w' ⟨rfl, rfl⟩
            clear c1
            go_wp2_with fail
            refine c2.mono ?_
            rintro e w' ⟨rfl, rfl⟩
            clear c2
            go_wp2_with fail
            refine c3.mono ?_
            rintro e w' ⟨rfl, rfl⟩
            clear c3
            have HR2 := Lib.hid (by rw [hst]; exact hR.out : IRow wr w.heap.size (.slice ra rn rc) (idsTo X Y Z (k + 1)))
            go_wp2_with fail
            go_roundw
            case rel => exact ⟨k + 1, by omega, by go_num, ⟨_, _, _, rfl⟩, hb, HR2⟩
            case measure => simp [Go.RowKit.intOf]; omega
    · have e : k = 1000 := by omega
      subst e
      go_wp2_with fail
      go_ret
      exact ⟨_, rfl, hR.out, hb⟩
end Go.Proofs.YtikpbknafhnieaaGreatDoor

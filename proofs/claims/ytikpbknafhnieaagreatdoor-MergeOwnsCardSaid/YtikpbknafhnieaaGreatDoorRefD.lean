/-
  WHAT IS PROVED HERE: the walk of the reference's chosen (printed by tools/refd.py). No condition.
-/
import Derived.Test.YtikpbknafhnieaaGreatDoorRefC
namespace Go.Proofs.YtikpbknafhnieaaGreatDoor
open Go.RowKit Mg Go.Shelf

theorem results_cell_row3 {P : Program} {fn : Func} {p u v : Tmp} {ty : TypeId} (h : fn.results = #[.cell p ty, .tmp u, .tmp v]) (tmps : Array Value) (w : World) (g : Nat) (t : TypeId) (cs : Array Value) (fr : Nat × Nat) (d : TypeDesc)
    (hp : tmps.getD p undef = .pointer (some ⟨g, 0, none⟩)) (hg : w.heap[g]? = some (.cells cs t fr))
    (hu : P.underlying ty = some d) (hd : (match d with | .struct _ | .array _ _ => true | _ => false) = true) (hi : (P.info? ty).map (·.size) = some cs.size) :
    (results fn tmps).run P w = .ok (.tuple #[.agg cs, tmps.getD u undef, tmps.getD v undef]) w := by
  have hp' : tmps[p]?.getD undef = .pointer (some ⟨g, 0, none⟩) := by simpa using hp
  simp [results, h, hp', asAddr, run_loadVar_row w g t ty cs fr d hg hu hd hi]
/-- a chosen block's value -/
def ChV (mem : Addr → Option Value) (v : Value) : Option Blk → Prop
  | none => v = .agg #[.int .i64 0, .int .i64 0, .string .empty, .int .i64 0, .int .i64 0, .int .i64 0, .slice none 0 0, .int .i64 0, .int .i64 0]
  | some x => ∃ ao cap, IntsM mem (.slice ao x.lab.after.length cap) x.lab.after ∧ v = .agg (blkCells x (.slice ao x.lab.after.length cap))
def ChPost (mem : Addr → Option Value) (p : Option Blk × Bool) (w : World) (e : Ending) (w' : World) : Prop := ∃ v, e = .returned (.tuple #[v, .bool p.1.isSome, .bool p.2]) ∧ ChV mem v p.1 ∧ Below w.heap.size w w'

set_option maxRecDepth 100000 in
set_option maxHeartbeats 8000000 in
theorem chosenR_11 {mem : Addr → Option Value} {v1 v2 v3 : Value} {X Y Z : List Blk} (h1 : BlksM mem v1 X) (h2 : BlksM mem v2 Y) (h3 : BlksM mem v3 Z) (i : Int) (w : World) (hs : Sees mem w) (pY : i ∈ ids Y) (pZ : i ∈ ids Z) :
    Calls Tryz.prog 38 #[v1, v2, v3, .int .i64 i] w (ChPost mem (pickAt X Y Z i) w) := by
  have cy := fun W hW => atR_any v2 Y h2 i W hW
  have cz := fun W hW => atR_any v3 Z h3 i W hW
  have q1 := fun W hW => equalR_any h1 h2 i W hW
  have q2 := fun W hW => equalR_any h1 h3 i W hW
  have q3 := fun W hW => equalR_any h2 h3 i W hW
  obtain ⟨a1, n1, rfl⟩ := h1.slice
  obtain ⟨ao2, cap2, g2, o2, rfl, _, hm2, HAOY, HBY⟩ := h2.open_
  obtain ⟨ao3, cap3, g3, o3, rfl, _, hm3, HAOZ, HBZ⟩ := h3.open_
  have hlY : (Y.length : Int) ≤ 9223372036854775807 := by unfold maxLen at hm2; omega
  have hlZ : (Z.length : Int) ≤ 9223372036854775807 := by unfold maxLen at hm3; omega
  unfold pickAt
  obtain ⟨kY, hY, eY, fY⟩ := idx_find pY
  obtain ⟨kZ, hZ, eZ, fZ⟩ := idx_find pZ
  rw [eY] at cy
  rw [eZ] at cz
  clear h1 h2 h3 hm2 hm3 pY pZ eY eZ
  by_cases d1 : find X i = find Y i
  · skip
    have hres : pick (find X i) (find Y i) (find Z i) = (some Z[kZ], false) := by
      unfold pick; rw [if_pos d1.symm, fZ]
    rw [hres]
    rw [decide_eq_true d1] at q1
    clear hres d1 fY fZ
    have hbZ := HBZ kZ hZ
    obtain ⟨_, lo, lc, hi, c9⟩ := hbZ.nine hs
    obtain rfl := HAOZ (by omega)
    have HI := Lib.hid hi
    have HN := Lib.hid (fun W (hW : Below w.heap.size w W) => cells9_below c9 hW (cell_lt c9.c0))
    have k0 : (0 : Int) ≤ kZ := by omega
    have k1 : (kZ : Int) < Z.length := by omega
    generalize Z[kZ] = x at *
    clear hi c9 hbZ
    have HS := Lib.hid hs
    clear HBY HBZ HAOY HAOZ hs q2 q3
    go_enter Tryz.func38, Tryz.ntmps38
    go_wp2_with fail
    obtain ⟨W1, HW1⟩ := named (w.alloc (.cells #[.int .i64 0, .int .i64 0, .string ⟨#[]⟩, .int .i64 0, .int .i64 0, .int .i64 0, .slice none 0 0, .int .i64 0, .int .i64 0] 39))
    rw [← HW1.out]
    have hb1 : Below w.heap.size w W1 := by rw [HW1.out]; exact (Below.refl _ w).alloc (Nat.le_refl _) _
    have hz1 : W1.heap.size = w.heap.size + 1 := by rw [HW1.out]; simp
    have br : W1.heap[w.heap.size]? = some (.cells #[.int .i64 0, .int .i64 0, .string ⟨#[]⟩, .int .i64 0, .int .i64 0, .int .i64 0, .slice none 0 0, .int .i64 0, .int .i64 0] 39 (0, 0)) := by rw [HW1.out]; exact World.alloc_heap_new w _
    have hs1 := HS.out.bel hb1
    clear HW1 HS
    refine (cy W1 hs1).mono ?_
    rintro e w' ⟨rfl, rfl⟩
    go_wp2_with fail
    refine (cz W1 hs1).mono ?_
    rintro e w' ⟨rfl, rfl⟩
    clear cy cz
    go_wp2_with fail
    refine (q1 W1 hs1).mono ?_
    rintro e w1 ⟨rfl, hb⟩
    have hz := hb.size
    clear q1
    have hBF := hb1.trans (hb.mono (by omega))
    have br3 := (hb.block _ (by omega)).trans br
    have r0 := blk_cell br3 0
    have r1 := blk_cell br3 1
    have r2 := blk_cell br3 2
    have r3 := blk_cell br3 3
    have r4 := blk_cell br3 4
    have r5 := blk_cell br3 5
    have r6 := blk_cell br3 6
    have r7 := blk_cell br3 7
    have r8 := blk_cell br3 8
    simp only [List.getElem?_toArray, List.getElem?_cons_zero, List.getElem?_cons_succ] at r0 r1 r2 r3 r4 r5 r6 r7 r8
    have rf := blk_free br3
    obtain ⟨c0, c1, c2, c3, c4, c5, c6, c7, c8⟩ := HN.out w1 hBF
    clear HN
    clear br br3 hs1
    go_wp2_with fail
    refine bodyPost_ret (v := .tuple #[.agg (blkCells x (.slice lo x.lab.after.length lc)), .bool true, .bool false]) (by simp [results, Tryz.results38, go_sem, r0, r1, r2, r3, r4, r5, r6, r7, r8]) rfl ?_
    refine ⟨_, rfl, ⟨lo, lc, HI.out, rfl⟩, ?_⟩
    iterate 9 refine Below.setCell ?_ (by simp <;> omega) _
    exact hBF
  · by_cases d2 : find X i = find Z i
    · by_cases d3 : find Y i = find Z i
      · skip
        have hres : pick (find X i) (find Y i) (find Z i) = (some Y[kY], false) := by
          unfold pick; rw [if_neg (fun e => d1 e.symm), if_pos (.inl d2.symm), fY]
        rw [hres]
        rw [decide_eq_false d1] at q1
        rw [decide_eq_true d2] at q2
        rw [decide_eq_true d3] at q3
        clear hres d1 d2 d3 fY fZ
        have hbY := HBY kY hY
        obtain ⟨_, lo, lc, hi, c9⟩ := hbY.nine hs
        obtain rfl := HAOY (by omega)
        have HI := Lib.hid hi
        have HN := Lib.hid (fun W (hW : Below w.heap.size w W) => cells9_below c9 hW (cell_lt c9.c0))
        have k0 : (0 : Int) ≤ kY := by omega
        have k1 : (kY : Int) < Y.length := by omega
        generalize Y[kY] = x at *
        clear hi c9 hbY
        have HS := Lib.hid hs
        clear HBY HBZ HAOY HAOZ hs
        go_enter Tryz.func38, Tryz.ntmps38
        go_wp2_with fail
        obtain ⟨W1, HW1⟩ := named (w.alloc (.cells #[.int .i64 0, .int .i64 0, .string ⟨#[]⟩, .int .i64 0, .int .i64 0, .int .i64 0, .slice none 0 0, .int .i64 0, .int .i64 0] 39))
        rw [← HW1.out]
        have hb1 : Below w.heap.size w W1 := by rw [HW1.out]; exact (Below.refl _ w).alloc (Nat.le_refl _) _
        have hz1 : W1.heap.size = w.heap.size + 1 := by rw [HW1.out]; simp
        have br : W1.heap[w.heap.size]? = some (.cells #[.int .i64 0, .int .i64 0, .string ⟨#[]⟩, .int .i64 0, .int .i64 0, .int .i64 0, .slice none 0 0, .int .i64 0, .int .i64 0] 39 (0, 0)) := by rw [HW1.out]; exact World.alloc_heap_new w _
        have hs1 := HS.out.bel hb1
        clear HW1 HS
        refine (cy W1 hs1).mono ?_
        rintro e w' ⟨rfl, rfl⟩
        go_wp2_with fail
        refine (cz W1 hs1).mono ?_
        rintro e w' ⟨rfl, rfl⟩
        clear cy cz
        go_wp2_with fail
        refine (q1 W1 hs1).mono ?_
        rintro e w1 ⟨rfl, hb⟩
        have hz := hb.size
        go_wp2_with fail
        refine (q2 w1 (hs1.bel hb)).mono ?_
        rintro e w2 ⟨rfl, hb'⟩
        replace hb := hb.trans (hb'.mono hz)
        replace hz := hb.size
        clear hb'
        go_wp2_with fail
        refine (q3 w2 (hs1.bel hb)).mono ?_
        rintro e w3 ⟨rfl, hb'⟩
        replace hb := hb.trans (hb'.mono hz)
        replace hz := hb.size
        clear hb'
        clear q1 q2 q3
        have hBF := hb1.trans (hb.mono (by omega))
        have br3 := (hb.block _ (by omega)).trans br
        have r0 := blk_cell br3 0
        have r1 := blk_cell br3 1
        have r2 := blk_cell br3 2
        have r3 := blk_cell br3 3
        have r4 := blk_cell br3 4
        have r5 := blk_cell br3 5
        have r6 := blk_cell br3 6
        have r7 := blk_cell br3 7
        have r8 := blk_cell br3 8
        simp only [List.getElem?_toArray, List.getElem?_cons_zero, List.getElem?_cons_succ] at r0 r1 r2 r3 r4 r5 r6 r7 r8
        have rf := blk_free br3
        obtain ⟨c0, c1, c2, c3, c4, c5, c6, c7, c8⟩ := HN.out w3 hBF
        clear HN
        clear br br3 hs1
        go_wp2_with fail
        refine bodyPost_ret (v := .tuple #[.agg (blkCells x (.slice lo x.lab.after.length lc)), .bool true, .bool false]) (by simp [results, Tryz.results38, go_sem, r0, r1, r2, r3, r4, r5, r6, r7, r8]) rfl ?_
        refine ⟨_, rfl, ⟨lo, lc, HI.out, rfl⟩, ?_⟩
        iterate 9 refine Below.setCell ?_ (by simp <;> omega) _
        exact hBF
      · skip
        have hres : pick (find X i) (find Y i) (find Z i) = (some Y[kY], false) := by
          unfold pick; rw [if_neg (fun e => d1 e.symm), if_pos (.inl d2.symm), fY]
        rw [hres]
        rw [decide_eq_false d1] at q1
        rw [decide_eq_true d2] at q2
        rw [decide_eq_false d3] at q3
        clear hres d1 d2 d3 fY fZ
        have hbY := HBY kY hY
        obtain ⟨_, lo, lc, hi, c9⟩ := hbY.nine hs
        obtain rfl := HAOY (by omega)
        have HI := Lib.hid hi
        have HN := Lib.hid (fun W (hW : Below w.heap.size w W) => cells9_below c9 hW (cell_lt c9.c0))
        have k0 : (0 : Int) ≤ kY := by omega
        have k1 : (kY : Int) < Y.length := by omega
        generalize Y[kY] = x at *
        clear hi c9 hbY
        have HS := Lib.hid hs
        clear HBY HBZ HAOY HAOZ hs
        go_enter Tryz.func38, Tryz.ntmps38
        go_wp2_with fail
        obtain ⟨W1, HW1⟩ := named (w.alloc (.cells #[.int .i64 0, .int .i64 0, .string ⟨#[]⟩, .int .i64 0, .int .i64 0, .int .i64 0, .slice none 0 0, .int .i64 0, .int .i64 0] 39))
        rw [← HW1.out]
        have hb1 : Below w.heap.size w W1 := by rw [HW1.out]; exact (Below.refl _ w).alloc (Nat.le_refl _) _
        have hz1 : W1.heap.size = w.heap.size + 1 := by rw [HW1.out]; simp
        have br : W1.heap[w.heap.size]? = some (.cells #[.int .i64 0, .int .i64 0, .string ⟨#[]⟩, .int .i64 0, .int .i64 0, .int .i64 0, .slice none 0 0, .int .i64 0, .int .i64 0] 39 (0, 0)) := by rw [HW1.out]; exact World.alloc_heap_new w _
        have hs1 := HS.out.bel hb1
        clear HW1 HS
        refine (cy W1 hs1).mono ?_
        rintro e w' ⟨rfl, rfl⟩
        go_wp2_with fail
        refine (cz W1 hs1).mono ?_
        rintro e w' ⟨rfl, rfl⟩
        clear cy cz
        go_wp2_with fail
        refine (q1 W1 hs1).mono ?_
        rintro e w1 ⟨rfl, hb⟩
        have hz := hb.size
        go_wp2_with fail
        refine (q2 w1 (hs1.bel hb)).mono ?_
        rintro e w2 ⟨rfl, hb'⟩
        replace hb := hb.trans (hb'.mono hz)
        replace hz := hb.size
        clear hb'
        go_wp2_with fail
        refine (q3 w2 (hs1.bel hb)).mono ?_
        rintro e w3 ⟨rfl, hb'⟩
        replace hb := hb.trans (hb'.mono hz)
        replace hz := hb.size
        clear hb'
        clear q1 q2 q3
        have hBF := hb1.trans (hb.mono (by omega))
        have br3 := (hb.block _ (by omega)).trans br
        have r0 := blk_cell br3 0
        have r1 := blk_cell br3 1
        have r2 := blk_cell br3 2
        have r3 := blk_cell br3 3
        have r4 := blk_cell br3 4
        have r5 := blk_cell br3 5
        have r6 := blk_cell br3 6
        have r7 := blk_cell br3 7
        have r8 := blk_cell br3 8
        simp only [List.getElem?_toArray, List.getElem?_cons_zero, List.getElem?_cons_succ] at r0 r1 r2 r3 r4 r5 r6 r7 r8
        have rf := blk_free br3
        obtain ⟨c0, c1, c2, c3, c4, c5, c6, c7, c8⟩ := HN.out w3 hBF
        clear HN
        clear br br3 hs1
        go_wp2_with fail
        refine bodyPost_ret (v := .tuple #[.agg (blkCells x (.slice lo x.lab.after.length lc)), .bool true, .bool false]) (by simp [results, Tryz.results38, go_sem, r0, r1, r2, r3, r4, r5, r6, r7, r8]) rfl ?_
        refine ⟨_, rfl, ⟨lo, lc, HI.out, rfl⟩, ?_⟩
        iterate 9 refine Below.setCell ?_ (by simp <;> omega) _
        exact hBF
    · by_cases d3 : find Y i = find Z i
      · skip
        have hres : pick (find X i) (find Y i) (find Z i) = (some Y[kY], false) := by
          unfold pick; rw [if_neg (fun e => d1 e.symm), if_pos (.inr d3.symm), fY]
        rw [hres]
        rw [decide_eq_false d1] at q1
        rw [decide_eq_false d2] at q2
        rw [decide_eq_true d3] at q3
        clear hres d1 d2 d3 fY fZ
        have hbY := HBY kY hY
        obtain ⟨_, lo, lc, hi, c9⟩ := hbY.nine hs
        obtain rfl := HAOY (by omega)
        have HI := Lib.hid hi
        have HN := Lib.hid (fun W (hW : Below w.heap.size w W) => cells9_below c9 hW (cell_lt c9.c0))
        have k0 : (0 : Int) ≤ kY := by omega
        have k1 : (kY : Int) < Y.length := by omega
        generalize Y[kY] = x at *
        clear hi c9 hbY
        have HS := Lib.hid hs
        clear HBY HBZ HAOY HAOZ hs
        go_enter Tryz.func38, Tryz.ntmps38
        go_wp2_with fail
        obtain ⟨W1, HW1⟩ := named (w.alloc (.cells #[.int .i64 0, .int .i64 0, .string ⟨#[]⟩, .int .i64 0, .int .i64 0, .int .i64 0, .slice none 0 0, .int .i64 0, .int .i64 0] 39))
        rw [← HW1.out]
        have hb1 : Below w.heap.size w W1 := by rw [HW1.out]; exact (Below.refl _ w).alloc (Nat.le_refl _) _
        have hz1 : W1.heap.size = w.heap.size + 1 := by rw [HW1.out]; simp
        have br : W1.heap[w.heap.size]? = some (.cells #[.int .i64 0, .int .i64 0, .string ⟨#[]⟩, .int .i64 0, .int .i64 0, .int .i64 0, .slice none 0 0, .int .i64 0, .int .i64 0] 39 (0, 0)) := by rw [HW1.out]; exact World.alloc_heap_new w _
        have hs1 := HS.out.bel hb1
        clear HW1 HS
        refine (cy W1 hs1).mono ?_
        rintro e w' ⟨rfl, rfl⟩
        go_wp2_with fail
        refine (cz W1 hs1).mono ?_
        rintro e w' ⟨rfl, rfl⟩
        clear cy cz
        go_wp2_with fail
        refine (q1 W1 hs1).mono ?_
        rintro e w1 ⟨rfl, hb⟩
        have hz := hb.size
        go_wp2_with fail
        refine (q2 w1 (hs1.bel hb)).mono ?_
        rintro e w2 ⟨rfl, hb'⟩
        replace hb := hb.trans (hb'.mono hz)
        replace hz := hb.size
        clear hb'
        go_wp2_with fail
        refine (q3 w2 (hs1.bel hb)).mono ?_
        rintro e w3 ⟨rfl, hb'⟩
        replace hb := hb.trans (hb'.mono hz)
        replace hz := hb.size
        clear hb'
        clear q1 q2 q3
        have hBF := hb1.trans (hb.mono (by omega))
        have br3 := (hb.block _ (by omega)).trans br
        have r0 := blk_cell br3 0
        have r1 := blk_cell br3 1
        have r2 := blk_cell br3 2
        have r3 := blk_cell br3 3
        have r4 := blk_cell br3 4
        have r5 := blk_cell br3 5
        have r6 := blk_cell br3 6
        have r7 := blk_cell br3 7
        have r8 := blk_cell br3 8
        simp only [List.getElem?_toArray, List.getElem?_cons_zero, List.getElem?_cons_succ] at r0 r1 r2 r3 r4 r5 r6 r7 r8
        have rf := blk_free br3
        obtain ⟨c0, c1, c2, c3, c4, c5, c6, c7, c8⟩ := HN.out w3 hBF
        clear HN
        clear br br3 hs1
        go_wp2_with fail
        refine bodyPost_ret (v := .tuple #[.agg (blkCells x (.slice lo x.lab.after.length lc)), .bool true, .bool false]) (by simp [results, Tryz.results38, go_sem, r0, r1, r2, r3, r4, r5, r6, r7, r8]) rfl ?_
        refine ⟨_, rfl, ⟨lo, lc, HI.out, rfl⟩, ?_⟩
        iterate 9 refine Below.setCell ?_ (by simp <;> omega) _
        exact hBF
      · skip
        have hres : pick (find X i) (find Y i) (find Z i) = (some Z[kZ], true) := by
          unfold pick; rw [if_neg (fun e => d1 e.symm), if_neg (fun e => e.elim (fun e => d2 e.symm) (fun e => d3 e.symm)), fZ]; rfl
        rw [hres]
        rw [decide_eq_false d1] at q1
        rw [decide_eq_false d2] at q2
        rw [decide_eq_false d3] at q3
        clear hres d1 d2 d3 fY fZ
        have hbZ := HBZ kZ hZ
        obtain ⟨_, lo, lc, hi, c9⟩ := hbZ.nine hs
        obtain rfl := HAOZ (by omega)
        have HI := Lib.hid hi
        have HN := Lib.hid (fun W (hW : Below w.heap.size w W) => cells9_below c9 hW (cell_lt c9.c0))
        have k0 : (0 : Int) ≤ kZ := by omega
        have k1 : (kZ : Int) < Z.length := by omega
        generalize Z[kZ] = x at *
        clear hi c9 hbZ
        have HS := Lib.hid hs
        clear HBY HBZ HAOY HAOZ hs
        go_enter Tryz.func38, Tryz.ntmps38
        go_wp2_with fail
        obtain ⟨W1, HW1⟩ := named (w.alloc (.cells #[.int .i64 0, .int .i64 0, .string ⟨#[]⟩, .int .i64 0, .int .i64 0, .int .i64 0, .slice none 0 0, .int .i64 0, .int .i64 0] 39))
        rw [← HW1.out]
        have hb1 : Below w.heap.size w W1 := by rw [HW1.out]; exact (Below.refl _ w).alloc (Nat.le_refl _) _
        have hz1 : W1.heap.size = w.heap.size + 1 := by rw [HW1.out]; simp
        have br : W1.heap[w.heap.size]? = some (.cells #[.int .i64 0, .int .i64 0, .string ⟨#[]⟩, .int .i64 0, .int .i64 0, .int .i64 0, .slice none 0 0, .int .i64 0, .int .i64 0] 39 (0, 0)) := by rw [HW1.out]; exact World.alloc_heap_new w _
        have hs1 := HS.out.bel hb1
        clear HW1 HS
        refine (cy W1 hs1).mono ?_
        rintro e w' ⟨rfl, rfl⟩
        go_wp2_with fail
        refine (cz W1 hs1).mono ?_
        rintro e w' ⟨rfl, rfl⟩
        clear cy cz
        go_wp2_with fail
        refine (q1 W1 hs1).mono ?_
        rintro e w1 ⟨rfl, hb⟩
        have hz := hb.size
        go_wp2_with fail
        refine (q2 w1 (hs1.bel hb)).mono ?_
        rintro e w2 ⟨rfl, hb'⟩
        replace hb := hb.trans (hb'.mono hz)
        replace hz := hb.size
        clear hb'
        go_wp2_with fail
        refine (q3 w2 (hs1.bel hb)).mono ?_
        rintro e w3 ⟨rfl, hb'⟩
        replace hb := hb.trans (hb'.mono hz)
        replace hz := hb.size
        clear hb'
        clear q1 q2 q3
        have hBF := hb1.trans (hb.mono (by omega))
        have br3 := (hb.block _ (by omega)).trans br
        have r0 := blk_cell br3 0
        have r1 := blk_cell br3 1
        have r2 := blk_cell br3 2
        have r3 := blk_cell br3 3
        have r4 := blk_cell br3 4
        have r5 := blk_cell br3 5
        have r6 := blk_cell br3 6
        have r7 := blk_cell br3 7
        have r8 := blk_cell br3 8
        simp only [List.getElem?_toArray, List.getElem?_cons_zero, List.getElem?_cons_succ] at r0 r1 r2 r3 r4 r5 r6 r7 r8
        have rf := blk_free br3
        obtain ⟨c0, c1, c2, c3, c4, c5, c6, c7, c8⟩ := HN.out w3 hBF
        clear HN
        clear br br3 hs1
        go_wp2_with fail
        refine bodyPost_ret (v := .tuple #[.agg (blkCells x (.slice lo x.lab.after.length lc)), .bool true, .bool true]) (by simp [results, Tryz.results38, go_sem, r0, r1, r2, r3, r4, r5, r6, r7, r8]) rfl ?_
        refine ⟨_, rfl, ⟨lo, lc, HI.out, rfl⟩, ?_⟩
        iterate 9 refine Below.setCell ?_ (by simp <;> omega) _
        exact hBF
set_option maxRecDepth 100000 in
set_option maxHeartbeats 8000000 in
theorem chosenR_10 {mem : Addr → Option Value} {v1 v2 v3 : Value} {X Y Z : List Blk} (h1 : BlksM mem v1 X) (h2 : BlksM mem v2 Y) (h3 : BlksM mem v3 Z) (i : Int) (w : World) (hs : Sees mem w) (pY : i ∈ ids Y) (pZ : i ∉ ids Z) :
    Calls Tryz.prog 38 #[v1, v2, v3, .int .i64 i] w (ChPost mem (pickAt X Y Z i) w) := by
  have cy := fun W hW => atR_any v2 Y h2 i W hW
  have cz := fun W hW => atR_any v3 Z h3 i W hW
  have q1 := fun W hW => equalR_any h1 h2 i W hW
  have q2 := fun W hW => equalR_any h1 h3 i W hW
  have q3 := fun W hW => equalR_any h2 h3 i W hW
  obtain ⟨a1, n1, rfl⟩ := h1.slice
  obtain ⟨ao2, cap2, g2, o2, rfl, _, hm2, HAOY, HBY⟩ := h2.open_
  obtain ⟨ao3, cap3, g3, o3, rfl, _, hm3, HAOZ, HBZ⟩ := h3.open_
  have hlY : (Y.length : Int) ≤ 9223372036854775807 := by unfold maxLen at hm2; omega
  have hlZ : (Z.length : Int) ≤ 9223372036854775807 := by unfold maxLen at hm3; omega
  unfold pickAt
  obtain ⟨kY, hY, eY, fY⟩ := idx_find pY
  obtain ⟨eZ, fZ⟩ := idx_none pZ
  rw [eY] at cy
  rw [eZ] at cz
  clear h1 h2 h3 hm2 hm3 pY pZ eY eZ
  by_cases d1 : find X i = find Y i
  · skip
    have hres : pick (find X i) (find Y i) (find Z i) = (none, false) := by
      unfold pick; rw [if_pos d1.symm, fZ]
    rw [hres]
    rw [decide_eq_true d1] at q1
    clear hres d1 fY fZ
    have HS := Lib.hid hs
    clear HBY HBZ HAOY HAOZ hs q2 q3
    go_enter Tryz.func38, Tryz.ntmps38
    go_wp2_with fail
    obtain ⟨W1, HW1⟩ := named (w.alloc (.cells #[.int .i64 0, .int .i64 0, .string ⟨#[]⟩, .int .i64 0, .int .i64 0, .int .i64 0, .slice none 0 0, .int .i64 0, .int .i64 0] 39))
    rw [← HW1.out]
    have hb1 : Below w.heap.size w W1 := by rw [HW1.out]; exact (Below.refl _ w).alloc (Nat.le_refl _) _
    have hz1 : W1.heap.size = w.heap.size + 1 := by rw [HW1.out]; simp
    have br : W1.heap[w.heap.size]? = some (.cells #[.int .i64 0, .int .i64 0, .string ⟨#[]⟩, .int .i64 0, .int .i64 0, .int .i64 0, .slice none 0 0, .int .i64 0, .int .i64 0] 39 (0, 0)) := by rw [HW1.out]; exact World.alloc_heap_new w _
    have hs1 := HS.out.bel hb1
    clear HW1 HS
    refine (cy W1 hs1).mono ?_
    rintro e w' ⟨rfl, rfl⟩
    go_wp2_with fail
    refine (cz W1 hs1).mono ?_
    rintro e w' ⟨rfl, rfl⟩
    clear cy cz
    go_wp2_with fail
    refine (q1 W1 hs1).mono ?_
    rintro e w1 ⟨rfl, hb⟩
    have hz := hb.size
    clear q1
    have hBF := hb1.trans (hb.mono (by omega))
    have br3 := (hb.block _ (by omega)).trans br
    have r0 := blk_cell br3 0
    have r1 := blk_cell br3 1
    have r2 := blk_cell br3 2
    have r3 := blk_cell br3 3
    have r4 := blk_cell br3 4
    have r5 := blk_cell br3 5
    have r6 := blk_cell br3 6
    have r7 := blk_cell br3 7
    have r8 := blk_cell br3 8
    simp only [List.getElem?_toArray, List.getElem?_cons_zero, List.getElem?_cons_succ] at r0 r1 r2 r3 r4 r5 r6 r7 r8
    have rf := blk_free br3
    clear br br3 hs1
    go_wp2_with fail
    refine bodyPost_ret (v := .tuple #[.agg #[.int .i64 0, .int .i64 0, .string .empty, .int .i64 0, .int .i64 0, .int .i64 0, .slice none 0 0, .int .i64 0, .int .i64 0], .bool false, .bool false]) (by simp [results, Tryz.results38, go_sem, r0, r1, r2, r3, r4, r5, r6, r7, r8]; rfl) rfl ?_
    refine ⟨_, rfl, rfl, ?_⟩
    iterate 9 refine Below.setCell ?_ (by simp <;> omega) _
    exact hBF
  · by_cases d2 : find X i = find Z i
    · by_cases d3 : find Y i = find Z i
      · skip
        have hres : pick (find X i) (find Y i) (find Z i) = (some Y[kY], false) := by
          unfold pick; rw [if_neg (fun e => d1 e.symm), if_pos (.inl d2.symm), fY]
        rw [hres]
        rw [decide_eq_false d1] at q1
        rw [decide_eq_true d2] at q2
        rw [decide_eq_true d3] at q3
        clear hres d1 d2 d3 fY fZ
        have hbY := HBY kY hY
        obtain ⟨_, lo, lc, hi, c9⟩ := hbY.nine hs
        obtain rfl := HAOY (by omega)
        have HI := Lib.hid hi
        have HN := Lib.hid (fun W (hW : Below w.heap.size w W) => cells9_below c9 hW (cell_lt c9.c0))
        have k0 : (0 : Int) ≤ kY := by omega
        have k1 : (kY : Int) < Y.length := by omega
        generalize Y[kY] = x at *
        clear hi c9 hbY
        have HS := Lib.hid hs
        clear HBY HBZ HAOY HAOZ hs
        go_enter Tryz.func38, Tryz.ntmps38
        go_wp2_with fail
        obtain ⟨W1, HW1⟩ := named (w.alloc (.cells #[.int .i64 0, .int .i64 0, .string ⟨#[]⟩, .int .i64 0, .int .i64 0, .int .i64 0, .slice none 0 0, .int .i64 0, .int .i64 0] 39))
        rw [← HW1.out]
        have hb1 : Below w.heap.size w W1 := by rw [HW1.out]; exact (Below.refl _ w).alloc (Nat.le_refl _) _
        have hz1 : W1.heap.size = w.heap.size + 1 := by rw [HW1.out]; simp
        have br : W1.heap[w.heap.size]? = some (.cells #[.int .i64 0, .int .i64 0, .string ⟨#[]⟩, .int .i64 0, .int .i64 0, .int .i64 0, .slice none 0 0, .int .i64 0, .int .i64 0] 39 (0, 0)) := by rw [HW1.out]; exact World.alloc_heap_new w _
        have hs1 := HS.out.bel hb1
        clear HW1 HS
        refine (cy W1 hs1).mono ?_
        rintro e w' ⟨rfl, rfl⟩
        go_wp2_with fail
        refine (cz W1 hs1).mono ?_
        rintro e w' ⟨rfl, rfl⟩
        clear cy cz
        go_wp2_with fail
        refine (q1 W1 hs1).mono ?_
        rintro e w1 ⟨rfl, hb⟩
        have hz := hb.size
        go_wp2_with fail
        refine (q2 w1 (hs1.bel hb)).mono ?_
        rintro e w2 ⟨rfl, hb'⟩
        replace hb := hb.trans (hb'.mono hz)
        replace hz := hb.size
        clear hb'
        go_wp2_with fail
        refine (q3 w2 (hs1.bel hb)).mono ?_
        rintro e w3 ⟨rfl, hb'⟩
        replace hb := hb.trans (hb'.mono hz)
        replace hz := hb.size
        clear hb'
        clear q1 q2 q3
        have hBF := hb1.trans (hb.mono (by omega))
        have br3 := (hb.block _ (by omega)).trans br
        have r0 := blk_cell br3 0
        have r1 := blk_cell br3 1
        have r2 := blk_cell br3 2
        have r3 := blk_cell br3 3
        have r4 := blk_cell br3 4
        have r5 := blk_cell br3 5
        have r6 := blk_cell br3 6
        have r7 := blk_cell br3 7
        have r8 := blk_cell br3 8
        simp only [List.getElem?_toArray, List.getElem?_cons_zero, List.getElem?_cons_succ] at r0 r1 r2 r3 r4 r5 r6 r7 r8
        have rf := blk_free br3
        obtain ⟨c0, c1, c2, c3, c4, c5, c6, c7, c8⟩ := HN.out w3 hBF
        clear HN
        clear br br3 hs1
        go_wp2_with fail
        refine bodyPost_ret (v := .tuple #[.agg (blkCells x (.slice lo x.lab.after.length lc)), .bool true, .bool false]) (by simp [results, Tryz.results38, go_sem, r0, r1, r2, r3, r4, r5, r6, r7, r8]) rfl ?_
        refine ⟨_, rfl, ⟨lo, lc, HI.out, rfl⟩, ?_⟩
        iterate 9 refine Below.setCell ?_ (by simp <;> omega) _
        exact hBF
      · skip
        have hres : pick (find X i) (find Y i) (find Z i) = (some Y[kY], false) := by
          unfold pick; rw [if_neg (fun e => d1 e.symm), if_pos (.inl d2.symm), fY]
        rw [hres]
        rw [decide_eq_false d1] at q1
        rw [decide_eq_true d2] at q2
        rw [decide_eq_false d3] at q3
        clear hres d1 d2 d3 fY fZ
        have hbY := HBY kY hY
        obtain ⟨_, lo, lc, hi, c9⟩ := hbY.nine hs
        obtain rfl := HAOY (by omega)
        have HI := Lib.hid hi
        have HN := Lib.hid (fun W (hW : Below w.heap.size w W) => cells9_below c9 hW (cell_lt c9.c0))
        have k0 : (0 : Int) ≤ kY := by omega
        have k1 : (kY : Int) < Y.length := by omega
        generalize Y[kY] = x at *
        clear hi c9 hbY
        have HS := Lib.hid hs
        clear HBY HBZ HAOY HAOZ hs
        go_enter Tryz.func38, Tryz.ntmps38
        go_wp2_with fail
        obtain ⟨W1, HW1⟩ := named (w.alloc (.cells #[.int .i64 0, .int .i64 0, .string ⟨#[]⟩, .int .i64 0, .int .i64 0, .int .i64 0, .slice none 0 0, .int .i64 0, .int .i64 0] 39))
        rw [← HW1.out]
        have hb1 : Below w.heap.size w W1 := by rw [HW1.out]; exact (Below.refl _ w).alloc (Nat.le_refl _) _
        have hz1 : W1.heap.size = w.heap.size + 1 := by rw [HW1.out]; simp
        have br : W1.heap[w.heap.size]? = some (.cells #[.int .i64 0, .int .i64 0, .string ⟨#[]⟩, .int .i64 0, .int .i64 0, .int .i64 0, .slice none 0 0, .int .i64 0, .int .i64 0] 39 (0, 0)) := by rw [HW1.out]; exact World.alloc_heap_new w _
        have hs1 := HS.out.bel hb1
        clear HW1 HS
        refine (cy W1 hs1).mono ?_
        rintro e w' ⟨rfl, rfl⟩
        go_wp2_with fail
        refine (cz W1 hs1).mono ?_
        rintro e w' ⟨rfl, rfl⟩
        clear cy cz
        go_wp2_with fail
        refine (q1 W1 hs1).mono ?_
        rintro e w1 ⟨rfl, hb⟩
        have hz := hb.size
        go_wp2_with fail
        refine (q2 w1 (hs1.bel hb)).mono ?_
        rintro e w2 ⟨rfl, hb'⟩
        replace hb := hb.trans (hb'.mono hz)
        replace hz := hb.size
        clear hb'
        go_wp2_with fail
        refine (q3 w2 (hs1.bel hb)).mono ?_
        rintro e w3 ⟨rfl, hb'⟩
        replace hb := hb.trans (hb'.mono hz)
        replace hz := hb.size
        clear hb'
        clear q1 q2 q3
        have hBF := hb1.trans (hb.mono (by omega))
        have br3 := (hb.block _ (by omega)).trans br
        have r0 := blk_cell br3 0
        have r1 := blk_cell br3 1
        have r2 := blk_cell br3 2
        have r3 := blk_cell br3 3
        have r4 := blk_cell br3 4
        have r5 := blk_cell br3 5
        have r6 := blk_cell br3 6
        have r7 := blk_cell br3 7
        have r8 := blk_cell br3 8
        simp only [List.getElem?_toArray, List.getElem?_cons_zero, List.getElem?_cons_succ] at r0 r1 r2 r3 r4 r5 r6 r7 r8
        have rf := blk_free br3
        obtain ⟨c0, c1, c2, c3, c4, c5, c6, c7, c8⟩ := HN.out w3 hBF
        clear HN
        clear br br3 hs1
        go_wp2_with fail
        refine bodyPost_ret (v := .tuple #[.agg (blkCells x (.slice lo x.lab.after.length lc)), .bool true, .bool false]) (by simp [results, Tryz.results38, go_sem, r0, r1, r2, r3, r4, r5, r6, r7, r8]) rfl ?_
        refine ⟨_, rfl, ⟨lo, lc, HI.out, rfl⟩, ?_⟩
        iterate 9 refine Below.setCell ?_ (by simp <;> omega) _
        exact hBF
    · by_cases d3 : find Y i = find Z i
      · skip
        have hres : pick (find X i) (find Y i) (find Z i) = (some Y[kY], false) := by
          unfold pick; rw [if_neg (fun e => d1 e.symm), if_pos (.inr d3.symm), fY]
        rw [hres]
        rw [decide_eq_false d1] at q1
        rw [decide_eq_false d2] at q2
        rw [decide_eq_true d3] at q3
        clear hres d1 d2 d3 fY fZ
        have hbY := HBY kY hY
        obtain ⟨_, lo, lc, hi, c9⟩ := hbY.nine hs
        obtain rfl := HAOY (by omega)
        have HI := Lib.hid hi
        have HN := Lib.hid (fun W (hW : Below w.heap.size w W) => cells9_below c9 hW (cell_lt c9.c0))
        have k0 : (0 : Int) ≤ kY := by omega
        have k1 : (kY : Int) < Y.length := by omega
        generalize Y[kY] = x at *
        clear hi c9 hbY
        have HS := Lib.hid hs
        clear HBY HBZ HAOY HAOZ hs
        go_enter Tryz.func38, Tryz.ntmps38
        go_wp2_with fail
        obtain ⟨W1, HW1⟩ := named (w.alloc (.cells #[.int .i64 0, .int .i64 0, .string ⟨#[]⟩, .int .i64 0, .int .i64 0, .int .i64 0, .slice none 0 0, .int .i64 0, .int .i64 0] 39))
        rw [← HW1.out]
        have hb1 : Below w.heap.size w W1 := by rw [HW1.out]; exact (Below.refl _ w).alloc (Nat.le_refl _) _
        have hz1 : W1.heap.size = w.heap.size + 1 := by rw [HW1.out]; simp
        have br : W1.heap[w.heap.size]? = some (.cells #[.int .i64 0, .int .i64 0, .string ⟨#[]⟩, .int .i64 0, .int .i64 0, .int .i64 0, .slice none 0 0, .int .i64 0, .int .i64 0] 39 (0, 0)) := by rw [HW1.out]; exact World.alloc_heap_new w _
        have hs1 := HS.out.bel hb1
        clear HW1 HS
        refine (cy W1 hs1).mono ?_
        rintro e w' ⟨rfl, rfl⟩
        go_wp2_with fail
        refine (cz W1 hs1).mono ?_
        rintro e w' ⟨rfl, rfl⟩
        clear cy cz
        go_wp2_with fail
        refine (q1 W1 hs1).mono ?_
        rintro e w1 ⟨rfl, hb⟩
        have hz := hb.size
        go_wp2_with fail
        refine (q2 w1 (hs1.bel hb)).mono ?_
        rintro e w2 ⟨rfl, hb'⟩
        replace hb := hb.trans (hb'.mono hz)
        replace hz := hb.size
        clear hb'
        go_wp2_with fail
        refine (q3 w2 (hs1.bel hb)).mono ?_
        rintro e w3 ⟨rfl, hb'⟩
        replace hb := hb.trans (hb'.mono hz)
        replace hz := hb.size
        clear hb'
        clear q1 q2 q3
        have hBF := hb1.trans (hb.mono (by omega))
        have br3 := (hb.block _ (by omega)).trans br
        have r0 := blk_cell br3 0
        have r1 := blk_cell br3 1
        have r2 := blk_cell br3 2
        have r3 := blk_cell br3 3
        have r4 := blk_cell br3 4
        have r5 := blk_cell br3 5
        have r6 := blk_cell br3 6
        have r7 := blk_cell br3 7
        have r8 := blk_cell br3 8
        simp only [List.getElem?_toArray, List.getElem?_cons_zero, List.getElem?_cons_succ] at r0 r1 r2 r3 r4 r5 r6 r7 r8
        have rf := blk_free br3
        obtain ⟨c0, c1, c2, c3, c4, c5, c6, c7, c8⟩ := HN.out w3 hBF
        clear HN
        clear br br3 hs1
        go_wp2_with fail
        refine bodyPost_ret (v := .tuple #[.agg (blkCells x (.slice lo x.lab.after.length lc)), .bool true, .bool false]) (by simp [results, Tryz.results38, go_sem, r0, r1, r2, r3, r4, r5, r6, r7, r8]) rfl ?_
        refine ⟨_, rfl, ⟨lo, lc, HI.out, rfl⟩, ?_⟩
        iterate 9 refine Below.setCell ?_ (by simp <;> omega) _
        exact hBF
      · skip
        have hres : pick (find X i) (find Y i) (find Z i) = (some Y[kY], true) := by
          unfold pick; rw [if_neg (fun e => d1 e.symm), if_neg (fun e => e.elim (fun e => d2 e.symm) (fun e => d3 e.symm)), fZ, fY]; rfl
        rw [hres]
        rw [decide_eq_false d1] at q1
        rw [decide_eq_false d2] at q2
        rw [decide_eq_false d3] at q3
        clear hres d1 d2 d3 fY fZ
        have hbY := HBY kY hY
        obtain ⟨_, lo, lc, hi, c9⟩ := hbY.nine hs
        obtain rfl := HAOY (by omega)
        have HI := Lib.hid hi
        have HN := Lib.hid (fun W (hW : Below w.heap.size w W) => cells9_below c9 hW (cell_lt c9.c0))
        have k0 : (0 : Int) ≤ kY := by omega
        have k1 : (kY : Int) < Y.length := by omega
        generalize Y[kY] = x at *
        clear hi c9 hbY
        have HS := Lib.hid hs
        clear HBY HBZ HAOY HAOZ hs
        go_enter Tryz.func38, Tryz.ntmps38
        go_wp2_with fail
        obtain ⟨W1, HW1⟩ := named (w.alloc (.cells #[.int .i64 0, .int .i64 0, .string ⟨#[]⟩, .int .i64 0, .int .i64 0, .int .i64 0, .slice none 0 0, .int .i64 0, .int .i64 0] 39))
        rw [← HW1.out]
        have hb1 : Below w.heap.size w W1 := by rw [HW1.out]; exact (Below.refl _ w).alloc (Nat.le_refl _) _
        have hz1 : W1.heap.size = w.heap.size + 1 := by rw [HW1.out]; simp
        have br : W1.heap[w.heap.size]? = some (.cells #[.int .i64 0, .int .i64 0, .string ⟨#[]⟩, .int .i64 0, .int .i64 0, .int .i64 0, .slice none 0 0, .int .i64 0, .int .i64 0] 39 (0, 0)) := by rw [HW1.out]; exact World.alloc_heap_new w _
        have hs1 := HS.out.bel hb1
        clear HW1 HS
        refine (cy W1 hs1).mono ?_
        rintro e w' ⟨rfl, rfl⟩
        go_wp2_with fail
        refine (cz W1 hs1).mono ?_
        rintro e w' ⟨rfl, rfl⟩
        clear cy cz
        go_wp2_with fail
        refine (q1 W1 hs1).mono ?_
        rintro e w1 ⟨rfl, hb⟩
        have hz := hb.size
        go_wp2_with fail
        refine (q2 w1 (hs1.bel hb)).mono ?_
        rintro e w2 ⟨rfl, hb'⟩
        replace hb := hb.trans (hb'.mono hz)
        replace hz := hb.size
        clear hb'
        go_wp2_with fail
        refine (q3 w2 (hs1.bel hb)).mono ?_
        rintro e w3 ⟨rfl, hb'⟩
        replace hb := hb.trans (hb'.mono hz)
        replace hz := hb.size
        clear hb'
        clear q1 q2 q3
        have hBF := hb1.trans (hb.mono (by omega))
        have br3 := (hb.block _ (by omega)).trans br
        have r0 := blk_cell br3 0
        have r1 := blk_cell br3 1
        have r2 := blk_cell br3 2
        have r3 := blk_cell br3 3
        have r4 := blk_cell br3 4
        have r5 := blk_cell br3 5
        have r6 := blk_cell br3 6
        have r7 := blk_cell br3 7
        have r8 := blk_cell br3 8
        simp only [List.getElem?_toArray, List.getElem?_cons_zero, List.getElem?_cons_succ] at r0 r1 r2 r3 r4 r5 r6 r7 r8
        have rf := blk_free br3
        obtain ⟨c0, c1, c2, c3, c4, c5, c6, c7, c8⟩ := HN.out w3 hBF
        clear HN
        clear br br3 hs1
        go_wp2_with fail
        refine bodyPost_ret (v := .tuple #[.agg (blkCells x (.slice lo x.lab.after.length lc)), .bool true, .bool true]) (by simp [results, Tryz.results38, go_sem, r0, r1, r2, r3, r4, r5, r6, r7, r8]) rfl ?_
        refine ⟨_, rfl, ⟨lo, lc, HI.out, rfl⟩, ?_⟩
        iterate 9 refine Below.setCell ?_ (by simp <;> omega) _
        exact hBF
set_option maxRecDepth 100000 in
set_option maxHeartbeats 8000000 in
theorem chosenR_01 {mem : Addr → Option Value} {v1 v2 v3 : Value} {X Y Z : List Blk} (h1 : BlksM mem v1 X) (h2 : BlksM mem v2 Y) (h3 : BlksM mem v3 Z) (i : Int) (w : World) (hs : Sees mem w) (pY : i ∉ ids Y) (pZ : i ∈ ids Z) :
    Calls Tryz.prog 38 #[v1, v2, v3, .int .i64 i] w (ChPost mem (pickAt X Y Z i) w) := by
  have cy := fun W hW => atR_any v2 Y h2 i W hW
  have cz := fun W hW => atR_any v3 Z h3 i W hW
  have q1 := fun W hW => equalR_any h1 h2 i W hW
  have q2 := fun W hW => equalR_any h1 h3 i W hW
  have q3 := fun W hW => equalR_any h2 h3 i W hW
  obtain ⟨a1, n1, rfl⟩ := h1.slice
  obtain ⟨ao2, cap2, g2, o2, rfl, _, hm2, HAOY, HBY⟩ := h2.open_
  obtain ⟨ao3, cap3, g3, o3, rfl, _, hm3, HAOZ, HBZ⟩ := h3.open_
  have hlY : (Y.length : Int) ≤ 9223372036854775807 := by unfold maxLen at hm2; omega
  have hlZ : (Z.length : Int) ≤ 9223372036854775807 := by unfold maxLen at hm3; omega
  unfold pickAt
  obtain ⟨eY, fY⟩ := idx_none pY
  obtain ⟨kZ, hZ, eZ, fZ⟩ := idx_find pZ
  rw [eY] at cy
  rw [eZ] at cz
  clear h1 h2 h3 hm2 hm3 pY pZ eY eZ
  by_cases d1 : find X i = find Y i
  · skip
    have hres : pick (find X i) (find Y i) (find Z i) = (some Z[kZ], false) := by
      unfold pick; rw [if_pos d1.symm, fZ]
    rw [hres]
    rw [decide_eq_true d1] at q1
    clear hres d1 fY fZ
    have hbZ := HBZ kZ hZ
    obtain ⟨_, lo, lc, hi, c9⟩ := hbZ.nine hs
    obtain rfl := HAOZ (by omega)
    have HI := Lib.hid hi
    have HN := Lib.hid (fun W (hW : Below w.heap.size w W) => cells9_below c9 hW (cell_lt c9.c0))
    have k0 : (0 : Int) ≤ kZ := by omega
    have k1 : (kZ : Int) < Z.length := by omega
    generalize Z[kZ] = x at *
    clear hi c9 hbZ
    have HS := Lib.hid hs
    clear HBY HBZ HAOY HAOZ hs q2 q3
    go_enter Tryz.func38, Tryz.ntmps38
    go_wp2_with fail
    obtain ⟨W1, HW1⟩ := named (w.alloc (.cells #[.int .i64 0, .int .i64 0, .string ⟨#[]⟩, .int .i64 0, .int .i64 0, .int .i64 0, .slice none 0 0, .int .i64 0, .int .i64 0] 39))
    rw [← HW1.out]
    have hb1 : Below w.heap.size w W1 := by rw [HW1.out]; exact (Below.refl _ w).alloc (Nat.le_refl _) _
    have hz1 : W1.heap.size = w.heap.size + 1 := by rw [HW1.out]; simp
    have br : W1.heap[w.heap.size]? = some (.cells #[.int .i64 0, .int .i64 0, .string ⟨#[]⟩, .int .i64 0, .int .i64 0, .int .i64 0, .slice none 0 0, .int .i64 0, .int .i64 0] 39 (0, 0)) := by rw [HW1.out]; exact World.alloc_heap_new w _
    have hs1 := HS.out.bel hb1
    clear HW1 HS
    refine (cy W1 hs1).mono ?_
    rintro e w' ⟨rfl, rfl⟩
    go_wp2_with fail
    refine (cz W1 hs1).mono ?_
    rintro e w' ⟨rfl, rfl⟩
    clear cy cz
    go_wp2_with fail
    refine (q1 W1 hs1).mono ?_
    rintro e w1 ⟨rfl, hb⟩
    have hz := hb.size
    clear q1
    have hBF := hb1.trans (hb.mono (by omega))
    have br3 := (hb.block _ (by omega)).trans br
    have r0 := blk_cell br3 0
    have r1 := blk_cell br3 1
    have r2 := blk_cell br3 2
    have r3 := blk_cell br3 3
    have r4 := blk_cell br3 4
    have r5 := blk_cell br3 5
    have r6 := blk_cell br3 6
    have r7 := blk_cell br3 7
    have r8 := blk_cell br3 8
    simp only [List.getElem?_toArray, List.getElem?_cons_zero, List.getElem?_cons_succ] at r0 r1 r2 r3 r4 r5 r6 r7 r8
    have rf := blk_free br3
    obtain ⟨c0, c1, c2, c3, c4, c5, c6, c7, c8⟩ := HN.out w1 hBF
    clear HN
    clear br br3 hs1
    go_wp2_with fail
    refine bodyPost_ret (v := .tuple #[.agg (blkCells x (.slice lo x.lab.after.length lc)), .bool true, .bool false]) (by simp [results, Tryz.results38, go_sem, r0, r1, r2, r3, r4, r5, r6, r7, r8]) rfl ?_
    refine ⟨_, rfl, ⟨lo, lc, HI.out, rfl⟩, ?_⟩
    iterate 9 refine Below.setCell ?_ (by simp <;> omega) _
    exact hBF
  · by_cases d2 : find X i = find Z i
    · by_cases d3 : find Y i = find Z i
      · skip
        have hres : pick (find X i) (find Y i) (find Z i) = (none, false) := by
          unfold pick; rw [if_neg (fun e => d1 e.symm), if_pos (.inl d2.symm), fY]
        rw [hres]
        rw [decide_eq_false d1] at q1
        rw [decide_eq_true d2] at q2
        rw [decide_eq_true d3] at q3
        clear hres d1 d2 d3 fY fZ
        have HS := Lib.hid hs
        clear HBY HBZ HAOY HAOZ hs
        go_enter Tryz.func38, Tryz.ntmps38
        go_wp2_with fail
        obtain ⟨W1, HW1⟩ := named (w.alloc (.cells #[.int .i64 0, .int .i64 0, .string ⟨#[]⟩, .int .i64 0, .int .i64 0, .int .i64 0, .slice none 0 0, .int .i64 0, .int .i64 0] 39))
        rw [← HW1.out]
        have hb1 : Below w.heap.size w W1 := by rw [HW1.out]; exact (Below.refl _ w).alloc (Nat.le_refl _) _
        have hz1 : W1.heap.size = w.heap.size + 1 := by rw [HW1.out]; simp
        have br : W1.heap[w.heap.size]? = some (.cells #[.int .i64 0, .int .i64 0, .string ⟨#[]⟩, .int .i64 0, .int .i64 0, .int .i64 0, .slice none 0 0, .int .i64 0, .int .i64 0] 39 (0, 0)) := by rw [HW1.out]; exact World.alloc_heap_new w _
        have hs1 := HS.out.bel hb1
        clear HW1 HS
        refine (cy W1 hs1).mono ?_
        rintro e w' ⟨rfl, rfl⟩
        go_wp2_with fail
        refine (cz W1 hs1).mono ?_
        rintro e w' ⟨rfl, rfl⟩
        clear cy cz
        go_wp2_with fail
        refine (q1 W1 hs1).mono ?_
        rintro e w1 ⟨rfl, hb⟩
        have hz := hb.size
        go_wp2_with fail
        refine (q2 w1 (hs1.bel hb)).mono ?_
        rintro e w2 ⟨rfl, hb'⟩
        replace hb := hb.trans (hb'.mono hz)
        replace hz := hb.size
        clear hb'
        go_wp2_with fail
        refine (q3 w2 (hs1.bel hb)).mono ?_
        rintro e w3 ⟨rfl, hb'⟩
        replace hb := hb.trans (hb'.mono hz)
        replace hz := hb.size
        clear hb'
        clear q1 q2 q3
        have hBF := hb1.trans (hb.mono (by omega))
        have br3 := (hb.block _ (by omega)).trans br
        have r0 := blk_cell br3 0
        have r1 := blk_cell br3 1
        have r2 := blk_cell br3 2
        have r3 := blk_cell br3 3
        have r4 := blk_cell br3 4
        have r5 := blk_cell br3 5
        have r6 := blk_cell br3 6
        have r7 := blk_cell br3 7
        have r8 := blk_cell br3 8
        simp only [List.getElem?_toArray, List.getElem?_cons_zero, List.getElem?_cons_succ] at r0 r1 r2 r3 r4 r5 r6 r7 r8
        have rf := blk_free br3
        clear br br3 hs1
        go_wp2_with fail
        refine bodyPost_ret (v := .tuple #[.agg #[.int .i64 0, .int .i64 0, .string .empty, .int .i64 0, .int .i64 0, .int .i64 0, .slice none 0 0, .int .i64 0, .int .i64 0], .bool false, .bool false]) (by simp [results, Tryz.results38, go_sem, r0, r1, r2, r3, r4, r5, r6, r7, r8]; rfl) rfl ?_
        refine ⟨_, rfl, rfl, ?_⟩
        iterate 9 refine Below.setCell ?_ (by simp <;> omega) _
        exact hBF
      · skip
        have hres : pick (find X i) (find Y i) (find Z i) = (none, false) := by
          unfold pick; rw [if_neg (fun e => d1 e.symm), if_pos (.inl d2.symm), fY]
        rw [hres]
        rw [decide_eq_false d1] at q1
        rw [decide_eq_true d2] at q2
        rw [decide_eq_false d3] at q3
        clear hres d1 d2 d3 fY fZ
        have HS := Lib.hid hs
        clear HBY HBZ HAOY HAOZ hs
        go_enter Tryz.func38, Tryz.ntmps38
        go_wp2_with fail
        obtain ⟨W1, HW1⟩ := named (w.alloc (.cells #[.int .i64 0, .int .i64 0, .string ⟨#[]⟩, .int .i64 0, .int .i64 0, .int .i64 0, .slice none 0 0, .int .i64 0, .int .i64 0] 39))
        rw [← HW1.out]
        have hb1 : Below w.heap.size w W1 := by rw [HW1.out]; exact (Below.refl _ w).alloc (Nat.le_refl _) _
        have hz1 : W1.heap.size = w.heap.size + 1 := by rw [HW1.out]; simp
        have br : W1.heap[w.heap.size]? = some (.cells #[.int .i64 0, .int .i64 0, .string ⟨#[]⟩, .int .i64 0, .int .i64 0, .int .i64 0, .slice none 0 0, .int .i64 0, .int .i64 0] 39 (0, 0)) := by rw [HW1.out]; exact World.alloc_heap_new w _
        have hs1 := HS.out.bel hb1
        clear HW1 HS
        refine (cy W1 hs1).mono ?_
        rintro e w' ⟨rfl, rfl⟩
        go_wp2_with fail
        refine (cz W1 hs1).mono ?_
        rintro e w' ⟨rfl, rfl⟩
        clear cy cz
        go_wp2_with fail
        refine (q1 W1 hs1).mono ?_
        rintro e w1 ⟨rfl, hb⟩
        have hz := hb.size
        go_wp2_with fail
        refine (q2 w1 (hs1.bel hb)).mono ?_
        rintro e w2 ⟨rfl, hb'⟩
        replace hb := hb.trans (hb'.mono hz)
        replace hz := hb.size
        clear hb'
        go_wp2_with fail
        refine (q3 w2 (hs1.bel hb)).mono ?_
        rintro e w3 ⟨rfl, hb'⟩
        replace hb := hb.trans (hb'.mono hz)
        replace hz := hb.size
        clear hb'
        clear q1 q2 q3
        have hBF := hb1.trans (hb.mono (by omega))
        have br3 := (hb.block _ (by omega)).trans br
        have r0 := blk_cell br3 0
        have r1 := blk_cell br3 1
        have r2 := blk_cell br3 2
        have r3 := blk_cell br3 3
        have r4 := blk_cell br3 4
        have r5 := blk_cell br3 5
        have r6 := blk_cell br3 6
        have r7 := blk_cell br3 7
        have r8 := blk_cell br3 8
        simp only [List.getElem?_toArray, List.getElem?_cons_zero, List.getElem?_cons_succ] at r0 r1 r2 r3 r4 r5 r6 r7 r8
        have rf := blk_free br3
        clear br br3 hs1
        go_wp2_with fail
        refine bodyPost_ret (v := .tuple #[.agg #[.int .i64 0, .int .i64 0, .string .empty, .int .i64 0, .int .i64 0, .int .i64 0, .slice none 0 0, .int .i64 0, .int .i64 0], .bool false, .bool false]) (by simp [results, Tryz.results38, go_sem, r0, r1, r2, r3, r4, r5, r6, r7, r8]; rfl) rfl ?_
        refine ⟨_, rfl, rfl, ?_⟩
        iterate 9 refine Below.setCell ?_ (by simp <;> omega) _
        exact hBF
    · by_cases d3 : find Y i = find Z i
      · skip
        have hres : pick (find X i) (find Y i) (find Z i) = (none, false) := by
          unfold pick; rw [if_neg (fun e => d1 e.symm), if_pos (.inr d3.symm), fY]
        rw [hres]
        rw [decide_eq_false d1] at q1
        rw [decide_eq_false d2] at q2
        rw [decide_eq_true d3] at q3
        clear hres d1 d2 d3 fY fZ
        have HS := Lib.hid hs
        clear HBY HBZ HAOY HAOZ hs
        go_enter Tryz.func38, Tryz.ntmps38
        go_wp2_with fail
        obtain ⟨W1, HW1⟩ := named (w.alloc (.cells #[.int .i64 0, .int .i64 0, .string ⟨#[]⟩, .int .i64 0, .int .i64 0, .int .i64 0, .slice none 0 0, .int .i64 0, .int .i64 0] 39))
        rw [← HW1.out]
        have hb1 : Below w.heap.size w W1 := by rw [HW1.out]; exact (Below.refl _ w).alloc (Nat.le_refl _) _
        have hz1 : W1.heap.size = w.heap.size + 1 := by rw [HW1.out]; simp
        have br : W1.heap[w.heap.size]? = some (.cells #[.int .i64 0, .int .i64 0, .string ⟨#[]⟩, .int .i64 0, .int .i64 0, .int .i64 0, .slice none 0 0, .int .i64 0, .int .i64 0] 39 (0, 0)) := by rw [HW1.out]; exact World.alloc_heap_new w _
        have hs1 := HS.out.bel hb1
        clear HW1 HS
        refine (cy W1 hs1).mono ?_
        rintro e w' ⟨rfl, rfl⟩
        go_wp2_with fail
        refine (cz W1 hs1).mono ?_
        rintro e w' ⟨rfl, rfl⟩
        clear cy cz
        go_wp2_with fail
        refine (q1 W1 hs1).mono ?_
        rintro e w1 ⟨rfl, hb⟩
        have hz := hb.size
        go_wp2_with fail
        refine (q2 w1 (hs1.bel hb)).mono ?_
        rintro e w2 ⟨rfl, hb'⟩
        replace hb := hb.trans (hb'.mono hz)
        replace hz := hb.size
        clear hb'
        go_wp2_with fail
        refine (q3 w2 (hs1.bel hb)).mono ?_
        rintro e w3 ⟨rfl, hb'⟩
        replace hb := hb.trans (hb'.mono hz)
        replace hz := hb.size
        clear hb'
        clear q1 q2 q3
        have hBF := hb1.trans (hb.mono (by omega))
        have br3 := (hb.block _ (by omega)).trans br
        have r0 := blk_cell br3 0
        have r1 := blk_cell br3 1
        have r2 := blk_cell br3 2
        have r3 := blk_cell br3 3
        have r4 := blk_cell br3 4
        have r5 := blk_cell br3 5
        have r6 := blk_cell br3 6
        have r7 := blk_cell br3 7
        have r8 := blk_cell br3 8
        simp only [List.getElem?_toArray, List.getElem?_cons_zero, List.getElem?_cons_succ] at r0 r1 r2 r3 r4 r5 r6 r7 r8
        have rf := blk_free br3
        clear br br3 hs1
        go_wp2_with fail
        refine bodyPost_ret (v := .tuple #[.agg #[.int .i64 0, .int .i64 0, .string .empty, .int .i64 0, .int .i64 0, .int .i64 0, .slice none 0 0, .int .i64 0, .int .i64 0], .bool false, .bool false]) (by simp [results, Tryz.results38, go_sem, r0, r1, r2, r3, r4, r5, r6, r7, r8]; rfl) rfl ?_
        refine ⟨_, rfl, rfl, ?_⟩
        iterate 9 refine Below.setCell ?_ (by simp <;> omega) _
        exact hBF
      · skip
        have hres : pick (find X i) (find Y i) (find Z i) = (some Z[kZ], true) := by
          unfold pick; rw [if_neg (fun e => d1 e.symm), if_neg (fun e => e.elim (fun e => d2 e.symm) (fun e => d3 e.symm)), fZ]; rfl
        rw [hres]
        rw [decide_eq_false d1] at q1
        rw [decide_eq_false d2] at q2
        rw [decide_eq_false d3] at q3
        clear hres d1 d2 d3 fY fZ
        have hbZ := HBZ kZ hZ
        obtain ⟨_, lo, lc, hi, c9⟩ := hbZ.nine hs
        obtain rfl := HAOZ (by omega)
        have HI := Lib.hid hi
        have HN := Lib.hid (fun W (hW : Below w.heap.size w W) => cells9_below c9 hW (cell_lt c9.c0))
        have k0 : (0 : Int) ≤ kZ := by omega
        have k1 : (kZ : Int) < Z.length := by omega
        generalize Z[kZ] = x at *
        clear hi c9 hbZ
        have HS := Lib.hid hs
        clear HBY HBZ HAOY HAOZ hs
        go_enter Tryz.func38, Tryz.ntmps38
        go_wp2_with fail
        obtain ⟨W1, HW1⟩ := named (w.alloc (.cells #[.int .i64 0, .int .i64 0, .string ⟨#[]⟩, .int .i64 0, .int .i64 0, .int .i64 0, .slice none 0 0, .int .i64 0, .int .i64 0] 39))
        rw [← HW1.out]
        have hb1 : Below w.heap.size w W1 := by rw [HW1.out]; exact (Below.refl _ w).alloc (Nat.le_refl _) _
        have hz1 : W1.heap.size = w.heap.size + 1 := by rw [HW1.out]; simp
        have br : W1.heap[w.heap.size]? = some (.cells #[.int .i64 0, .int .i64 0, .string ⟨#[]⟩, .int .i64 0, .int .i64 0, .int .i64 0, .slice none 0 0, .int .i64 0, .int .i64 0] 39 (0, 0)) := by rw [HW1.out]; exact World.alloc_heap_new w _
        have hs1 := HS.out.bel hb1
        clear HW1 HS
        refine (cy W1 hs1).mono ?_
        rintro e w' ⟨rfl, rfl⟩
        go_wp2_with fail
        refine (cz W1 hs1).mono ?_
        rintro e w' ⟨rfl, rfl⟩
        clear cy cz
        go_wp2_with fail
        refine (q1 W1 hs1).mono ?_
        rintro e w1 ⟨rfl, hb⟩
        have hz := hb.size
        go_wp2_with fail
        refine (q2 w1 (hs1.bel hb)).mono ?_
        rintro e w2 ⟨rfl, hb'⟩
        replace hb := hb.trans (hb'.mono hz)
        replace hz := hb.size
        clear hb'
        go_wp2_with fail
        refine (q3 w2 (hs1.bel hb)).mono ?_
        rintro e w3 ⟨rfl, hb'⟩
        replace hb := hb.trans (hb'.mono hz)
        replace hz := hb.size
        clear hb'
        clear q1 q2 q3
        have hBF := hb1.trans (hb.mono (by omega))
        have br3 := (hb.block _ (by omega)).trans br
        have r0 := blk_cell br3 0
        have r1 := blk_cell br3 1
        have r2 := blk_cell br3 2
        have r3 := blk_cell br3 3
        have r4 := blk_cell br3 4
        have r5 := blk_cell br3 5
        have r6 := blk_cell br3 6
        have r7 := blk_cell br3 7
        have r8 := blk_cell br3 8
        simp only [List.getElem?_toArray, List.getElem?_cons_zero, List.getElem?_cons_succ] at r0 r1 r2 r3 r4 r5 r6 r7 r8
        have rf := blk_free br3
        obtain ⟨c0, c1, c2, c3, c4, c5, c6, c7, c8⟩ := HN.out w3 hBF
        clear HN
        clear br br3 hs1
        go_wp2_with fail
        refine bodyPost_ret (v := .tuple #[.agg (blkCells x (.slice lo x.lab.after.length lc)), .bool true, .bool true]) (by simp [results, Tryz.results38, go_sem, r0, r1, r2, r3, r4, r5, r6, r7, r8]) rfl ?_
        refine ⟨_, rfl, ⟨lo, lc, HI.out, rfl⟩, ?_⟩
        iterate 9 refine Below.setCell ?_ (by simp <;> omega) _
        exact hBF
set_option maxRecDepth 100000 in
set_option maxHeartbeats 8000000 in
theorem chosenR_00 {mem : Addr → Option Value} {v1 v2 v3 : Value} {X Y Z : List Blk} (h1 : BlksM mem v1 X) (h2 : BlksM mem v2 Y) (h3 : BlksM mem v3 Z) (i : Int) (w : World) (hs : Sees mem w) (pY : i ∉ ids Y) (pZ : i ∉ ids Z) :
    Calls Tryz.prog 38 #[v1, v2, v3, .int .i64 i] w (ChPost mem (pickAt X Y Z i) w) := by
  have cy := fun W hW => atR_any v2 Y h2 i W hW
  have cz := fun W hW => atR_any v3 Z h3 i W hW
  have q1 := fun W hW => equalR_any h1 h2 i W hW
  have q2 := fun W hW => equalR_any h1 h3 i W hW
  have q3 := fun W hW => equalR_any h2 h3 i W hW
  obtain ⟨a1, n1, rfl⟩ := h1.slice
  obtain ⟨ao2, cap2, g2, o2, rfl, _, hm2, HAOY, HBY⟩ := h2.open_
  obtain ⟨ao3, cap3, g3, o3, rfl, _, hm3, HAOZ, HBZ⟩ := h3.open_
  have hlY : (Y.length : Int) ≤ 9223372036854775807 := by unfold maxLen at hm2; omega
  have hlZ : (Z.length : Int) ≤ 9223372036854775807 := by unfold maxLen at hm3; omega
  unfold pickAt
  obtain ⟨eY, fY⟩ := idx_none pY
  obtain ⟨eZ, fZ⟩ := idx_none pZ
  rw [eY] at cy
  rw [eZ] at cz
  clear h1 h2 h3 hm2 hm3 pY pZ eY eZ
  by_cases d1 : find X i = find Y i
  · skip
    have hres : pick (find X i) (find Y i) (find Z i) = (none, false) := by
      unfold pick; rw [if_pos d1.symm, fZ]
    rw [hres]
    rw [decide_eq_true d1] at q1
    clear hres d1 fY fZ
    have HS := Lib.hid hs
    clear HBY HBZ HAOY HAOZ hs q2 q3
    go_enter Tryz.func38, Tryz.ntmps38
    go_wp2_with fail
    obtain ⟨W1, HW1⟩ := named (w.alloc (.cells #[.int .i64 0, .int .i64 0, .string ⟨#[]⟩, .int .i64 0, .int .i64 0, .int .i64 0, .slice none 0 0, .int .i64 0, .int .i64 0] 39))
    rw [← HW1.out]
    have hb1 : Below w.heap.size w W1 := by rw [HW1.out]; exact (Below.refl _ w).alloc (Nat.le_refl _) _
    have hz1 : W1.heap.size = w.heap.size + 1 := by rw [HW1.out]; simp
    have br : W1.heap[w.heap.size]? = some (.cells #[.int .i64 0, .int .i64 0, .string ⟨#[]⟩, .int .i64 0, .int .i64 0, .int .i64 0, .slice none 0 0, .int .i64 0, .int .i64 0] 39 (0, 0)) := by rw [HW1.out]; exact World.alloc_heap_new w _
    have hs1 := HS.out.bel hb1
    clear HW1 HS
    refine (cy W1 hs1).mono ?_
    rintro e w' ⟨rfl, rfl⟩
    go_wp2_with fail
    refine (cz W1 hs1).mono ?_
    rintro e w' ⟨rfl, rfl⟩
    clear cy cz
    go_wp2_with fail
    refine (q1 W1 hs1).mono ?_
    rintro e w1 ⟨rfl, hb⟩
    have hz := hb.size
    clear q1
    have hBF := hb1.trans (hb.mono (by omega))
    have br3 := (hb.block _ (by omega)).trans br
    have r0 := blk_cell br3 0
    have r1 := blk_cell br3 1
    have r2 := blk_cell br3 2
    have r3 := blk_cell br3 3
    have r4 := blk_cell br3 4
    have r5 := blk_cell br3 5
    have r6 := blk_cell br3 6
    have r7 := blk_cell br3 7
    have r8 := blk_cell br3 8
    simp only [List.getElem?_toArray, List.getElem?_cons_zero, List.getElem?_cons_succ] at r0 r1 r2 r3 r4 r5 r6 r7 r8
    have rf := blk_free br3
    clear br br3 hs1
    go_wp2_with fail
    refine bodyPost_ret (v := .tuple #[.agg #[.int .i64 0, .int .i64 0, .string .empty, .int .i64 0, .int .i64 0, .int .i64 0, .slice none 0 0, .int .i64 0, .int .i64 0], .bool false, .bool false]) (by simp [results, Tryz.results38, go_sem, r0, r1, r2, r3, r4, r5, r6, r7, r8]; rfl) rfl ?_
    refine ⟨_, rfl, rfl, ?_⟩
    iterate 9 refine Below.setCell ?_ (by simp <;> omega) _
    exact hBF
  · by_cases d2 : find X i = find Z i
    · by_cases d3 : find Y i = find Z i
      · skip
        have hres : pick (find X i) (find Y i) (find Z i) = (none, false) := by
          unfold pick; rw [if_neg (fun e => d1 e.symm), if_pos (.inl d2.symm), fY]
        rw [hres]
        rw [decide_eq_false d1] at q1
        rw [decide_eq_true d2] at q2
        rw [decide_eq_true d3] at q3
        clear hres d1 d2 d3 fY fZ
        have HS := Lib.hid hs
        clear HBY HBZ HAOY HAOZ hs
        go_enter Tryz.func38, Tryz.ntmps38
        go_wp2_with fail
        obtain ⟨W1, HW1⟩ := named (w.alloc (.cells #[.int .i64 0, .int .i64 0, .string ⟨#[]⟩, .int .i64 0, .int .i64 0, .int .i64 0, .slice none 0 0, .int .i64 0, .int .i64 0] 39))
        rw [← HW1.out]
        have hb1 : Below w.heap.size w W1 := by rw [HW1.out]; exact (Below.refl _ w).alloc (Nat.le_refl _) _
        have hz1 : W1.heap.size = w.heap.size + 1 := by rw [HW1.out]; simp
        have br : W1.heap[w.heap.size]? = some (.cells #[.int .i64 0, .int .i64 0, .string ⟨#[]⟩, .int .i64 0, .int .i64 0, .int .i64 0, .slice none 0 0, .int .i64 0, .int .i64 0] 39 (0, 0)) := by rw [HW1.out]; exact World.alloc_heap_new w _
        have hs1 := HS.out.bel hb1
        clear HW1 HS
        refine (cy W1 hs1).mono ?_
        rintro e w' ⟨rfl, rfl⟩
        go_wp2_with fail
        refine (cz W1 hs1).mono ?_
        rintro e w' ⟨rfl, rfl⟩
        clear cy cz
        go_wp2_with fail
        refine (q1 W1 hs1).mono ?_
        rintro e w1 ⟨rfl, hb⟩
        have hz := hb.size
        go_wp2_with fail
        refine (q2 w1 (hs1.bel hb)).mono ?_
        rintro e w2 ⟨rfl, hb'⟩
        replace hb := hb.trans (hb'.mono hz)
        replace hz := hb.size
        clear hb'
        go_wp2_with fail
        refine (q3 w2 (hs1.bel hb)).mono ?_
        rintro e w3 ⟨rfl, hb'⟩
        replace hb := hb.trans (hb'.mono hz)
        replace hz := hb.size
        clear hb'
        clear q1 q2 q3
        have hBF := hb1.trans (hb.mono (by omega))
        have br3 := (hb.block _ (by omega)).trans br
        have r0 := blk_cell br3 0
        have r1 := blk_cell br3 1
        have r2 := blk_cell br3 2
        have r3 := blk_cell br3 3
        have r4 := blk_cell br3 4
        have r5 := blk_cell br3 5
        have r6 := blk_cell br3 6
        have r7 := blk_cell br3 7
        have r8 := blk_cell br3 8
        simp only [List.getElem?_toArray, List.getElem?_cons_zero, List.getElem?_cons_succ] at r0 r1 r2 r3 r4 r5 r6 r7 r8
        have rf := blk_free br3
        clear br br3 hs1
        go_wp2_with fail
        refine bodyPost_ret (v := .tuple #[.agg #[.int .i64 0, .int .i64 0, .string .empty, .int .i64 0, .int .i64 0, .int .i64 0, .slice none 0 0, .int .i64 0, .int .i64 0], .bool false, .bool false]) (by simp [results, Tryz.results38, go_sem, r0, r1, r2, r3, r4, r5, r6, r7, r8]; rfl) rfl ?_
        refine ⟨_, rfl, rfl, ?_⟩
        iterate 9 refine Below.setCell ?_ (by simp <;> omega) _
        exact hBF
      · skip
        have hres : pick (find X i) (find Y i) (find Z i) = (none, false) := by
          unfold pick; rw [if_neg (fun e => d1 e.symm), if_pos (.inl d2.symm), fY]
        rw [hres]
        rw [decide_eq_false d1] at q1
        rw [decide_eq_true d2] at q2
        rw [decide_eq_false d3] at q3
        clear hres d1 d2 d3 fY fZ
        have HS := Lib.hid hs
        clear HBY HBZ HAOY HAOZ hs
        go_enter Tryz.func38, Tryz.ntmps38
        go_wp2_with fail
        obtain ⟨W1, HW1⟩ := named (w.alloc (.cells #[.int .i64 0, .int .i64 0, .string ⟨#[]⟩, .int .i64 0, .int .i64 0, .int .i64 0, .slice none 0 0, .int .i64 0, .int .i64 0] 39))
        rw [← HW1.out]
        have hb1 : Below w.heap.size w W1 := by rw [HW1.out]; exact (Below.refl _ w).alloc (Nat.le_refl _) _
        have hz1 : W1.heap.size = w.heap.size + 1 := by rw [HW1.out]; simp
        have br : W1.heap[w.heap.size]? = some (.cells #[.int .i64 0, .int .i64 0, .string ⟨#[]⟩, .int .i64 0, .int .i64 0, .int .i64 0, .slice none 0 0, .int .i64 0, .int .i64 0] 39 (0, 0)) := by rw [HW1.out]; exact World.alloc_heap_new w _
        have hs1 := HS.out.bel hb1
        clear HW1 HS
        refine (cy W1 hs1).mono ?_
        rintro e w' ⟨rfl, rfl⟩
        go_wp2_with fail
        refine (cz W1 hs1).mono ?_
        rintro e w' ⟨rfl, rfl⟩
        clear cy cz
        go_wp2_with fail
        refine (q1 W1 hs1).mono ?_
        rintro e w1 ⟨rfl, hb⟩
        have hz := hb.size
        go_wp2_with fail
        refine (q2 w1 (hs1.bel hb)).mono ?_
        rintro e w2 ⟨rfl, hb'⟩
        replace hb := hb.trans (hb'.mono hz)
        replace hz := hb.size
        clear hb'
        go_wp2_with fail
        refine (q3 w2 (hs1.bel hb)).mono ?_
        rintro e w3 ⟨rfl, hb'⟩
        replace hb := hb.trans (hb'.mono hz)
        replace hz := hb.size
        clear hb'
        clear q1 q2 q3
        have hBF := hb1.trans (hb.mono (by omega))
        have br3 := (hb.block _ (by omega)).trans br
        have r0 := blk_cell br3 0
        have r1 := blk_cell br3 1
        have r2 := blk_cell br3 2
        have r3 := blk_cell br3 3
        have r4 := blk_cell br3 4
        have r5 := blk_cell br3 5
        have r6 := blk_cell br3 6
        have r7 := blk_cell br3 7
        have r8 := blk_cell br3 8
        simp only [List.getElem?_toArray, List.getElem?_cons_zero, List.getElem?_cons_succ] at r0 r1 r2 r3 r4 r5 r6 r7 r8
        have rf := blk_free br3
        clear br br3 hs1
        go_wp2_with fail
        refine bodyPost_ret (v := .tuple #[.agg #[.int .i64 0, .int .i64 0, .string .empty, .int .i64 0, .int .i64 0, .int .i64 0, .slice none 0 0, .int .i64 0, .int .i64 0], .bool false, .bool false]) (by simp [results, Tryz.results38, go_sem, r0, r1, r2, r3, r4, r5, r6, r7, r8]; rfl) rfl ?_
        refine ⟨_, rfl, rfl, ?_⟩
        iterate 9 refine Below.setCell ?_ (by simp <;> omega) _
        exact hBF
    · by_cases d3 : find Y i = find Z i
      · skip
        have hres : pick (find X i) (find Y i) (find Z i) = (none, false) := by
          unfold pick; rw [if_neg (fun e => d1 e.symm), if_pos (.inr d3.symm), fY]
        rw [hres]
        rw [decide_eq_false d1] at q1
        rw [decide_eq_false d2] at q2
        rw [decide_eq_true d3] at q3
        clear hres d1 d2 d3 fY fZ
        have HS := Lib.hid hs
        clear HBY HBZ HAOY HAOZ hs
        go_enter Tryz.func38, Tryz.ntmps38
        go_wp2_with fail
        obtain ⟨W1, HW1⟩ := named (w.alloc (.cells #[.int .i64 0, .int .i64 0, .string ⟨#[]⟩, .int .i64 0, .int .i64 0, .int .i64 0, .slice none 0 0, .int .i64 0, .int .i64 0] 39))
        rw [← HW1.out]
        have hb1 : Below w.heap.size w W1 := by rw [HW1.out]; exact (Below.refl _ w).alloc (Nat.le_refl _) _
        have hz1 : W1.heap.size = w.heap.size + 1 := by rw [HW1.out]; simp
        have br : W1.heap[w.heap.size]? = some (.cells #[.int .i64 0, .int .i64 0, .string ⟨#[]⟩, .int .i64 0, .int .i64 0, .int .i64 0, .slice none 0 0, .int .i64 0, .int .i64 0] 39 (0, 0)) := by rw [HW1.out]; exact World.alloc_heap_new w _
        have hs1 := HS.out.bel hb1
        clear HW1 HS
        refine (cy W1 hs1).mono ?_
        rintro e w' ⟨rfl, rfl⟩
        go_wp2_with fail
        refine (cz W1 hs1).mono ?_
        rintro e w' ⟨rfl, rfl⟩
        clear cy cz
        go_wp2_with fail
        refine (q1 W1 hs1).mono ?_
        rintro e w1 ⟨rfl, hb⟩
        have hz := hb.size
        go_wp2_with fail
        refine (q2 w1 (hs1.bel hb)).mono ?_
        rintro e w2 ⟨rfl, hb'⟩
        replace hb := hb.trans (hb'.mono hz)
        replace hz := hb.size
        clear hb'
        go_wp2_with fail
        refine (q3 w2 (hs1.bel hb)).mono ?_
        rintro e w3 ⟨rfl, hb'⟩
        replace hb := hb.trans (hb'.mono hz)
        replace hz := hb.size
        clear hb'
        clear q1 q2 q3
        have hBF := hb1.trans (hb.mono (by omega))
        have br3 := (hb.block _ (by omega)).trans br
        have r0 := blk_cell br3 0
        have r1 := blk_cell br3 1
        have r2 := blk_cell br3 2
        have r3 := blk_cell br3 3
        have r4 := blk_cell br3 4
        have r5 := blk_cell br3 5
        have r6 := blk_cell br3 6
        have r7 := blk_cell br3 7
        have r8 := blk_cell br3 8
        simp only [List.getElem?_toArray, List.getElem?_cons_zero, List.getElem?_cons_succ] at r0 r1 r2 r3 r4 r5 r6 r7 r8
        have rf := blk_free br3
        clear br br3 hs1
        go_wp2_with fail
        refine bodyPost_ret (v := .tuple #[.agg #[.int .i64 0, .int .i64 0, .string .empty, .int .i64 0, .int .i64 0, .int .i64 0, .slice none 0 0, .int .i64 0, .int .i64 0], .bool false, .bool false]) (by simp [results, Tryz.results38, go_sem, r0, r1, r2, r3, r4, r5, r6, r7, r8]; rfl) rfl ?_
        refine ⟨_, rfl, rfl, ?_⟩
        iterate 9 refine Below.setCell ?_ (by simp <;> omega) _
        exact hBF
      · skip
        exact absurd (fY.trans fZ.symm) d3
theorem chosenR_any {mem : Addr → Option Value} {v1 v2 v3 : Value} {X Y Z : List Blk} (h1 : BlksM mem v1 X) (h2 : BlksM mem v2 Y) (h3 : BlksM mem v3 Z) (i : Int) (w : World) (hs : Sees mem w) :
    Calls Tryz.prog 38 #[v1, v2, v3, .int .i64 i] w (ChPost mem (pickAt X Y Z i) w) := by
  by_cases pY : i ∈ ids Y
  · by_cases pZ : i ∈ ids Z
    · exact chosenR_11 h1 h2 h3 i w hs pY pZ
    · exact chosenR_10 h1 h2 h3 i w hs pY pZ
  · by_cases pZ : i ∈ ids Z
    · exact chosenR_01 h1 h2 h3 i w hs pY pZ
    · exact chosenR_00 h1 h2 h3 i w hs pY pZ
end Go.Proofs.YtikpbknafhnieaaGreatDoor

/-
  WHAT IS PROVED HERE: entries of merge: the walks of merge.equal and merge.choose. No condition.
-/
import Derived.Test.YtikpbknafhnieaaGreatDoorSame
import Derived.Test.YtikpbknafhnieaaGreatDoorMrgLaws
import Derived.RangeFuncBox
namespace Go.Proofs.YtikpbknafhnieaaGreatDoor
open Go.RowKit Mg Go.Shelf

def zeroEnt : Value := .agg #[.int .i64 0, .int .i64 0, .string .empty, .int .i64 0, .int .i64 0, .int .i64 0, .slice none 0 0, .int .i64 0, .int .i64 0, .bool false]
def entAgg (x : Blk) (av : Value) : Value := .agg #[.int .i64 x.id, .int .i64 x.kind, .string x.text, .int .i64 x.story, .int .i64 x.ref, .int .i64 x.lab.till, av, .int .i64 x.lab.appr, .int .i64 x.lab.denied, .bool true]
/-- an entry's value -/
def EntV (mem : Addr → Option Value) (v : Value) : Option Blk → Prop
  | none => v = zeroEnt
  | some x => ∃ ao cap, IntsM mem (.slice ao x.lab.after.length cap) x.lab.after ∧ v = entAgg x (.slice ao x.lab.after.length cap)
theorem EntV.form {mem : Addr → Option Value} {v : Value} {o : Option Blk} (h : EntV mem v o) : ∃ (i0 i1 : Int) (t : ByteArray) (i3 i4 i5 : Int) (ao : Option Addr) (n cap : Nat) (i7 i8 : Int),
    v = .agg #[.int .i64 i0, .int .i64 i1, .string t, .int .i64 i3, .int .i64 i4, .int .i64 i5, .slice ao n cap, .int .i64 i7, .int .i64 i8, .bool o.isSome] := by
  cases o with
  | none => exact ⟨_, _, _, _, _, _, _, _, _, _, _, h⟩
  | some x => obtain ⟨ao, cap, _, rfl⟩ := h; exact ⟨_, _, _, _, _, _, _, _, _, _, _, rfl⟩
theorem EntV.mono {mem mem' : Addr → Option Value} {v : Value} {o : Option Blk} (h : EntV mem v o) (hm : ∀ a u, mem a = some u → mem' a = some u) : EntV mem' v o := by
  cases o with
  | none => exact h
  | some x => obtain ⟨ao, cap, h1, h2⟩ := h; exact ⟨ao, cap, h1.mono hm, h2⟩
theorem field_some (i0 i1 i3 i4 i5 i7 i8 : Int) (t : ByteArray) (ao : Option Addr) (n cap : Nat) (b : Bool) (w : World) : (Instr.field 44 (.agg #[.int .i64 i0, .int .i64 i1, .string t, .int .i64 i3, .int .i64 i4, .int .i64 i5, .slice ao n cap, .int .i64 i7, .int .i64 i8, .bool b]) 1).run Tryz.prog w = .ok (.bool b) w := by kernel_rfl
theorem field_block (i0 i1 i3 i4 i5 i7 i8 : Int) (t : ByteArray) (ao : Option Addr) (n cap : Nat) (b : Bool) (w : World) : (Instr.field 44 (.agg #[.int .i64 i0, .int .i64 i1, .string t, .int .i64 i3, .int .i64 i4, .int .i64 i5, .slice ao n cap, .int .i64 i7, .int .i64 i8, .bool b]) 0).run Tryz.prog w = .ok (.agg #[.int .i64 i0, .int .i64 i1, .string t, .int .i64 i3, .int .i64 i4, .int .i64 i5, .slice ao n cap, .int .i64 i7, .int .i64 i8]) w := by kernel_rfl
theorem zero_ent (w : World) : (zeroValue 44).run Tryz.prog w = .ok zeroEnt w := Tryz.zeroValue44 w

set_option maxRecDepth 10000 in
set_option maxHeartbeats 2000000 in
theorem mequal_any {mem : Addr → Option Value} {v u : Value} {a b : Option Blk} (h1 : EntV mem v a) (h2 : EntV mem u b) (w : World) (hs : Sees mem w) :
    Calls Tryz.prog 47 #[v, u] w fun e w' => e = .returned (.bool (decide (a = b))) ∧ Below w.heap.size w w' := by
  have hB0 : ∀ o o', Below w.heap.size w ((w.alloc o).alloc o') := fun o o' => ((Below.refl _ w).alloc (Nat.le_refl _) _).alloc (by simp) _
  have HB0 := Lib.hid hB0
  clear hB0
  cases a with
  | none =>
    obtain rfl : v = zeroEnt := h1
    unfold zeroEnt
    cases b with
    | none =>
      obtain rfl : u = zeroEnt := h2
      unfold zeroEnt
      go_enter Tryz.func47, Tryz.ntmps47
      go_wp2_with fail
      go_ret
      exact ⟨ret_true (by simp), HB0.out _ _⟩
    | some y =>
      obtain ⟨ao, cap, _, rfl⟩ := h2
      unfold entAgg
      go_enter Tryz.func47, Tryz.ntmps47
      go_wp2_with fail
      go_ret
      exact ⟨ret_false (by simp), HB0.out _ _⟩
  | some x =>
    obtain ⟨ao, cap, hi, rfl⟩ := h1
    cases b with
    | none =>
      obtain rfl : u = zeroEnt := h2
      unfold entAgg zeroEnt
      go_enter Tryz.func47, Tryz.ntmps47
      go_wp2_with fail
      go_ret
      exact ⟨ret_false (by simp), HB0.out _ _⟩
    | some y =>
      obtain ⟨ao2, cap2, hi2, rfl⟩ := h2
      have HC := Lib.hid (fun W hW => same_any x y _ _ hi hi2 W hW)
      have HE : Hid (decide (some x = some y) = decide (x = y)) := Lib.hid (by simp)
      have HS := Lib.hid hs
      clear hi hi2 hs
      unfold entAgg
      go_enter Tryz.func47, Tryz.ntmps47
      go_wp2_with fail
      refine (HC.out _ ((HS.out.alloc _).alloc _)).mono ?_
      rintro e w1 ⟨rfl, hb⟩
      have hB := (HB0.out _ _).trans (hb.mono (by simp <;> omega))
      generalize decide (x = y) = q at *
      go_wp2_with fail
      go_ret
      exact ⟨ret_bool (by first | rfl | exact HE.out.symm | simp [HE.out]), hB⟩

theorem blk_cell {W : World} {g : Nat} {cs : Array Value} {t : TypeId} (h : W.heap[g]? = some (.cells cs t (0, 0))) (j : Nat) : W.cell? ⟨g, j, none⟩ = cs[j]? := by
  unfold World.cell?; simp [h]
theorem blk_free {W : World} {g : Nat} {cs : Array Value} {t : TypeId} (h : W.heap[g]? = some (.cells cs t (0, 0))) (j : Nat) : W.frozen? ⟨g, j, none⟩ = false := by
  unfold World.frozen?; simp only [h]; simp
def ChoosePost (mem : Addr → Option Value) (r : Option Blk × Bool) (w : World) (e : Ending) (w' : World) : Prop := ∃ v, e = .returned (.tuple #[v, .bool r.2]) ∧ EntV mem v r.1 ∧ Below w.heap.size w w'

set_option maxRecDepth 100000 in
set_option maxHeartbeats 8000000 in
theorem choose_any {mem : Addr → Option Value} {xv yv zv : Value} {x y z : Option Blk} (h1 : EntV mem xv x) (h2 : EntV mem yv y) (h3 : EntV mem zv z) (w : World) (hs : Sees mem w) :
    Calls Tryz.prog 29 #[xv, yv, zv] w (ChoosePost mem (pick x y z) w) := by
  have hzs : z.isSome = z.isSome := rfl
  have HQ1 := Lib.hid (fun W hW => mequal_any h2 h1 W hW)
  have HQ2 := Lib.hid (fun W hW => mequal_any h3 h1 W hW)
  have HQ3 := Lib.hid (fun W hW => mequal_any h3 h2 W hW)
  have HY := Lib.hid h2
  have HZ := Lib.hid h3
  have HP : Hid (pick x y z = if y = x then (z, false) else if z = x ∨ z = y then (y, false) else if z.isSome then (z, true) else (y, true)) := Lib.hid rfl
  obtain ⟨x0, x1, xt, x3, x4, x5, xa, xn, xc, x7, x8, rfl⟩ := h1.form
  obtain ⟨y0, y1, yt, y3, y4, y5, ya, yn, yc, y7, y8, rfl⟩ := h2.form
  obtain ⟨z0, z1, zt, z3, z4, z5, za, zn, zc, z7, z8, rfl⟩ := h3.form
  have HS := Lib.hid hs
  clear h1 h2 h3 hs hzs
  generalize hxs : x.isSome = xs at *
  generalize hys : y.isSome = ys at *
  generalize hzs : z.isSome = zs at *
  clear hxs hys
  go_enter Tryz.func29, Tryz.ntmps29
  go_wp2_with fail
  obtain ⟨W1, HW1⟩ := named ((((w.alloc (.cells #[.int .i64 x0, .int .i64 x1, .string xt, .int .i64 x3, .int .i64 x4, .int .i64 x5, .slice xa xn xc, .int .i64 x7, .int .i64 x8, .bool xs] 44)).alloc (.cells #[.int .i64 y0, .int .i64 y1, .string yt, .int .i64 y3, .int .i64 y4, .int .i64 y5, .slice ya yn yc, .int .i64 y7, .int .i64 y8, .bool ys] 44)).alloc (.cells #[.int .i64 z0, .int .i64 z1, .string zt, .int .i64 z3, .int .i64 z4, .int .i64 z5, .slice za zn zc, .int .i64 z7, .int .i64 z8, .bool zs] 44)).alloc (.cells #[.int .i64 0, .int .i64 0, .string ⟨#[]⟩, .int .i64 0, .int .i64 0, .int .i64 0, .slice none 0 0, .int .i64 0, .int .i64 0, .bool false] 44))
  rw [← HW1.out]
  have hb1 : Below w.heap.size w W1 := by rw [HW1.out]; exact ((((Below.refl _ w).alloc (Nat.le_refl _) _).alloc (by simp) _).alloc (by simp; omega) _).alloc (by simp; omega) _
  have hz1 : W1.heap.size = w.heap.size + 4 := by rw [HW1.out]; simp
  have bx : W1.heap[w.heap.size]? = some (.cells #[.int .i64 x0, .int .i64 x1, .string xt, .int .i64 x3, .int .i64 x4, .int .i64 x5, .slice xa xn xc, .int .i64 x7, .int .i64 x8, .bool xs] 44 (0, 0)) := by rw [HW1.out, Below.heap_alloc _ _ _ (by simp <;> omega), Below.heap_alloc _ _ _ (by simp <;> omega), Below.heap_alloc _ _ _ (by simp)]; exact World.alloc_heap_new w _
  have bY : W1.heap[w.heap.size + 1]? = some (.cells #[.int .i64 y0, .int .i64 y1, .string yt, .int .i64 y3, .int .i64 y4, .int .i64 y5, .slice ya yn yc, .int .i64 y7, .int .i64 y8, .bool ys] 44 (0, 0)) := by
    rw [HW1.out, Below.heap_alloc _ _ _ (by simp <;> omega), Below.heap_alloc _ _ _ (by simp)]
    have := World.alloc_heap_new (w.alloc (.cells #[.int .i64 x0, .int .i64 x1, .string xt, .int .i64 x3, .int .i64 x4, .int .i64 x5, .slice xa xn xc, .int .i64 x7, .int .i64 x8, .bool xs] 44)) (.cells #[.int .i64 y0, .int .i64 y1, .string yt, .int .i64 y3, .int .i64 y4, .int .i64 y5, .slice ya yn yc, .int .i64 y7, .int .i64 y8, .bool ys] 44); rwa [World.size_alloc] at this
  have bz : W1.heap[w.heap.size + 2]? = some (.cells #[.int .i64 z0, .int .i64 z1, .string zt, .int .i64 z3, .int .i64 z4, .int .i64 z5, .slice za zn zc, .int .i64 z7, .int .i64 z8, .bool zs] 44 (0, 0)) := by
    rw [HW1.out, Below.heap_alloc _ _ _ (by simp)]
    have := World.alloc_heap_new ((w.alloc (.cells #[.int .i64 x0, .int .i64 x1, .string xt, .int .i64 x3, .int .i64 x4, .int .i64 x5, .slice xa xn xc, .int .i64 x7, .int .i64 x8, .bool xs] 44)).alloc (.cells #[.int .i64 y0, .int .i64 y1, .string yt, .int .i64 y3, .int .i64 y4, .int .i64 y5, .slice ya yn yc, .int .i64 y7, .int .i64 y8, .bool ys] 44)) (.cells #[.int .i64 z0, .int .i64 z1, .string zt, .int .i64 z3, .int .i64 z4, .int .i64 z5, .slice za zn zc, .int .i64 z7, .int .i64 z8, .bool zs] 44); rwa [World.size_alloc, World.size_alloc] at this
  have br : W1.heap[w.heap.size + 3]? = some (.cells #[.int .i64 0, .int .i64 0, .string ⟨#[]⟩, .int .i64 0, .int .i64 0, .int .i64 0, .slice none 0 0, .int .i64 0, .int .i64 0, .bool false] 44 (0, 0)) := by
    rw [HW1.out]
    have := World.alloc_heap_new (((w.alloc (.cells #[.int .i64 x0, .int .i64 x1, .string xt, .int .i64 x3, .int .i64 x4, .int .i64 x5, .slice xa xn xc, .int .i64 x7, .int .i64 x8, .bool xs] 44)).alloc (.cells #[.int .i64 y0, .int .i64 y1, .string yt, .int .i64 y3, .int .i64 y4, .int .i64 y5, .slice ya yn yc, .int .i64 y7, .int .i64 y8, .bool ys] 44)).alloc (.cells #[.int .i64 z0, .int .i64 z1, .string zt, .int .i64 z3, .int .i64 z4, .int .i64 z5, .slice za zn zc, .int .i64 z7, .int .i64 z8, .bool zs] 44)) (.cells #[.int .i64 0, .int .i64 0, .string ⟨#[]⟩, .int .i64 0, .int .i64 0, .int .i64 0, .slice none 0 0, .int .i64 0, .int .i64 0, .bool false] 44); rwa [World.size_alloc, World.size_alloc, World.size_alloc] at this
  have hs1 := HS.out.bel hb1
  have HW := Lib.hid (And.intro hb1 (And.intro hz1 (And.intro bx (And.intro bY (And.intro bz br)))))
  clear HW1 hb1 hz1 bx bY bz br HS
  refine (HQ1.out _ hs1).mono ?_
  rintro e w2 ⟨rfl, hb2⟩
  obtain ⟨hb1, hz1, bx, bY, bz, br⟩ := HW.out
  have hB2 : Below w.heap.size w w2 := hb1.trans (hb2.mono (by omega))
  have hs2 := hs1.bel hb2
  have bx2 := (hb2.block _ (by omega)).trans bx
  have by2 := (hb2.block _ (by omega)).trans bY
  have bz2 := (hb2.block _ (by omega)).trans bz
  have br2 := (hb2.block _ (by omega)).trans br
  have hz2 : w.heap.size + 4 ≤ w2.heap.size := by have := hb2.size; omega
  clear hb1 hz1 bx bY bz br hb2 HW HQ1 hs1
  have HX := Lib.hid bx2
  clear bx2
  generalize hd1 : decide (y = x) = d1 at *
  cases d1 with
  | true =>
    have HF : Hid (pick x y z = (z, false)) := Lib.hid (by rw [HP.out, if_pos (of_decide_eq_true hd1)])
    have hBF := hB2
    clear hd1 HP HQ2 HQ3
    have q0 := blk_cell bz2 0
    have q1 := blk_cell bz2 1
    have q2 := blk_cell bz2 2
    have q3 := blk_cell bz2 3
    have q4 := blk_cell bz2 4
    have q5 := blk_cell bz2 5
    have q6 := blk_cell bz2 6
    have q7 := blk_cell bz2 7
    have q8 := blk_cell bz2 8
    have q9 := blk_cell bz2 9
    simp only [List.getElem?_toArray, List.getElem?_cons_zero, List.getElem?_cons_succ] at q0 q1 q2 q3 q4 q5 q6 q7 q8 q9
    have r0 := blk_cell br2 0
    have r1 := blk_cell br2 1
    have r2 := blk_cell br2 2
    have r3 := blk_cell br2 3
    have r4 := blk_cell br2 4
    have r5 := blk_cell br2 5
    have r6 := blk_cell br2 6
    have r7 := blk_cell br2 7
    have r8 := blk_cell br2 8
    have r9 := blk_cell br2 9
    simp only [List.getElem?_toArray, List.getElem?_cons_zero, List.getElem?_cons_succ] at r0 r1 r2 r3 r4 r5 r6 r7 r8 r9
    have rf := blk_free br2
    clear by2 bz2 br2
    go_wp2_with fail
    refine bodyPost_ret (v := .tuple #[.agg #[.int .i64 z0, .int .i64 z1, .string zt, .int .i64 z3, .int .i64 z4, .int .i64 z5, .slice za zn zc, .int .i64 z7, .int .i64 z8, .bool zs], .bool false]) (by simp [results, Tryz.results29, go_sem, r0, r1, r2, r3, r4, r5, r6, r7, r8, r9]) rfl ?_
    refine ⟨_, by rw [HF.out], by rw [HF.out]; exact HZ.out, ?_⟩
    iterate 10 refine Below.setCell ?_ (by simp <;> omega) _
    exact hBF
  | false =>
    have n1 := of_decide_eq_false hd1
    have HP2 : Hid (pick x y z = if z = x ∨ z = y then (y, false) else if zs = true then (z, true) else (y, true)) := Lib.hid (by rw [HP.out, if_neg n1])
    clear hd1 HP n1
    have bx3 := HX.out
    have p0 := blk_cell bx3 0
    have p1 := blk_cell bx3 1
    have p2 := blk_cell bx3 2
    have p3 := blk_cell bx3 3
    have p4 := blk_cell bx3 4
    have p5 := blk_cell bx3 5
    have p6 := blk_cell bx3 6
    have p7 := blk_cell bx3 7
    have p8 := blk_cell bx3 8
    have p9 := blk_cell bx3 9
    simp only [List.getElem?_toArray, List.getElem?_cons_zero, List.getElem?_cons_succ] at p0 p1 p2 p3 p4 p5 p6 p7 p8 p9
    have q0 := blk_cell bz2 0
    have q1 := blk_cell bz2 1
    have q2 := blk_cell bz2 2
    have q3 := blk_cell bz2 3
    have q4 := blk_cell bz2 4
    have q5 := blk_cell bz2 5
    have q6 := blk_cell bz2 6
    have q7 := blk_cell bz2 7
    have q8 := blk_cell bz2 8
    have q9 := blk_cell bz2 9
    simp only [List.getElem?_toArray, List.getElem?_cons_zero, List.getElem?_cons_succ] at q0 q1 q2 q3 q4 q5 q6 q7 q8 q9
    clear bx3
    go_wp2_with fail
    refine (HQ2.out _ hs2).mono ?_
    rintro e w3 ⟨rfl, hb3⟩
    clear p0 p1 p2 p3 p4 p5 p6 p7 p8 p9 q0 q1 q2 q3 q4 q5 q6 q7 q8 q9
    have hB3 : Below w.heap.size w w3 := hB2.trans (hb3.mono (by omega))
    have hs3 := hs2.bel hb3
    have by3 := (hb3.block _ (by omega)).trans by2
    have bz3 := (hb3.block _ (by omega)).trans bz2
    have br3 := (hb3.block _ (by omega)).trans br2
    have hz3 : w.heap.size + 4 ≤ w3.heap.size := by have := hb3.size; omega
    clear by2 bz2 br2 hb3 HX hB2 hs2 hz2
    generalize hd2 : decide (z = x) = d2 at *
    cases d2 with
    | true =>
      have HF : Hid (pick x y z = (y, false)) := Lib.hid (by rw [HP2.out, if_pos (.inl (of_decide_eq_true hd2))])
      have hBF := hB3
      clear hd2 HP2 HQ2 HQ3
      have q0 := blk_cell by3 0
      have q1 := blk_cell by3 1
      have q2 := blk_cell by3 2
      have q3 := blk_cell by3 3
      have q4 := blk_cell by3 4
      have q5 := blk_cell by3 5
      have q6 := blk_cell by3 6
      have q7 := blk_cell by3 7
      have q8 := blk_cell by3 8
      have q9 := blk_cell by3 9
      simp only [List.getElem?_toArray, List.getElem?_cons_zero, List.getElem?_cons_succ] at q0 q1 q2 q3 q4 q5 q6 q7 q8 q9
      have r0 := blk_cell br3 0
      have r1 := blk_cell br3 1
      have r2 := blk_cell br3 2
      have r3 := blk_cell br3 3
      have r4 := blk_cell br3 4
      have r5 := blk_cell br3 5
      have r6 := blk_cell br3 6
      have r7 := blk_cell br3 7
      have r8 := blk_cell br3 8
      have r9 := blk_cell br3 9
      simp only [List.getElem?_toArray, List.getElem?_cons_zero, List.getElem?_cons_succ] at r0 r1 r2 r3 r4 r5 r6 r7 r8 r9
      have rf := blk_free br3
      clear by3 bz3 br3
      go_wp2_with fail
      refine bodyPost_ret (v := .tuple #[.agg #[.int .i64 y0, .int .i64 y1, .string yt, .int .i64 y3, .int .i64 y4, .int .i64 y5, .slice ya yn yc, .int .i64 y7, .int .i64 y8, .bool ys], .bool false]) (by simp [results, Tryz.results29, go_sem, r0, r1, r2, r3, r4, r5, r6, r7, r8, r9]) rfl ?_
      refine ⟨_, by rw [HF.out], by rw [HF.out]; exact HY.out, ?_⟩
      iterate 10 refine Below.setCell ?_ (by simp <;> omega) _
      exact hBF
    | false =>
      have n2 := of_decide_eq_false hd2
      clear hd2 HQ2
      have p0 := blk_cell by3 0
      have p1 := blk_cell by3 1
      have p2 := blk_cell by3 2
      have p3 := blk_cell by3 3
      have p4 := blk_cell by3 4
      have p5 := blk_cell by3 5
      have p6 := blk_cell by3 6
      have p7 := blk_cell by3 7
      have p8 := blk_cell by3 8
      have p9 := blk_cell by3 9
      simp only [List.getElem?_toArray, List.getElem?_cons_zero, List.getElem?_cons_succ] at p0 p1 p2 p3 p4 p5 p6 p7 p8 p9
      have q0 := blk_cell bz3 0
      have q1 := blk_cell bz3 1
      have q2 := blk_cell bz3 2
      have q3 := blk_cell bz3 3
      have q4 := blk_cell bz3 4
      have q5 := blk_cell bz3 5
      have q6 := blk_cell bz3 6
      have q7 := blk_cell bz3 7
      have q8 := blk_cell bz3 8
      have q9 := blk_cell bz3 9
      simp only [List.getElem?_toArray, List.getElem?_cons_zero, List.getElem?_cons_succ] at q0 q1 q2 q3 q4 q5 q6 q7 q8 q9
      go_wp2_with fail
      refine (HQ3.out _ hs3).mono ?_
      rintro e w4 ⟨rfl, hb4⟩
      clear p0 p1 p2 p3 p4 p5 p6 p7 p8 p9 q0 q1 q2 q3 q4 q5 q6 q7 q8 q9
      have hBF : Below w.heap.size w w4 := hB3.trans (hb4.mono (by omega))
      have by4 := (hb4.block _ (by omega)).trans by3
      have bz4 := (hb4.block _ (by omega)).trans bz3
      have br4 := (hb4.block _ (by omega)).trans br3
      have hz4 : w.heap.size + 4 ≤ w4.heap.size := by have := hb4.size; omega
      clear by3 bz3 br3 hb4 hB3 hs3 hz3
      generalize hd3 : decide (z = y) = d3 at *
      have p0 := blk_cell by4 0
      have p1 := blk_cell by4 1
      have p2 := blk_cell by4 2
      have p3 := blk_cell by4 3
      have p4 := blk_cell by4 4
      have p5 := blk_cell by4 5
      have p6 := blk_cell by4 6
      have p7 := blk_cell by4 7
      have p8 := blk_cell by4 8
      have p9 := blk_cell by4 9
      simp only [List.getElem?_toArray, List.getElem?_cons_zero, List.getElem?_cons_succ] at p0 p1 p2 p3 p4 p5 p6 p7 p8 p9
      have q0 := blk_cell bz4 0
      have q1 := blk_cell bz4 1
      have q2 := blk_cell bz4 2
      have q3 := blk_cell bz4 3
      have q4 := blk_cell bz4 4
      have q5 := blk_cell bz4 5
      have q6 := blk_cell bz4 6
      have q7 := blk_cell bz4 7
      have q8 := blk_cell bz4 8
      have q9 := blk_cell bz4 9
      simp only [List.getElem?_toArray, List.getElem?_cons_zero, List.getElem?_cons_succ] at q0 q1 q2 q3 q4 q5 q6 q7 q8 q9
      have r0 := blk_cell br4 0
      have r1 := blk_cell br4 1
      have r2 := blk_cell br4 2
      have r3 := blk_cell br4 3
      have r4 := blk_cell br4 4
      have r5 := blk_cell br4 5
      have r6 := blk_cell br4 6
      have r7 := blk_cell br4 7
      have r8 := blk_cell br4 8
      have r9 := blk_cell br4 9
      simp only [List.getElem?_toArray, List.getElem?_cons_zero, List.getElem?_cons_succ] at r0 r1 r2 r3 r4 r5 r6 r7 r8 r9
      have rf := blk_free br4
      clear by4 bz4 br4 HQ3
      cases d3 with
      | true =>
        have HF : Hid (pick x y z = (y, false)) := Lib.hid (by rw [HP2.out, if_pos (.inr (of_decide_eq_true hd3))])
        clear hd3 n2 HP2
        go_wp2_with fail
        refine bodyPost_ret (v := .tuple #[.agg #[.int .i64 y0, .int .i64 y1, .string yt, .int .i64 y3, .int .i64 y4, .int .i64 y5, .slice ya yn yc, .int .i64 y7, .int .i64 y8, .bool ys], .bool false]) (by simp [results, Tryz.results29, go_sem, r0, r1, r2, r3, r4, r5, r6, r7, r8, r9]) rfl ?_
        refine ⟨_, by rw [HF.out], by rw [HF.out]; exact HY.out, ?_⟩
        iterate 10 refine Below.setCell ?_ (by simp <;> omega) _
        exact hBF
      | false =>
        have n3 := of_decide_eq_false hd3
        cases zs with
        | true =>
          have HF : Hid (pick x y z = (z, true)) := Lib.hid (by rw [HP2.out, if_neg (fun h => h.elim n2 n3)]; rfl)
          clear hd3 n2 n3 HP2
          go_wp2_with fail
          refine bodyPost_ret (v := .tuple #[.agg #[.int .i64 z0, .int .i64 z1, .string zt, .int .i64 z3, .int .i64 z4, .int .i64 z5, .slice za zn zc, .int .i64 z7, .int .i64 z8, .bool true], .bool true]) (by simp [results, Tryz.results29, go_sem, r0, r1, r2, r3, r4, r5, r6, r7, r8, r9]) rfl ?_
          refine ⟨_, by rw [HF.out], by rw [HF.out]; exact HZ.out, ?_⟩
          iterate 10 refine Below.setCell ?_ (by simp <;> omega) _
          exact hBF
        | false =>
          have HF : Hid (pick x y z = (y, true)) := Lib.hid (by rw [HP2.out, if_neg (fun h => h.elim n2 n3)]; rfl)
          clear hd3 n2 n3 HP2
          go_wp2_with fail
          refine bodyPost_ret (v := .tuple #[.agg #[.int .i64 y0, .int .i64 y1, .string yt, .int .i64 y3, .int .i64 y4, .int .i64 y5, .slice ya yn yc, .int .i64 y7, .int .i64 y8, .bool ys], .bool true]) (by simp [results, Tryz.results29, go_sem, r0, r1, r2, r3, r4, r5, r6, r7, r8, r9]) rfl ?_
          refine ⟨_, by rw [HF.out], by rw [HF.out]; exact HY.out, ?_⟩
          iterate 10 refine Below.setCell ?_ (by simp <;> omega) _
          exact hBF
end Go.Proofs.YtikpbknafhnieaaGreatDoor

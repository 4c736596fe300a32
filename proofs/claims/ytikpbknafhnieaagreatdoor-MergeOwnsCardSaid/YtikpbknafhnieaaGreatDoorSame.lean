/-
  WHAT IS PROVED HERE: the walks of block.Same, of slices.EqualFunc and block.SameList, and of the reference's Same, SameList. No condition.
-/
import Derived.Test.YtikpbknafhnieaaGreatDoorVal
import Derived.Test.YtikpbknafhnieaaGreatDoorLab3
import Derived.StillTailTactics
namespace Go.Proofs.YtikpbknafhnieaaGreatDoor
open Go.RowKit Mg Go.Shelf

theorem blk_dec (id kind story ref id2 kind2 story2 ref2 : Int) (text text2 : ByteArray) (lab lab2 : Lab) : decide (({ id := id, kind := kind, text := text, story := story, ref := ref, lab := lab } : Blk) = { id := id2, kind := kind2, text := text2, story := story2, ref := ref2, lab := lab2 }) =
    (decide (id = id2) && (decide (kind = kind2) && (decide (text = text2) && (decide (story = story2) && (decide (ref = ref2) && decide (lab = lab2)))))) := by
  simp only [Blk.mk.injEq, Bool.decide_and]

/-- a region that draws its order, all of it reads but a tail whose order is fixed -/
theorem wp_tail {P : Program} {id : Nat} {Q : Exit → Act → World → Prop} {a : Act} {w : World} {l : List Oper} (n : Nat) (hm : P.follows .mixedOrders = true) (hB : Region.lexTailB .any l.toArray n = true)
    (h : wpStill P l.toArray w.drew (fun a' => wpList P l.toArray Q (l.drop n) a' w.drew) (l.take n) a) : (Code.region id l.toArray true).wp P Q a w :=
  wp_region_still_tail n hm hB h

set_option maxRecDepth 10000 in
set_option maxHeartbeats 4000000 in
theorem same_any {mem : Addr → Option Value} (x y : Blk) (av bv : Value) (h1 : IntsM mem av x.lab.after) (h2 : IntsM mem bv y.lab.after) (w : World) (hs : Sees mem w) :
    Calls Tryz.prog 44 #[.agg (blkCells x av), .agg (blkCells y bv)] w fun e w' => e = .returned (.bool (decide (x = y))) ∧ Below w.heap.size w w' := by
  obtain ⟨id, kind, text, story, ref, lab⟩ := x
  obtain ⟨id2, kind2, text2, story2, ref2, lab2⟩ := y
  dsimp only at h1 h2
  have HL := Lib.hid (fun W hW => labSame_any lab lab2 _ _ h1 h2 W hW)
  obtain ⟨ao, cap, rfl⟩ := h1.slice
  obtain ⟨ao2, cap2, rfl⟩ := h2.slice
  have HR := Lib.hid (blk_dec id kind story ref id2 kind2 story2 ref2 text text2 lab lab2)
  have hB0 : ∀ o o', Below w.heap.size w ((w.alloc o).alloc o') := fun o o' => ((Below.refl _ w).alloc (Nat.le_refl _) _).alloc (by simp) _
  have HB0 := Lib.hid hB0
  have HS := Lib.hid hs
  clear hB0 h1 h2 hs
  by_cases e1 : id = id2
  · subst e1
    by_cases e2 : kind = kind2
    · subst e2
      by_cases e3 : text = text2
      · subst e3
        by_cases e4 : story = story2
        · subst e4
          by_cases e5 : ref = ref2
          · subst e5
            go_enter Tryz.func44, Tryz.ntmps44
            go_wp2_with fail
            refine (HL.out _ ((HS.out.alloc _).alloc _)).mono ?_
            rintro e w1 ⟨rfl, hb⟩
            have hB := (HB0.out _ _).trans (hb.mono (by simp <;> omega))
            generalize decide (lab = lab2) = q at *
            cases q with
            | false =>
              go_wp2_with fail
              go_ret
              exact ⟨ret_false (by rw [HR.out]; simp), hB⟩
            | true =>
              go_wp2_with fail
              go_ret
              exact ⟨ret_true (by rw [HR.out]; simp), hB⟩
          · have n : (ref == ref2) = false := by simpa using e5
            have E := Lib.hid e5
            clear e5
            go_enter Tryz.func44, Tryz.ntmps44
            go_wp2_with fail
            go_ret
            exact ⟨ret_false (by first | (rw [HR.out, decide_eq_false E.out]; simp; done) | (rw [decide_eq_false E.out]; simp; done) | (rw [decide_eq_false E.out]; done)), HB0.out _ _⟩
        · have n : (story == story2) = false := by simpa using e4
          have E := Lib.hid e4
          clear e4
          go_enter Tryz.func44, Tryz.ntmps44
          go_wp2_with fail
          go_ret
          exact ⟨ret_false (by first | (rw [HR.out, decide_eq_false E.out]; simp; done) | (rw [decide_eq_false E.out]; simp; done) | (rw [decide_eq_false E.out]; done)), HB0.out _ _⟩
      · have n : (text.toList == text2.toList) = false := by
          simp only [beq_eq_false_iff_ne, ne_eq, ByteArray.toList_eq]
          intro e
          exact e3 (str_ext e)
        have E := Lib.hid e3
        clear e3
        go_enter Tryz.func44, Tryz.ntmps44
        go_wp2_with fail
        go_ret
        exact ⟨ret_false (by first | (rw [HR.out, decide_eq_false E.out]; simp; done) | (rw [decide_eq_false E.out]; simp; done) | (rw [decide_eq_false E.out]; done)), HB0.out _ _⟩
    · have n : (kind == kind2) = false := by simpa using e2
      have E := Lib.hid e2
      clear e2
      go_enter Tryz.func44, Tryz.ntmps44
      go_wp2_with fail
      go_ret
      exact ⟨ret_false (by first | (rw [HR.out, decide_eq_false E.out]; simp; done) | (rw [decide_eq_false E.out]; simp; done) | (rw [decide_eq_false E.out]; done)), HB0.out _ _⟩
  · have n : (id == id2) = false := by simpa using e1
    have E := Lib.hid e1
    clear e1
    go_enter Tryz.func44, Tryz.ntmps44
    go_wp2_with fail
    go_ret
    exact ⟨ret_false (by first | (rw [HR.out, decide_eq_false E.out]; simp; done) | (rw [decide_eq_false E.out]; simp; done) | (rw [decide_eq_false E.out]; done)), HB0.out _ _⟩

set_option maxRecDepth 10000 in
set_option maxHeartbeats 4000000 in
theorem sameR_any {mem : Addr → Option Value} (x y : Blk) (av bv : Value) (h1 : IntsM mem av x.lab.after) (h2 : IntsM mem bv y.lab.after) (w : World) (hs : Sees mem w) :
    Calls Tryz.prog 41 #[.agg (blkCells x av), .agg (blkCells y bv)] w fun e w' => e = .returned (.bool (decide (x = y))) ∧ Below w.heap.size w w' := by
  obtain ⟨id, kind, text, story, ref, lab⟩ := x
  obtain ⟨id2, kind2, text2, story2, ref2, lab2⟩ := y
  dsimp only at h1 h2
  have HL := Lib.hid (fun W hW => labSameR_any lab lab2 _ _ h1 h2 W hW)
  obtain ⟨ao, cap, rfl⟩ := h1.slice
  obtain ⟨ao2, cap2, rfl⟩ := h2.slice
  have HR := Lib.hid (blk_dec id kind story ref id2 kind2 story2 ref2 text text2 lab lab2)
  have hB0 : ∀ o o', Below w.heap.size w ((w.alloc o).alloc o') := fun o o' => ((Below.refl _ w).alloc (Nat.le_refl _) _).alloc (by simp) _
  have HB0 := Lib.hid hB0
  have HS := Lib.hid hs
  clear hB0 h1 h2 hs
  by_cases e1 : id = id2
  · subst e1
    by_cases e2 : kind = kind2
    · subst e2
      by_cases e3 : text = text2
      · subst e3
        by_cases e4 : story = story2
        · subst e4
          by_cases e5 : ref = ref2
          · subst e5
            go_enter Tryz.func41, Tryz.ntmps41
            go_wp2_with fail
            refine (HL.out _ ((HS.out.alloc _).alloc _)).mono ?_
            rintro e w1 ⟨rfl, hb⟩
            have hB := (HB0.out _ _).trans (hb.mono (by simp <;> omega))
            generalize decide (lab = lab2) = q at *
            cases q with
            | false =>
              go_wp2_with fail
              go_ret
              exact ⟨ret_false (by rw [HR.out]; simp), hB⟩
            | true =>
              go_wp2_with fail
              go_ret
              exact ⟨ret_true (by rw [HR.out]; simp), hB⟩
          · have n : (ref == ref2) = false := by simpa using e5
            have E := Lib.hid e5
            clear e5
            go_enter Tryz.func41, Tryz.ntmps41
            go_wp2_with fail
            go_ret
            exact ⟨ret_false (by first | (rw [HR.out, decide_eq_false E.out]; simp; done) | (rw [decide_eq_false E.out]; simp; done) | (rw [decide_eq_false E.out]; done)), HB0.out _ _⟩
        · have n : (story == story2) = false := by simpa using e4
          have E := Lib.hid e4
          clear e4
          go_enter Tryz.func41, Tryz.ntmps41
          go_wp2_with fail
          go_ret
          exact ⟨ret_false (by first | (rw [HR.out, decide_eq_false E.out]; simp; done) | (rw [decide_eq_false E.out]; simp; done) | (rw [decide_eq_false E.out]; done)), HB0.out _ _⟩
      · have n : (text.toList == text2.toList) = false := by
          simp only [beq_eq_false_iff_ne, ne_eq, ByteArray.toList_eq]
          intro e
          exact e3 (str_ext e)
        have E := Lib.hid e3
        clear e3
        go_enter Tryz.func41, Tryz.ntmps41
        go_wp2_with fail
        go_ret
        exact ⟨ret_false (by first | (rw [HR.out, decide_eq_false E.out]; simp; done) | (rw [decide_eq_false E.out]; simp; done) | (rw [decide_eq_false E.out]; done)), HB0.out _ _⟩
    · have n : (kind == kind2) = false := by simpa using e2
      have E := Lib.hid e2
      clear e2
      go_enter Tryz.func41, Tryz.ntmps41
      go_wp2_with fail
      go_ret
      exact ⟨ret_false (by first | (rw [HR.out, decide_eq_false E.out]; simp; done) | (rw [decide_eq_false E.out]; simp; done) | (rw [decide_eq_false E.out]; done)), HB0.out _ _⟩
  · have n : (id == id2) = false := by simpa using e1
    have E := Lib.hid e1
    clear e1
    go_enter Tryz.func41, Tryz.ntmps41
    go_wp2_with fail
    go_ret
    exact ⟨ret_false (by first | (rw [HR.out, decide_eq_false E.out]; simp; done) | (rw [decide_eq_false E.out]; simp; done) | (rw [decide_eq_false E.out]; done)), HB0.out _ _⟩

set_option maxRecDepth 10000 in
set_option maxHeartbeats 4000000 in
theorem equalFunc_any {mem : Addr → Option Value} {v u : Value} {l m : List Blk} (h1 : BlksM mem v l) (h2 : BlksM mem u m) (w : World) (hs : Sees mem w) :
    Calls Tryz.prog 46 #[v, u, .func (.func 44) #[] #[]] w fun e w' => e = .returned (.bool (decide (l = m))) ∧ Below w.heap.size w w' := by
  obtain ⟨ao, cap, b, o, rfl, hcap, hm, hao, hblks⟩ := h1.open_
  obtain ⟨ao2, cap2, b2, o2, rfl, hcap2, hm2, hao2, hblks2⟩ := h2.open_
  have HA := Lib.hid hao
  have HA2 := Lib.hid hao2
  have HB := Lib.hid hblks
  have HB2 := Lib.hid hblks2
  have HS := Lib.hid hs
  have hlen : (l.length : Int) ≤ 9223372036854775807 := by unfold maxLen at hm; omega
  have hlen2 : (m.length : Int) ≤ 9223372036854775807 := by unfold maxLen at hm2; omega
  clear h1 h2 hao hao2 hblks hblks2 hs hcap hcap2 hm hm2
  by_cases hl : l.length = m.length
  · have HL := Lib.hid hl
    rw [← hl]
    clear hl
    go_enter Tryz.func46, Tryz.ntmps46
    go_wp2_with fail
    go_loopw [17] (fun i wr => ∃ k : Nat, k ≤ l.length ∧ i = .int .i64 k ∧ Below w.heap.size w wr ∧ Hid (l.take k = m.take k)) (fun i _ => l.length - (intOf i).toNat)
    case atStart => exact ⟨0, Nat.zero_le _, rfl, Below.refl _ _, Lib.hid rfl⟩
    case round =>
      obtain ⟨k, hk, rfl, hb, ht⟩ := hrel
      by_cases hlt : k < l.length
      · have hlt2 : k < m.length := by rw [← HL.out]; exact hlt
        obtain ⟨hp1, lo, lc, hi, c9⟩ := (HB.out k hlt).nine (HS.out.bel hb)
        obtain ⟨hp2, lo2, lc2, hi2, d9⟩ := (HB2.out k hlt2).nine (HS.out.bel hb)
        obtain rfl := HA.out (by omega)
        obtain rfl := HA2.out (by omega)
        obtain ⟨c0, c1, c2, c3, c4, c5, c6, c7, c8⟩ := c9
        obtain ⟨d0, d1, d2, d3, d4, d5, d6, d7, d8⟩ := d9
        have hbl : b < wr.heap.size := World.block_lt_of_cell? wr _ c0
        have hbl2 : b2 < wr.heap.size := World.block_lt_of_cell? wr _ d0
        have HI := Lib.hid (And.intro hi hi2)
        have HE : Hid (l[k] = m[k] → l.take (k + 1) = m.take (k + 1)) := Lib.hid (take_step hlt hlt2 ht.out)
        have HN : Hid (l[k] ≠ m[k] → decide (l = m) = false) := Lib.hid (fun e => decide_eq_false (ne_of_get hlt hlt2 e))
        have hk0 : (0 : Int) ≤ k := by omega
        have hk1 : (k : Int) < l.length := by omega
        clear ht hi hi2 hp1 hp2
        generalize l[k] = x at *
        generalize m[k] = y at *
        have HC : Hid (∀ W, Sees mem W → Calls Tryz.prog 44 #[.agg (blkCells x (.slice lo x.lab.after.length lc)), .agg (blkCells y (.slice lo2 y.lab.after.length lc2))] W fun e w' => e = .returned (.bool (decide (x = y))) ∧ Below W.heap.size W w') :=
          Lib.hid (fun W hW => same_any x y _ _ HI.out.1 HI.out.2 W hW)
        have HC9 : Hid (decide (x = y) = true → x = y) := Lib.hid of_decide_eq_true
        have HC8 : Hid (decide (x = y) = false → x ≠ y) := Lib.hid of_decide_eq_false
        generalize hq : decide (x = y) = q at *
        clear hq HI
        go_wp2_with fail
        obtain ⟨W2, HW2⟩ := named ((wr.alloc (.cells (blkCells x (.slice lo x.lab.after.length lc)) 39)).alloc (.cells (blkCells y (.slice lo2 y.lab.after.length lc2)) 39))
        rw [← HW2.out]
        have hb2 : Below w.heap.size w W2 := by rw [HW2.out]; exact (hb.alloc hb.size _).alloc (by have := hb.size; simp; omega) _
        refine (HC.out W2 (HS.out.bel hb2)).mono ?_
        rintro e w3 ⟨rfl, hb3⟩
        have hB3 : Below w.heap.size w w3 := hb2.trans (hb3.mono hb2.size)
        clear hb3 hb2 c0 c1 c2 c3 c4 c5 c6 c7 c8 d0 d1 d2 d3 d4 d5 d6 d7 d8
        cases q with
        | true =>
          have HE2 := Lib.hid (HE.out (HC9.out rfl))
          clear HE HN HC9 HC8
          go_wp2_with fail
          go_roundw
          case rel => exact ⟨k + 1, by omega, by go_num, hB3, HE2⟩
          case measure => simp [intOf]; omega
        | false =>
          have HN2 := Lib.hid (HN.out (HC8.out rfl))
          clear HE HN HC9 HC8
          go_wp2_with fail
          go_ret
          exact ⟨ret_false HN2.out, hB3⟩
      · have e : k = l.length := by omega
        subst e
        have HF : Hid (decide (l = m) = true) := Lib.hid (decide_eq_true (eq_full HL.out ht.out))
        go_wp2_with fail
        go_ret
        exact ⟨ret_true HF.out, hb⟩
  · have HNE : Hid (decide (l = m) = false) := Lib.hid (decide_eq_false (fun e => hl (by rw [e])))
    have hne : decide (l.length = m.length) = false := decide_eq_false hl
    go_enter Tryz.func46, Tryz.ntmps46
    go_wp2_with fail
    all_goals first
      | (go_ret
         exact ⟨ret_false HNE.out, Below.refl _ _⟩)
      | (exfalso; simp_all; done)

theorem sameList_any {mem : Addr → Option Value} {v u : Value} {l m : List Blk} (h1 : BlksM mem v l) (h2 : BlksM mem u m) (w : World) (hs : Sees mem w) :
    Calls Tryz.prog 25 #[v, u] w fun e w' => e = .returned (.bool (decide (l = m))) ∧ Below w.heap.size w w' := by
  have HC := Lib.hid (equalFunc_any h1 h2 w hs)
  obtain ⟨ao, cap, rfl⟩ := h1.slice
  obtain ⟨ao2, cap2, rfl⟩ := h2.slice
  clear h1 h2 hs
  go_enter Tryz.func25, Tryz.ntmps25
  go_wp2_with fail
  refine HC.out.mono ?_
  rintro e w1 ⟨rfl, hb⟩
  go_wp2_with fail
  go_ret
  exact ⟨rfl, hb⟩

set_option maxRecDepth 10000 in
set_option maxHeartbeats 4000000 in
theorem sameListR_any {mem : Addr → Option Value} {v u : Value} {l m : List Blk} (h1 : BlksM mem v l) (h2 : BlksM mem u m) (w : World) (hs : Sees mem w) :
    Calls Tryz.prog 16 #[v, u] w fun e w' => e = .returned (.bool (decide (l = m))) ∧ Below w.heap.size w w' := by
  obtain ⟨ao, cap, b, o, rfl, hcap, hm, hao, hblks⟩ := h1.open_
  obtain ⟨ao2, cap2, b2, o2, rfl, hcap2, hm2, hao2, hblks2⟩ := h2.open_
  have HA := Lib.hid hao
  have HA2 := Lib.hid hao2
  have HB := Lib.hid hblks
  have HB2 := Lib.hid hblks2
  have HS := Lib.hid hs
  have hlen : (l.length : Int) ≤ 9223372036854775807 := by unfold maxLen at hm; omega
  have hlen2 : (m.length : Int) ≤ 9223372036854775807 := by unfold maxLen at hm2; omega
  clear h1 h2 hao hao2 hblks hblks2 hs hcap hcap2 hm hm2
  by_cases hl : l.length = m.length
  · have HL := Lib.hid hl
    rw [← hl]
    clear hl
    go_enter Tryz.func16, Tryz.ntmps16
    go_wp2_with fail
    go_loopw [5] (fun i wr => ∃ k : Nat, k ≤ l.length ∧ i = .int .i64 k ∧ Below w.heap.size w wr ∧ Hid (l.take k = m.take k)) (fun i _ => l.length - (intOf i).toNat)
    case atStart => exact ⟨0, Nat.zero_le _, rfl, Below.refl _ _, Lib.hid rfl⟩
    case round =>
      obtain ⟨k, hk, rfl, hb, ht⟩ := hrel
      by_cases hlt : k < l.length
      · have hlt2 : k < m.length := by rw [← HL.out]; exact hlt
        obtain ⟨hp1, lo, lc, hi, c9⟩ := (HB.out k hlt).nine (HS.out.bel hb)
        obtain ⟨hp2, lo2, lc2, hi2, d9⟩ := (HB2.out k hlt2).nine (HS.out.bel hb)
        obtain rfl := HA.out (by omega)
        obtain rfl := HA2.out (by omega)
        obtain ⟨c0, c1, c2, c3, c4, c5, c6, c7, c8⟩ := c9
        obtain ⟨d0, d1, d2, d3, d4, d5, d6, d7, d8⟩ := d9
        have hbl : b < wr.heap.size := World.block_lt_of_cell? wr _ c0
        have hbl2 : b2 < wr.heap.size := World.block_lt_of_cell? wr _ d0
        have HI := Lib.hid (And.intro hi hi2)
        have HE : Hid (l[k] = m[k] → l.take (k + 1) = m.take (k + 1)) := Lib.hid (take_step hlt hlt2 ht.out)
        have HN : Hid (l[k] ≠ m[k] → decide (l = m) = false) := Lib.hid (fun e => decide_eq_false (ne_of_get hlt hlt2 e))
        have hk0 : (0 : Int) ≤ k := by omega
        have hk1 : (k : Int) < l.length := by omega
        clear ht hi hi2 hp1 hp2
        generalize l[k] = x at *
        generalize m[k] = y at *
        have HC : Hid (∀ W, Sees mem W → Calls Tryz.prog 41 #[.agg (blkCells x (.slice lo x.lab.after.length lc)), .agg (blkCells y (.slice lo2 y.lab.after.length lc2))] W fun e w' => e = .returned (.bool (decide (x = y))) ∧ Below W.heap.size W w') :=
          Lib.hid (fun W hW => sameR_any x y _ _ HI.out.1 HI.out.2 W hW)
        have HC9 : Hid (decide (x = y) = true → x = y) := Lib.hid of_decide_eq_true
        have HC8 : Hid (decide (x = y) = false → x ≠ y) := Lib.hid of_decide_eq_false
        generalize hq : decide (x = y) = q at *
        clear hq HI
        go_wp2_with fail
        refine wp_tail 8 (by kernel_rfl) (by kernel_rfl) ?_
        simp only [List.take_succ_cons, List.take_zero, List.drop_succ_cons, List.drop_zero]
        repeat still_step
        refine wpStill_nil ?_
        go_wp2_with fail
        refine (HC.out _ (HS.out.bel hb).drew).mono ?_
        rintro e w3 ⟨rfl, hb3⟩
        have hB3 : Below w.heap.size w w3 := hb.drew.trans (hb3.mono hb.size)
        clear hb3 c0 c1 c2 c3 c4 c5 c6 c7 c8 d0 d1 d2 d3 d4 d5 d6 d7 d8
        cases q with
        | true =>
          have HE2 := Lib.hid (HE.out (HC9.out rfl))
          clear HE HN HC9 HC8
          go_wp2_with fail
          go_roundw
          case rel => exact ⟨k + 1, by omega, by go_num, hB3, HE2⟩
          case measure => simp [intOf]; omega
        | false =>
          have HN2 := Lib.hid (HN.out (HC8.out rfl))
          clear HE HN HC9 HC8
          go_wp2_with fail
          go_ret
          exact ⟨ret_false HN2.out, hB3⟩
      · have e : k = l.length := by omega
        subst e
        have HF : Hid (decide (l = m) = true) := Lib.hid (decide_eq_true (eq_full HL.out ht.out))
        go_wp2_with fail
        go_ret
        exact ⟨ret_true HF.out, hb⟩
  · have HNE : Hid (decide (l = m) = false) := Lib.hid (decide_eq_false (fun e => hl (by rw [e])))
    have hne : decide (l.length = m.length) = false := decide_eq_false hl
    go_enter Tryz.func16, Tryz.ntmps16
    go_wp2_with fail
    all_goals first
      | (go_ret
         exact ⟨ret_false HNE.out, Below.refl _ _⟩)
      | (exfalso; simp_all; done)
end Go.Proofs.YtikpbknafhnieaaGreatDoor

/-
  WHAT IS PROVED HERE: the walks of slices.Equal at ints, label.Same, and the reference's Same, Valid for labels. No condition.
-/
import Derived.Test.YtikpbknafhnieaaGreatDoorLab
namespace Go.Proofs.YtikpbknafhnieaaGreatDoor
open Go.RowKit Mg

theorem below_drewN {B : Nat} {a w : World} (h : Below B a w) (n : Nat) : Below B a (w.drewN n) := ⟨h.os, h.tape, h.output, h.size, h.block⟩
theorem take_step {α : Type} {l m : List α} {k : Nat} (h1 : k < l.length) (h2 : k < m.length) (h : l.take k = m.take k) (e : l[k] = m[k]) : l.take (k + 1) = m.take (k + 1) := by
  rw [List.take_succ_eq_append_getElem h1, List.take_succ_eq_append_getElem h2, h, e]
theorem ne_of_get {α : Type} {l m : List α} {k : Nat} (h1 : k < l.length) (h2 : k < m.length) (e : l[k] ≠ m[k]) : l ≠ m := fun h => by subst h; exact e rfl
theorem eq_full {α : Type} {l m : List α} (hl : l.length = m.length) (h : l.take l.length = m.take l.length) : l = m := by
  rw [List.take_length] at h
  rw [h]; rw [hl, List.take_length]

set_option maxHeartbeats 1000000 in
theorem equal_any {mem : Addr → Option Value} (v u : Value) (l m : List Int) (h1 : IntsM mem v l) (h2 : IntsM mem u m) (w : World) (hs : Sees mem w) :
    Calls Tryz.prog 83 #[v, u] w fun e w' => e = .returned (.bool (decide (l = m))) ∧ Below w.heap.size w w' := by
  obtain ⟨ao, cap, b, o, rfl, hcap, hm, hao, hcells⟩ := h1.open_ hs
  obtain ⟨ao2, cap2, b2, o2, rfl, hcap2, hm2, hao2, hcells2⟩ := h2.open_ hs
  have HA := Lib.hid hao
  have HA2 := Lib.hid hao2
  have HC := Lib.hid hcells
  have HC2 := Lib.hid hcells2
  have hlen : (l.length : Int) ≤ 9223372036854775807 := by unfold maxLen at hm; omega
  have hlen2 : (m.length : Int) ≤ 9223372036854775807 := by unfold maxLen at hm2; omega
  clear hao hao2 hcells hcells2 hs h1 h2 hcap hcap2 hm hm2
  by_cases hl : l.length = m.length
  · have HL := Lib.hid hl
    rw [← hl]
    clear hl
    go_enter Tryz.func83, Tryz.ntmps83
    go_wp2_with fail
    go_loopw [13] (fun i wr => ∃ k : Nat, k ≤ l.length ∧ i = .int .i64 k ∧ Below w.heap.size w wr ∧ Hid (l.take k = m.take k)) (fun i _ => l.length - (intOf i).toNat)
    case atStart => exact ⟨0, Nat.zero_le _, rfl, Below.refl _ _, Lib.hid rfl⟩
    case round =>
      obtain ⟨k, hk, rfl, hb, ht⟩ := hrel
      by_cases hlt : k < l.length
      · have hlt2 : k < m.length := by rw [← HL.out]; exact hlt
        have c1 := HC.out k hlt
        have c2 := HC2.out k hlt2
        obtain rfl := HA.out (by omega)
        obtain rfl := HA2.out (by omega)
        replace c1 := (hb.cell (p := ⟨b, o + k, none⟩) (World.block_lt_of_cell? w _ c1)).trans c1
        replace c2 := (hb.cell (p := ⟨b2, o2 + k, none⟩) (World.block_lt_of_cell? w _ c2)).trans c2
        have HE : Hid (l[k] = m[k] → l.take (k + 1) = m.take (k + 1)) := Lib.hid (take_step hlt hlt2 ht.out)
        have HN : Hid (l[k] ≠ m[k] → l ≠ m) := Lib.hid (ne_of_get hlt hlt2)
        generalize l[k] = x at *
        generalize m[k] = y at *
        have hk0 : (0 : Int) ≤ k := by omega
        have hk1 : (k : Int) < l.length := by omega
        clear ht hlt2
        by_cases hxy : x = y
        · subst hxy
          have HE2 := Lib.hid (HE.out rfl)
          clear HE
          go_wp2_with fail
          go_quiet (fail)
          go_wp2_with fail
          go_roundw
          case rel => exact ⟨k + 1, by omega, by go_num, below_drewN hb _, HE2⟩
          case measure => simp [intOf]; omega
        · have hne : (x != y) = true := by simpa using hxy
          have HNE := Lib.hid hxy
          clear hxy
          go_wp2_with fail
          go_quiet (fail)
          go_wp2_with fail
          go_ret
          exact ⟨ret_bool (by symm; exact decide_eq_false (HN.out HNE.out)), below_drewN hb _⟩
      · have e : k = l.length := by omega
        subst e
        have HF : Hid (l = m) := Lib.hid (eq_full HL.out ht.out)
        go_wp2_with fail
        go_ret
        exact ⟨ret_bool (by symm; exact decide_eq_true HF.out), hb⟩
  · have hne : decide (l.length = m.length) = false := decide_eq_false hl
    have HNE : Hid (l ≠ m) := Lib.hid (fun e => hl (by rw [e]))
    go_enter Tryz.func83, Tryz.ntmps83
    go_wp2_with fail
    all_goals first
      | (go_ret
         exact ⟨ret_bool (by symm; exact decide_eq_false HNE.out), Below.refl _ _⟩)
      | (exfalso; simp_all; done)
theorem lab_dec (t p d t2 p2 d2 : Int) (l m : List Int) : decide (({ till := t, after := l, appr := p, denied := d } : Lab) = { till := t2, after := m, appr := p2, denied := d2 }) = (decide (t = t2) && (decide (l = m) && (decide (p = p2) && decide (d = d2)))) := by
  simp only [Lab.mk.injEq, Bool.decide_and]

set_option maxRecDepth 10000 in
set_option maxHeartbeats 1000000 in
theorem labSame_any {mem : Addr → Option Value} (x y : Lab) (av bv : Value) (h1 : IntsM mem av x.after) (h2 : IntsM mem bv y.after) (w : World) (hs : Sees mem w) :
    Calls Tryz.prog 68 #[.agg (labCells x av), .agg (labCells y bv)] w fun e w' => e = .returned (.bool (decide (x = y))) ∧ Below w.heap.size w w' := by
  obtain ⟨t, l, p, d⟩ := x
  obtain ⟨t2, m, p2, d2⟩ := y
  obtain ⟨ao, cap, rfl⟩ := h1.slice
  obtain ⟨ao2, cap2, rfl⟩ := h2.slice
  dsimp only at h1 h2
  have HR := Lib.hid (lab_dec t p d t2 p2 d2 l m)
  have hB0 : ∀ o o', Below w.heap.size w ((w.alloc o).alloc o') := fun o o' => ((Below.refl _ w).alloc (Nat.le_refl _) _).alloc (by simp) _
  have HB0 := Lib.hid hB0
  clear hB0
  by_cases e1 : t = t2
  · subst e1
    have HE := Lib.hid (fun W hW => equal_any _ _ l m h1 h2 W hW)
    have HS := Lib.hid hs
    clear h1 h2 hs
    go_enter Tryz.func68, Tryz.ntmps68
    go_wp2_with fail
    refine (HE.out _ ((HS.out.alloc _).alloc _)).mono ?_
    rintro e w1 ⟨rfl, hb⟩
    have hB := (HB0.out _ _).trans (hb.mono (by simp <;> omega))
    have hc : ∀ (j : Nat) (u : Value), (labCells { till := t, after := l, appr := p, denied := d } (.slice ao l.length cap))[j]? = some u → w1.cell? ⟨w.heap.size, j, none⟩ = some u := fun j u hu => (hb.cell (p := ⟨w.heap.size, j, none⟩) (by simp <;> omega)).trans (cell_old (cell_new rfl hu))
    have hc' : ∀ (j : Nat) (u : Value), (labCells { till := t, after := m, appr := p2, denied := d2 } (.slice ao2 m.length cap2))[j]? = some u → w1.cell? ⟨w.heap.size + 1, j, none⟩ = some u := fun j u hu => (hb.cell (p := ⟨w.heap.size + 1, j, none⟩) (by simp <;> omega)).trans (cell_new (by simp) hu)
    have c2 := hc 2 _ rfl
    have c3 := hc 3 _ rfl
    have d2' := hc' 2 _ rfl
    have d3 := hc' 3 _ rfl
    clear hc hc' hb
    generalize decide (l = m) = q at *
    cases q with
    | false =>
      go_wp2_with fail
      go_ret
      exact ⟨ret_bool (by rw [HR.out]; simp), hB⟩
    | true =>
      by_cases e2 : p = p2
      · subst e2
        by_cases e3 : d = d2
        · subst e3
          go_wp2_with fail
          go_ret
          exact ⟨ret_bool (by rw [HR.out]; simp), hB⟩
        · have n3 : (d == d2) = false := by simpa using e3
          have E3 := Lib.hid e3
          clear e3
          go_wp2_with fail
          go_ret
          exact ⟨ret_bool (by rw [HR.out]; simp [E3.out]), hB⟩
      · have n2 : (p == p2) = false := by simpa using e2
        have E2 := Lib.hid e2
        clear e2
        go_wp2_with fail
        go_ret
        exact ⟨ret_bool (by rw [HR.out]; simp [E2.out]), hB⟩
  · have n1 : (t == t2) = false := by simpa using e1
    have E1 := Lib.hid e1
    clear e1 h1 h2 hs
    go_enter Tryz.func68, Tryz.ntmps68
    go_wp2_with fail
    go_ret
    exact ⟨ret_bool (by rw [HR.out]; simp [E1.out]), HB0.out _ _⟩
end Go.Proofs.YtikpbknafhnieaaGreatDoor

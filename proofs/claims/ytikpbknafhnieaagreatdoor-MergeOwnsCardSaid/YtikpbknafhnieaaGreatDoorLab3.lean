/-
  WHAT IS PROVED HERE: the walks of the reference's SameInts, and of its Same and Valid for labels. No condition.
-/
import Derived.Test.YtikpbknafhnieaaGreatDoorLab2
namespace Go.Proofs.YtikpbknafhnieaaGreatDoor
open Go.RowKit Mg

set_option maxHeartbeats 1000000 in
theorem sameInts_any {mem : Addr → Option Value} (v u : Value) (l m : List Int) (h1 : IntsM mem v l) (h2 : IntsM mem u m) (w : World) (hs : Sees mem w) :
    Calls Tryz.prog 17 #[v, u] w fun e w' => e = .returned (.bool (decide (l = m))) ∧ Below w.heap.size w w' := by
  obtain ⟨ao, cap, b, o, rfl, hcap, hm, hao, hcells⟩ := h1.open_ hs
  obtain ⟨ao2, cap2, b2, o2, rfl, hcap2, hm2, hao2, hcells2⟩ := h2.open_ hs
  have HA := Lib.hid hao
  have HA2 := Lib.hid hao2
  have HC := Lib.hid hcells
  have HC2 := Lib.hid hcells2
  have hlen : (l.length : Int) ≤ 9223372036854775807 := by unfold maxLen at hm; omega
  have hlen2 : (m.length : Int) ≤ 9223372036854775807 := by unfold maxLen at hm2; omega
  clear hao hao2 hcells hcells2 hs h1 h2 hcap hcap2 hm hm2
  by_cases hl : l.length = m.length
  · have HL := Lib.hid hl
    rw [← hl]
    clear hl
    go_enter Tryz.func17, Tryz.ntmps17
    go_wp2_with fail
    go_loopw [5] (fun i wr => ∃ k : Nat, k ≤ l.length ∧ i = .int .i64 k ∧ Below w.heap.size w wr ∧ Hid (l.take k = m.take k)) (fun i _ => l.length - (intOf i).toNat)
    case atStart => exact ⟨0, Nat.zero_le _, rfl, Below.refl _ _, Lib.hid rfl⟩
    case round =>
      obtain ⟨k, hk, rfl, hb, ht⟩ := hrel
      by_cases hlt : k < l.length
      · have hlt2 : k < m.length := by rw [← HL.out]; exact hlt
        have c1 := HC.out k hlt
        have c2 := HC2.out k hlt2
        obtain rfl := HA.out (by omega)
        obtain rfl := HA2.out (by omega)
        replace c1 := (hb.cell (p := ⟨b, o + k, none⟩) (World.block_lt_of_cell? w _ c1)).trans c1
        replace c2 := (hb.cell (p := ⟨b2, o2 + k, none⟩) (World.block_lt_of_cell? w _ c2)).trans c2
        have HE : Hid (l[k] = m[k] → l.take (k + 1) = m.take (k + 1)) := Lib.hid (take_step hlt hlt2 ht.out)
        have HN : Hid (l[k] ≠ m[k] → l ≠ m) := Lib.hid (ne_of_get hlt hlt2)
        generalize l[k] = x at *
        generalize m[k] = y at *
        have hk0 : (0 : Int) ≤ k := by omega
        have hk1 : (k : Int) < l.length := by omega
        clear ht hlt2
        by_cases hxy : x = y
        · subst hxy
          have HE2 := Lib.hid (HE.out rfl)
          clear HE
          go_wp2_with fail
          go_quiet (fail)
          go_wp2_with fail
          go_roundw
          case rel => exact ⟨k + 1, by omega, by go_num, below_drewN hb _, HE2⟩
          case measure => simp [intOf]; omega
        · have hne : (x != y) = true := by simpa using hxy
          have HNE := Lib.hid hxy
          clear hxy
          go_wp2_with fail
          go_quiet (fail)
          go_wp2_with fail
          go_ret
          exact ⟨ret_bool (by symm; exact decide_eq_false (HN.out HNE.out)), below_drewN hb _⟩
      · have e : k = l.length := by omega
        subst e
        have HF : Hid (l = m) := Lib.hid (eq_full HL.out ht.out)
        go_wp2_with fail
        go_ret
        exact ⟨ret_bool (by symm; exact decide_eq_true HF.out), hb⟩
  · have hne : decide (l.length = m.length) = false := decide_eq_false hl
    have HNE : Hid (l ≠ m) := Lib.hid (fun e => hl (by rw [e]))
    go_enter Tryz.func17, Tryz.ntmps17
    go_wp2_with fail
    all_goals first
      | (go_ret
         exact ⟨ret_bool (by symm; exact decide_eq_false HNE.out), Below.refl _ _⟩)
      | (exfalso; simp_all; done)

set_option maxRecDepth 10000 in
set_option maxHeartbeats 2000000 in
theorem labSameR_any {mem : Addr → Option Value} (x y : Lab) (av bv : Value) (h1 : IntsM mem av x.after) (h2 : IntsM mem bv y.after) (w : World) (hs : Sees mem w) :
    Calls Tryz.prog 56 #[.agg (labCells x av), .agg (labCells y bv)] w fun e w' => e = .returned (.bool (decide (x = y))) ∧ Below w.heap.size w w' := by
  obtain ⟨t, l, p, d⟩ := x
  obtain ⟨t2, m, p2, d2⟩ := y
  obtain ⟨ao, cap, b, o, rfl, hcap, hm, hao, hcells⟩ := h1.open_ hs
  obtain ⟨ao2, cap2, b2, o2, rfl, hcap2, hm2, hao2, hcells2⟩ := h2.open_ hs
  dsimp only at *
  have HA := Lib.hid hao
  have HA2 := Lib.hid hao2
  have HC := Lib.hid hcells
  have HC2 := Lib.hid hcells2
  have HR := Lib.hid (lab_dec t p d t2 p2 d2 l m)
  have hlen : (l.length : Int) ≤ 9223372036854775807 := by unfold maxLen at hm; omega
  have hlen2 : (m.length : Int) ≤ 9223372036854775807 := by unfold maxLen at hm2; omega
  have hB0 : ∀ o o', Below w.heap.size w ((w.alloc o).alloc o') := fun o o' => ((Below.refl _ w).alloc (Nat.le_refl _) _).alloc (by simp) _
  have HB0 := Lib.hid hB0
  clear hB0 hao hao2 hcells hcells2 hs h1 h2 hcap hcap2 hm hm2
  by_cases hl : l.length = m.length
  · have HL := Lib.hid hl
    rw [← hl]
    clear hl
    go_enter Tryz.func56, Tryz.ntmps56
    go_wp2_with fail
    obtain ⟨W1, HW1⟩ := named ((w.alloc (.cells (labCells { till := t, after := l, appr := p, denied := d } (.slice ao l.length cap)) 37)).alloc (.cells (labCells { till := t2, after := m, appr := p2, denied := d2 } (.slice ao2 l.length cap2)) 37))
    have hb0 : Below w.heap.size w W1 := by rw [HW1.out]; exact HB0.out _ _
    have hc : ∀ (j : Nat) (u : Value), (labCells { till := t, after := l, appr := p, denied := d } (.slice ao l.length cap))[j]? = some u → W1.cell? ⟨w.heap.size, j, none⟩ = some u := fun j u hu => by rw [HW1.out]; exact cell_old (cell_new rfl hu)
    have hc' : ∀ (j : Nat) (u : Value), (labCells { till := t2, after := m, appr := p2, denied := d2 } (.slice ao2 l.length cap2))[j]? = some u → W1.cell? ⟨w.heap.size + 1, j, none⟩ = some u := fun j u hu => by rw [HW1.out]; exact cell_new (by simp) hu
    have hz : w.heap.size + 1 < W1.heap.size := by rw [HW1.out]; simp
    have q0 := hc 0 _ rfl
    have q1 := hc 1 _ rfl
    have q2 := hc 2 _ rfl
    have q3 := hc 3 _ rfl
    have r0 := hc' 0 _ rfl
    have r1 := hc' 1 _ rfl
    have r2 := hc' 2 _ rfl
    have r3 := hc' 3 _ rfl
    have HQ := Lib.hid (And.intro (And.intro q0 (And.intro q1 (And.intro q2 q3))) (And.intro r0 (And.intro r1 (And.intro r2 r3))))
    clear hc hc' q0 q1 q2 q3 r0 r1 r2 r3
    rw [← HW1.out]
    go_loopw [5] (fun i wr => ∃ k : Nat, k ≤ l.length ∧ i = .int .i64 k ∧ Below W1.heap.size W1 wr ∧ Hid (l.take k = m.take k)) (fun i _ => l.length - (intOf i).toNat)
    case atStart => exact ⟨0, Nat.zero_le _, rfl, Below.refl _ _, Lib.hid rfl⟩
    case round =>
      obtain ⟨k, hk, rfl, hb, ht⟩ := hrel
      obtain ⟨⟨q0, q1, q2, q3⟩, ⟨r0, r1, r2, r3⟩⟩ := HQ.out
      have hx : ∀ (j : Nat) (u : Value), W1.cell? ⟨w.heap.size, j, none⟩ = some u → wr.cell? ⟨w.heap.size, j, none⟩ = some u := fun j u hu => (hb.cell (p := ⟨w.heap.size, j, none⟩) (by simp <;> omega)).trans hu
      have hx' : ∀ (j : Nat) (u : Value), W1.cell? ⟨w.heap.size + 1, j, none⟩ = some u → wr.cell? ⟨w.heap.size + 1, j, none⟩ = some u := fun j u hu => (hb.cell (p := ⟨w.heap.size + 1, j, none⟩) (by simp <;> omega)).trans hu
      replace q0 := hx _ _ q0
      replace q1 := hx _ _ q1
      replace q2 := hx _ _ q2
      replace q3 := hx _ _ q3
      replace r0 := hx' _ _ r0
      replace r1 := hx' _ _ r1
      replace r2 := hx' _ _ r2
      replace r3 := hx' _ _ r3
      have hB : Below w.heap.size w wr := hb0.trans (hb.mono (by omega))
      clear hx hx'
      by_cases hlt : k < l.length
      · have hlt2 : k < m.length := by rw [← HL.out]; exact hlt
        have c1 := HC.out k hlt
        have c2 := HC2.out k hlt2
        obtain rfl := HA.out (by omega)
        obtain rfl := HA2.out (by omega)
        replace c1 := (hB.cell (p := ⟨b, o + k, none⟩) (World.block_lt_of_cell? w _ c1)).trans c1
        replace c2 := (hB.cell (p := ⟨b2, o2 + k, none⟩) (World.block_lt_of_cell? w _ c2)).trans c2
        have HE : Hid (l[k] = m[k] → l.take (k + 1) = m.take (k + 1)) := Lib.hid (take_step hlt hlt2 ht.out)
        have HN : Hid (l[k] ≠ m[k] → l ≠ m) := Lib.hid (ne_of_get hlt hlt2)
        generalize l[k] = x at *
        generalize m[k] = y at *
        have hk0 : (0 : Int) ≤ k := by omega
        have hk1 : (k : Int) < l.length := by omega
        clear ht hlt2
        by_cases hxy : x = y
        · subst hxy
          have HE2 := Lib.hid (HE.out rfl)
          clear HE
          go_wp2_with fail
          go_quiet (fail)
          go_wp2_with fail
          go_roundw
          case rel => exact ⟨k + 1, by omega, by go_num, below_drewN hb _, HE2⟩
          case measure => simp [intOf]; omega
        · have hne : (x != y) = true := by simpa using hxy
          have HNE := Lib.hid (HN.out hxy)
          clear hxy HN
          go_wp2_with fail
          go_quiet (fail)
          go_wp2_with fail
          go_ret
          exact ⟨ret_bool (by first | (rw [HR.out]; simp [HNE.out]; done) | (simp [HNE.out]; done)), below_drewN hB _⟩
      · have e : k = l.length := by omega
        subst e
        have HF : Hid (l = m) := Lib.hid (eq_full HL.out ht.out)
        by_cases e1 : t = t2
        · subst e1
          by_cases e2 : p = p2
          · subst e2
            by_cases e3 : d = d2
            · subst e3
              go_wp2_with fail
              go_ret
              exact ⟨ret_bool (by first | (rw [HR.out]; simp [HF.out]; done) | (simp [HF.out]; done)), hB⟩
            · have n3 : (d == d2) = false := by simpa using e3
              have E3 := Lib.hid e3
              clear e3
              go_wp2_with fail
              go_ret
              exact ⟨ret_bool (by first | (rw [HR.out]; simp [E3.out]; done) | (simp [E3.out]; done)), hB⟩
          · have n2 : (p == p2) = false := by simpa using e2
            have E2 := Lib.hid e2
            clear e2
            go_wp2_with fail
            go_ret
            exact ⟨ret_bool (by first | (rw [HR.out]; simp [E2.out]; done) | (simp [E2.out]; done)), hB⟩
        · have n1 : (t == t2) = false := by simpa using e1
          have E1 := Lib.hid e1
          clear e1
          go_wp2_with fail
          go_ret
          exact ⟨ret_bool (by first | (rw [HR.out]; simp [E1.out]; done) | (simp [E1.out]; done)), hB⟩
  · have hne : decide (l.length = m.length) = false := decide_eq_false hl
    have HNE : Hid (l ≠ m) := Lib.hid (fun e => hl (by rw [e]))
    go_enter Tryz.func56, Tryz.ntmps56
    go_wp2_with fail
    all_goals first
      | (go_ret
         exact ⟨ret_bool (by first | (rw [HR.out]; simp [HNE.out]; done) | (simp [HNE.out]; done)), HB0.out _ _⟩)
      | (exfalso; simp_all; done)

def headOK (x : Lab) : Prop := 0 ≤ x.till ∧ x.till ≤ 1000000000 ∧ 0 ≤ x.appr ∧ x.appr ≤ 5 ∧ 0 ≤ x.denied ∧ x.denied ≤ 15
theorem validLab_yes {x : Lab} (h : headOK x) : validLab x = afterOK 0 x.after := by
  obtain ⟨h1, h2, h3, h4, h5, h6⟩ := h
  unfold validLab
  simp [h1, h2, h3, h4, h5, h6]
theorem validLab_no {x : Lab} (h : ¬ headOK x) : validLab x = false := by
  rw [Bool.eq_false_iff]
  intro e
  unfold validLab at e
  simp only [Bool.and_eq_true, decide_eq_true_eq] at e
  exact h ⟨e.1.1.1.1.1.1, e.1.1.1.1.1.2, e.1.1.1.1.2, e.1.1.1.2, e.1.1.2, e.1.2⟩

set_option maxRecDepth 10000 in
set_option maxHeartbeats 2000000 in
theorem labValidR_any {mem : Addr → Option Value} (x : Lab) (av : Value) (hi : IntsM mem av x.after) (w : World) (hs : Sees mem w) :
    Calls Tryz.prog 75 #[.agg (labCells x av)] w fun e w' => e = .returned (.bool (validLab x)) ∧ Below w.heap.size w w' := by
  obtain ⟨ao, cap, b, o, rfl, hcap, hm, hao, hcells⟩ := hi.open_ hs
  have HAO := Lib.hid hao
  have HC := Lib.hid hcells
  have hlen : (x.after.length : Int) ≤ 9223372036854775807 := by unfold maxLen at hm; omega
  have hB0 : ∀ o, Below w.heap.size w (w.alloc o) := fun o => (Below.refl _ w).alloc (Nat.le_refl _) _
  have HB0 := Lib.hid hB0
  clear hB0 hao hcells hi hs hcap hm
  by_cases hv : headOK x
  · have HV := Lib.hid (validLab_yes hv)
    obtain ⟨v1, v2, v3, v4, v5, v6⟩ := hv
    go_enter Tryz.func75, Tryz.ntmps75
    go_wp2_with fail
    obtain ⟨W1, HW1⟩ := named (w.alloc (.cells (labCells x (.slice ao x.after.length cap)) 37))
    have hb0 : Below w.heap.size w W1 := by rw [HW1.out]; exact HB0.out _
    have q1 : W1.cell? ⟨w.heap.size, 1, none⟩ = some (.slice ao x.after.length cap) := by rw [HW1.out]; exact cell_new rfl rfl
    have f1 : W1.heap.size = W1.heap.size := rfl
    rw [← HW1.out]
    go_loop [4, 3] (fun i s => ∃ (k : Nat) (last : Int), k ≤ x.after.length ∧ i = .int .i64 k ∧ s = .int .i64 last ∧ 0 ≤ last ∧ last ≤ 64 ∧ Hid (afterOK 0 x.after = afterOK last (x.after.drop k))) (fun i _ => x.after.length - (intOf i).toNat)
    case atStart => exact ⟨0, 0, Nat.zero_le _, rfl, rfl, by omega, by omega, Lib.hid rfl⟩
    case round =>
      obtain ⟨k, last, hk, rfl, rfl, hl0, hl1, ha⟩ := hrel
      by_cases hlt : k < x.after.length
      · have hcell := HC.out k hlt
        obtain rfl := HAO.out (by omega)
        have hcw := (hb0.cell (p := ⟨b, o + k, none⟩) (World.block_lt_of_cell? w _ hcell)).trans hcell
        have HD : Hid (afterOK 0 x.after = (decide (last + 1 ≤ x.after[k]) && decide (x.after[k] ≤ 64) && afterOK x.after[k] (x.after.drop (k + 1)))) := Lib.hid (by rw [ha.out, List.drop_eq_getElem_cons hlt, afterOK_cons])
        clear hcell ha
        generalize x.after[k] = s at *
        by_cases hok : last < s ∧ s ≤ 64
        · obtain ⟨hk1, hk2⟩ := hok
          have HD2 : Hid (afterOK 0 x.after = afterOK s (x.after.drop (k + 1))) := Lib.hid (by rw [HD.out, decide_eq_true (by omega), decide_eq_true hk2]; rfl)
          go_wp2_with fail
          go_round
          case rel => exact ⟨k + 1, s, by omega, by go_num, rfl, by omega, by omega, HD2⟩
          case measure => simp [intOf]; omega
        · have HD2 : Hid (afterOK 0 x.after = false) := Lib.hid (by
            rw [HD.out, Bool.and_eq_false_iff, Bool.and_eq_false_iff, decide_eq_false_iff_not, decide_eq_false_iff_not]
            by_cases h1 : last < s
            · exact .inl (.inr (by omega))
            · exact .inl (.inl (by omega)))
          go_wp2_with fail
          all_goals first
            | (go_ret
               exact ⟨ret_bool (by rw [HV.out, HD2.out]), hb0⟩)
            | (exfalso; omega)
      · have e : k = x.after.length := by omega
        subst e
        have HF : Hid (afterOK 0 x.after = true) := Lib.hid (by rw [ha.out, List.drop_length]; rfl)
        go_wp2_with fail
        go_ret
        exact ⟨ret_bool (by rw [HV.out, HF.out]), hb0⟩
  · have HV := Lib.hid (validLab_no hv)
    have hn : ¬ (0 ≤ x.till ∧ x.till ≤ 1000000000 ∧ 0 ≤ x.appr ∧ x.appr ≤ 5 ∧ 0 ≤ x.denied ∧ x.denied ≤ 15) := hv
    have HN := Lib.hid hn
    clear hn hv
    go_enter Tryz.func75, Tryz.ntmps75
    go_wp2_with fail
    all_goals first
      | (go_ret
         exact ⟨ret_bool (by rw [HV.out]), HB0.out _⟩)
      | (exfalso; have := HN.out; omega)
end Go.Proofs.YtikpbknafhnieaaGreatDoor

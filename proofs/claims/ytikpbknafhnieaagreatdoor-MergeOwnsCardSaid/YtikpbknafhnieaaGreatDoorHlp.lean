/-
  WHAT IS PROVED HERE: the walks of the law's helpers at, has, equal, in, alike, ordered. No condition.
-/
import Derived.Test.YtikpbknafhnieaaGreatDoorMrgW
namespace Go.Proofs.YtikpbknafhnieaaGreatDoor
open Go.RowKit Mg Go.Shelf

theorem idxI_hit {l : List Int} {x : Int} {k : Nat} (hlt : k < l.length) (hn : x ∉ l.take k) (e : l[k] = x) : idxI l x = k := by
  unfold idxI
  have hm : x ∈ l := e ▸ List.getElem_mem hlt
  rw [if_pos hm]
  have hs : l = l.take k ++ l[k] :: l.drop (k + 1) := by rw [← List.drop_eq_getElem_cons hlt, List.take_append_drop]
  have : l.idxOf x = k := by
    rw [hs, List.idxOf_append, if_neg hn, e]
    simp; omega
  rw [this]
theorem not_take {l : List Int} {x : Int} {k : Nat} (hlt : k < l.length) (hn : x ∉ l.take k) (e : l[k] ≠ x) : x ∉ l.take (k + 1) := by
  rw [List.take_succ_eq_append_getElem hlt]
  intro hm
  rcases List.mem_append.1 hm with hm | hm
  · exact hn hm
  · rw [List.mem_singleton] at hm; exact e hm.symm

set_option maxHeartbeats 1000000 in
theorem at_any {mem : Addr → Option Value} (v : Value) (l : List Blk) (h : BlksM mem v l) (x : Int) (w : World) (hs : Sees mem w) :
    Calls Tryz.prog 21 #[v, .int .i64 x] w fun e w' => e = .returned (.int .i64 (idxI (ids l) x)) ∧ w = w' := by
  obtain ⟨ao, cap, b, o, rfl, hcap, hm, hao, hblks⟩ := h.open_
  have HA := Lib.hid hao
  have HC := Lib.hid hblks
  have HS := Lib.hid hs
  have hlen : (l.length : Int) ≤ 9223372036854775807 := by unfold maxLen at hm; omega
  have HL : Hid ((ids l).length = l.length) := Lib.hid (by rw [List.length_map])
  clear hao hblks hs h hcap hm
  go_enter Tryz.func21, Tryz.ntmps21
  go_wp2_with fail
  go_loop [5] (fun i => ∃ k : Nat, k ≤ l.length ∧ i = .int .i64 k ∧ Hid (x ∉ (ids l).take k)) (fun i => l.length - (Go.RowKit.intOf i).toNat)
  case atStart => exact ⟨0, Nat.zero_le _, rfl, Lib.hid (by simp)⟩
  case round =>
    obtain ⟨k, hk, rfl, hn⟩ := hrel
    by_cases hlt : k < l.length
    · obtain ⟨_, lo, lc, _, c9⟩ := (HC.out k hlt).nine HS.out
      have c1 := c9.c0
      clear c9
      obtain rfl := HA.out (by omega)
      have HE : Hid (l[k].id = x → idxI (ids l) x = k) := Lib.hid (fun e => idxI_hit (by rw [HL.out]; exact hlt) hn.out (by rw [List.getElem_map]; exact e))
      have HN : Hid (l[k].id ≠ x → x ∉ (ids l).take (k + 1)) := Lib.hid (fun e => not_take (by rw [HL.out]; exact hlt) hn.out (by rw [List.getElem_map]; exact e))
      generalize l[k].id = y at *
      clear hn
      by_cases hxy : y = x
      · have e1 : (y == x) = true := by simpa using hxy
        have HF := Lib.hid (HE.out hxy)
        clear hxy HE HN
        go_wp2_with fail
        go_ret
        exact ⟨ret_int (by rw [HF.out]), rfl⟩
      · have e1 : (y == x) = false := by simpa using hxy
        have HF := Lib.hid (HN.out hxy)
        clear hxy HE HN
        go_wp2_with fail
        go_round
        case rel => exact ⟨k + 1, by omega, by go_num, HF⟩
        case measure => simp [Go.RowKit.intOf]; omega
    · have e : k = l.length := by omega
      subst e
      have HF : Hid (x ∉ ids l) := Lib.hid (by have := hn.out; rwa [← HL.out, List.take_length] at this)
      go_wp2_with fail
      go_ret
      exact ⟨ret_int (by unfold idxI; rw [if_neg HF.out]), rfl⟩

set_option maxHeartbeats 1000000 in
theorem has_any {mem : Addr → Option Value} (v : Value) (l : List Int) (h : IntsM mem v l) (x : Int) (w : World) (hs : Sees mem w) :
    Calls Tryz.prog 20 #[v, .int .i64 x] w fun e w' => e = .returned (.bool (decide (x ∈ l))) ∧ w = w' := by
  obtain ⟨ao, cap, b, o, rfl, hcap, hm, hao, hcells⟩ := h.open_ hs
  have HA := Lib.hid hao
  have HC := Lib.hid hcells
  have hlen : (l.length : Int) ≤ 9223372036854775807 := by unfold maxLen at hm; omega
  clear hao hcells hs h hcap hm
  go_enter Tryz.func20, Tryz.ntmps20
  go_wp2_with fail
  go_loop [5] (fun i => ∃ k : Nat, k ≤ l.length ∧ i = .int .i64 k ∧ Hid (x ∉ l.take k)) (fun i => l.length - (Go.RowKit.intOf i).toNat)
  case atStart => exact ⟨0, Nat.zero_le _, rfl, Lib.hid (by simp)⟩
  case round =>
    obtain ⟨k, hk, rfl, hn⟩ := hrel
    by_cases hlt : k < l.length
    · have c1 := HC.out k hlt
      obtain rfl := HA.out (by omega)
      have HE : Hid (l[k] = x → x ∈ l) := Lib.hid (fun e => e ▸ List.getElem_mem hlt)
      have HN : Hid (l[k] ≠ x → x ∉ l.take (k + 1)) := Lib.hid (fun e => not_take hlt hn.out e)
      generalize l[k] = y at *
      clear hn
      by_cases hxy : y = x
      · have e1 : (y == x) = true := by simpa using hxy
        have HF := Lib.hid (HE.out hxy)
        clear hxy HE HN
        go_wp2_with fail
        go_ret
        exact ⟨ret_true (decide_eq_true HF.out), rfl⟩
      · have e1 : (y == x) = false := by simpa using hxy
        have HF := Lib.hid (HN.out hxy)
        clear hxy HE HN
        go_wp2_with fail
        go_round
        case rel => exact ⟨k + 1, by omega, by go_num, HF⟩
        case measure => simp [Go.RowKit.intOf]; omega
    · have e : k = l.length := by omega
      subst e
      have HF : Hid (x ∉ l) := Lib.hid (by have := hn.out; rwa [List.take_length] at this)
      go_wp2_with fail
      go_ret
      exact ⟨ret_false (decide_eq_false HF.out), rfl⟩
theorem idx_find {l : List Blk} {i : Int} (h : i ∈ ids l) : ∃ (k : Nat) (hk : k < l.length), idxI (ids l) i = k ∧ find l i = some l[k] := by
  obtain ⟨x, hx⟩ := Option.ne_none_iff_exists'.1 (fun e : find l i = none => find_none.1 e h)
  have hlt := List.idxOf_lt_length_iff.2 h
  have hl : (ids l).length = l.length := by rw [List.length_map]
  refine ⟨(ids l).idxOf i, by omega, by unfold idxI; rw [if_pos h], ?_⟩
  have hid : l[(ids l).idxOf i].id = i := by
    have : (ids l)[(ids l).idxOf i] = i := List.getElem_idxOf hlt
    rwa [List.getElem_map] at this
  unfold find
  rw [List.find?_eq_some_iff_getElem]
  refine ⟨by simpa using hid, (ids l).idxOf i, by omega, rfl, fun j hj => ?_⟩
  have hne : (ids l)[j]'(by omega) ≠ i := fun e => by
    have h2 := List.not_of_lt_findIdx (p := (· == i)) (xs := ids l) (i := j) hj
    rw [e] at h2
    simp at h2
  rw [List.getElem_map] at hne
  simpa using hne
theorem idx_none {l : List Blk} {i : Int} (h : i ∉ ids l) : idxI (ids l) i = -1 ∧ find l i = none := ⟨by unfold idxI; rw [if_neg h], find_none.2 h⟩

set_option maxRecDepth 10000 in
set_option maxHeartbeats 4000000 in
theorem equal_law {mem : Addr → Option Value} {v u : Value} {a b : List Blk} (h1 : BlksM mem v a) (h2 : BlksM mem u b) (i : Int) (w : World) (hs : Sees mem w) :
    Calls Tryz.prog 19 #[v, u, .int .i64 i] w fun e w' => e = .returned (.bool (decide (find a i = find b i))) ∧ Below w.heap.size w w' := by
  have ca := at_any v a h1 i w hs
  have cb := at_any u b h2 i w hs
  obtain ⟨ao, cap, g, o, rfl, hcap, hm, hao, hblks⟩ := h1.open_
  obtain ⟨ao2, cap2, g2, o2, rfl, hcap2, hm2, hao2, hblks2⟩ := h2.open_
  have hlen : (a.length : Int) ≤ 9223372036854775807 := by unfold maxLen at hm; omega
  have hlen2 : (b.length : Int) ≤ 9223372036854775807 := by unfold maxLen at hm2; omega
  by_cases p : i ∈ ids a
  · obtain ⟨k, hk, e1, f1⟩ := idx_find p
    rw [e1] at ca
    by_cases q : i ∈ ids b
    · obtain ⟨m, hm', e2, f2⟩ := idx_find q
      rw [e2] at cb
      obtain ⟨_, lo, lc, hi, c9⟩ := (hblks k hk).nine hs
      obtain ⟨_, lo2, lc2, hi2, d9⟩ := (hblks2 m hm').nine hs
      obtain rfl := hao (by omega)
      obtain rfl := hao2 (by omega)
      have HR : Hid (decide (find a i = find b i) = decide (a[k] = b[m])) := Lib.hid (by rw [f1, f2]; simp)
      have hC := fun W hW => same_any a[k] b[m] _ _ hi hi2 W hW
      obtain ⟨c0, c1, c2, c3, c4, c5, c6, c7, c8⟩ := c9
      obtain ⟨d0, d1, d2, d3, d4, d5, d6, d7, d8⟩ := d9
      clear f1 f2 e1 e2 p q hao hao2 hblks hblks2 h1 h2 hcap hcap2 hm hm2 hi hi2
      have HS := Lib.hid hs
      have hk0 : (0 : Int) ≤ k := by omega
      have hk1 : (k : Int) < a.length := by omega
      have hm0 : (0 : Int) ≤ m := by omega
      have hm1 : (m : Int) < b.length := by omega
      generalize a[k] = x at *
      generalize b[m] = y at *
      generalize decide (x = y) = q at *
      have HC := Lib.hid hC
      clear hC hs
      go_enter Tryz.func19, Tryz.ntmps19
      go_wp2_with fail
      refine ca.mono ?_
      rintro e w' ⟨rfl, rfl⟩
      go_wp2_with fail
      refine cb.mono ?_
      rintro e w' ⟨rfl, rfl⟩
      clear ca cb
      go_wp2_with fail
      refine wp_tail 8 (by kernel_rfl) (by kernel_rfl) ?_
      simp only [List.take_succ_cons, List.take_zero, List.drop_succ_cons, List.drop_zero]
      repeat still_step
      refine wpStill_nil ?_
      go_wp2_with fail
      refine (HC.out _ HS.out.drew).mono ?_
      rintro e w3 ⟨rfl, hb3⟩
      go_wp2_with fail
      go_ret
      exact ⟨ret_bool HR.out.symm, ((Below.refl _ w).drew).trans hb3⟩
    · obtain ⟨e2, f2⟩ := idx_none q
      rw [e2] at cb
      have HR : Hid (decide (find a i = find b i) = false) := Lib.hid (by rw [f1, f2]; simp)
      clear f1 f2 e1 e2 p q hao hao2 hblks hblks2 h1 h2 hcap hcap2 hm hm2 hs
      go_enter Tryz.func19, Tryz.ntmps19
      go_wp2_with fail
      refine ca.mono ?_
      rintro e w' ⟨rfl, rfl⟩
      go_wp2_with fail
      refine cb.mono ?_
      rintro e w' ⟨rfl, rfl⟩
      clear ca cb
      go_wp2_with fail
      go_ret
      exact ⟨ret_false HR.out, Below.refl _ _⟩
  · obtain ⟨e1, f1⟩ := idx_none p
    rw [e1] at ca
    by_cases q : i ∈ ids b
    · obtain ⟨m, hm', e2, f2⟩ := idx_find q
      rw [e2] at cb
      have HR : Hid (decide (find a i = find b i) = false) := Lib.hid (by rw [f1, f2]; simp)
      clear f1 f2 e1 e2 p q hao hao2 hblks hblks2 h1 h2 hcap hcap2 hm hm2 hs
      go_enter Tryz.func19, Tryz.ntmps19
      go_wp2_with fail
      refine ca.mono ?_
      rintro e w' ⟨rfl, rfl⟩
      go_wp2_with fail
      refine cb.mono ?_
      rintro e w' ⟨rfl, rfl⟩
      clear ca cb
      go_wp2_with fail
      go_ret
      exact ⟨ret_false HR.out, Below.refl _ _⟩
    · obtain ⟨e2, f2⟩ := idx_none q
      rw [e2] at cb
      have HR : Hid (decide (find a i = find b i) = true) := Lib.hid (by rw [f1, f2]; simp)
      clear f1 f2 e1 e2 p q hao hao2 hblks hblks2 h1 h2 hcap hcap2 hm hm2 hs
      go_enter Tryz.func19, Tryz.ntmps19
      go_wp2_with fail
      refine ca.mono ?_
      rintro e w' ⟨rfl, rfl⟩
      go_wp2_with fail
      refine cb.mono ?_
      rintro e w' ⟨rfl, rfl⟩
      clear ca cb
      go_wp2_with fail
      go_ret
      exact ⟨ret_true HR.out, Below.refl _ _⟩
/-- the blocks of a stand so in b -/
def allIn (a b : List Blk) : Bool := a.all fun x => decide (find a x.id = find b x.id)
theorem allIn_iff {a b : List Blk} : allIn a b = true ↔ ∀ x ∈ a, find a x.id = find b x.id := by
  unfold allIn; rw [List.all_eq_true]; simp
set_option maxRecDepth 10000 in
set_option maxHeartbeats 2000000 in
theorem in_any {mem : Addr → Option Value} {v u : Value} {a b : List Blk} (h1 : BlksM mem v a) (h2 : BlksM mem u b) (w : World) (hs : Sees mem w) :
    Calls Tryz.prog 45 #[v, u] w fun e w' => e = .returned (.bool (allIn a b)) ∧ Below w.heap.size w w' := by
  have HE := Lib.hid (fun i W hW => equal_law h1 h2 i W hW)
  obtain ⟨ao, cap, g, o, rfl, hcap, hm, hao, hblks⟩ := h1.open_
  obtain ⟨ao2, cap2, rfl⟩ := h2.slice
  have HA := Lib.hid hao
  have HC := Lib.hid hblks
  have HS := Lib.hid hs
  have hlen : (a.length : Int) ≤ 9223372036854775807 := by unfold maxLen at hm; omega
  clear hao hblks h1 h2 hs hcap hm
  go_enter Tryz.func45, Tryz.ntmps45
  go_wp2_with fail
  go_loopw [5] (fun i wr => ∃ k : Nat, k ≤ a.length ∧ i = .int .i64 k ∧ Below w.heap.size w wr ∧ Hid (∀ j (h : j < k) (h' : j < a.length), find a a[j].id = find b a[j].id)) (fun i _ => a.length - (Go.RowKit.intOf i).toNat)
  case atStart => exact ⟨0, Nat.zero_le _, rfl, Below.refl _ _, Lib.hid (fun j h _ => absurd h (by omega))⟩
  case round =>
    obtain ⟨k, hk, rfl, hb, hn⟩ := hrel
    by_cases hlt : k < a.length
    · obtain ⟨_, lo, lc, _, c9⟩ := (HC.out k hlt).nine (HS.out.bel hb)
      have c1 := c9.c0
      clear c9
      obtain rfl := HA.out (by omega)
      have HY : Hid (find a a[k].id = find b a[k].id → ∀ j (h : j < k + 1) (h' : j < a.length), find a a[j].id = find b a[j].id) := Lib.hid (fun e j h h' => by
        by_cases ej : j = k
        · subst ej; exact e
        · exact hn.out j (by omega) h')
      have HN : Hid (find a a[k].id ≠ find b a[k].id → allIn a b = false) := Lib.hid (fun e => by
        rw [← Bool.not_eq_true, allIn_iff]
        exact fun h => e (h _ (List.getElem_mem hlt)))
      generalize a[k].id = y at *
      have hc := HE.out y wr (HS.out.bel hb)
      clear hn
      by_cases hq : find a y = find b y
      · rw [decide_eq_true hq] at hc
        have HF := Lib.hid (HY.out hq)
        clear HY HN hq
        go_wp2_with fail
        refine hc.mono ?_
        rintro e w2 ⟨rfl, hb2⟩
        have hb3 := hb.trans (hb2.mono hb.size)
        clear hb2 hc
        go_wp2_with fail
        go_roundw
        case rel => exact ⟨k + 1, by omega, by go_num, hb3, HF⟩
        case measure => simp [Go.RowKit.intOf]; omega
      · rw [decide_eq_false hq] at hc
        have HF := Lib.hid (HN.out hq)
        clear HY HN hq
        go_wp2_with fail
        refine hc.mono ?_
        rintro e w2 ⟨rfl, hb2⟩
        have hb3 := hb.trans (hb2.mono hb.size)
        clear hb2 hc
        go_wp2_with fail
        go_ret
        exact ⟨ret_bool HF.out.symm, hb3⟩
    · have e : k = a.length := by omega
      subst e
      have HF : Hid (allIn a b = true) := Lib.hid (allIn_iff.2 (fun x hx => by
        obtain ⟨j, hj, rfl⟩ := List.getElem_of_mem hx
        exact hn.out j hj hj))
      go_wp2_with fail
      go_ret
      exact ⟨ret_bool HF.out.symm, hb⟩
set_option maxHeartbeats 1000000 in
theorem alike_any {mem : Addr → Option Value} {v u : Value} {a b : List Blk} (h1 : BlksM mem v a) (h2 : BlksM mem u b) (w : World) (hs : Sees mem w) :
    Calls Tryz.prog 22 #[v, u] w fun e w' => e = .returned (.bool (allIn a b && allIn b a)) ∧ Below w.heap.size w w' := by
  have c1 := fun W hW => in_any h1 h2 W hW
  have c2 := fun W hW => in_any h2 h1 W hW
  obtain ⟨ao, cap, rfl⟩ := h1.slice
  obtain ⟨ao2, cap2, rfl⟩ := h2.slice
  generalize allIn a b = p at *
  generalize allIn b a = q at *
  clear h1 h2
  cases p <;> cases q
  all_goals
    go_enter Tryz.func22, Tryz.ntmps22
    go_wp2_with fail
    refine (c1 w hs).mono ?_
    rintro e w2 ⟨rfl, hb2⟩
    go_wp2_with fail
    refine (c2 w2 (hs.bel hb2)).mono ?_
    rintro e w3 ⟨rfl, hb3⟩
    go_wp2_with fail
    go_ret
    exact ⟨rfl, hb2.trans (hb3.mono hb2.size)⟩
set_option maxRecDepth 10000 in
set_option maxHeartbeats 2000000 in
theorem ordered_any {mem : Addr → Option Value} {v u : Value} {a b : List Blk} (h1 : BlksM mem v a) (h2 : BlksM mem u b) (w : World) (hs : Sees mem w) :
    Calls Tryz.prog 23 #[v, u] w fun e w' => e = .returned (.bool (!movedL (ids b) (-1) (ids a))) ∧ Below w.heap.size w w' := by
  have HE := Lib.hid (fun i W hW => at_any u b h2 i W hW)
  obtain ⟨ao, cap, g, o, rfl, hcap, hm, hao, hblks⟩ := h1.open_
  have hm2 : b.length ≤ maxLen := by obtain ⟨_, _, _, _, _, h3, h4, _⟩ := h2.open_; omega
  obtain ⟨ao2, cap2, rfl⟩ := h2.slice
  have HA := Lib.hid hao
  have HC := Lib.hid hblks
  have HS := Lib.hid hs
  have hlen : (a.length : Int) ≤ 9223372036854775807 := by unfold maxLen at hm; omega
  have HL2 : Hid ((ids b).length ≤ 9223372036854775807) := Lib.hid (by rw [List.length_map]; unfold maxLen at hm2; omega)
  clear hao hblks h1 h2 hs hcap hm hm2
  go_enter Tryz.func23, Tryz.ntmps23
  go_wp2_with fail
  go_loopw [6, 5] (fun i l wr => ∃ (k : Nat) (last : Int), k ≤ a.length ∧ i = .int .i64 k ∧ l = .int .i64 last ∧ -1 ≤ last ∧ last ≤ 9223372036854775807 ∧ Below w.heap.size w wr ∧ Hid (movedL (ids b) (-1) (ids a) = movedL (ids b) last ((ids a).drop k))) (fun i _ _ => a.length - (Go.RowKit.intOf i).toNat)
  case atStart => exact ⟨0, -1, Nat.zero_le _, rfl, rfl, by omega, by omega, Below.refl _ _, Lib.hid rfl⟩
  case round =>
    obtain ⟨k, last, hk, rfl, rfl, hl0, hl1, hb, hn⟩ := hrel
    by_cases hlt : k < a.length
    · obtain ⟨_, lo, lc, _, c9⟩ := (HC.out k hlt).nine (HS.out.bel hb)
      have c1 := c9.c0
      clear c9
      obtain rfl := HA.out (by omega)
      have hd : (ids a).drop k = a[k].id :: (ids a).drop (k + 1) := by
        rw [List.drop_eq_getElem_cons (by rw [List.length_map]; exact hlt), List.getElem_map]
      rw [hd] at hn
      clear hd
      generalize a[k].id = y at *
      have hc := HE.out y wr (HS.out.bel hb)
      have hmv : Hid (movedL (ids b) last (y :: (ids a).drop (k + 1)) = if y ∈ ids b then (if ((ids b).idxOf y : Int) < last then true else movedL (ids b) ((ids b).idxOf y) ((ids a).drop (k + 1))) else movedL (ids b) last ((ids a).drop (k + 1))) := Lib.hid rfl
      by_cases hq : y ∈ ids b
      · have e1 : idxI (ids b) y = ((ids b).idxOf y : Nat) := by unfold idxI; rw [if_pos hq]
        have hjl := List.idxOf_lt_length_iff.2 hq
        have hL2 := HL2.out
        rw [e1] at hc
        have hmv2 := Lib.hid (hn.out.trans hmv.out)
        rw [if_pos hq] at hmv2
        generalize (ids b).idxOf y = j at *
        clear hn hmv hq e1
        by_cases hjj : (j : Int) < last
        · rw [if_pos hjj] at hmv2
          go_wp2_with fail
          refine hc.mono ?_
          rintro e w2 ⟨rfl, rfl⟩
          clear hc
          go_wp2_with fail
          go_ret
          exact ⟨ret_bool (by rw [hmv2.out]; rfl), hb⟩
        · rw [if_neg hjj] at hmv2
          go_wp2_with fail
          refine hc.mono ?_
          rintro e w2 ⟨rfl, rfl⟩
          clear hc
          go_wp2_with fail
          go_roundw
          case rel => exact ⟨k + 1, j, by omega, by go_num, rfl, by omega, by omega, hb, hmv2⟩
          case measure => simp [Go.RowKit.intOf]; omega
      · have e1 : idxI (ids b) y = -1 := by unfold idxI; rw [if_neg hq]
        rw [e1] at hc
        have hmv2 := Lib.hid (hn.out.trans hmv.out)
        rw [if_neg hq] at hmv2
        clear hn hmv hq e1
        go_wp2_with fail
        refine hc.mono ?_
        rintro e w2 ⟨rfl, rfl⟩
        clear hc
        go_wp2_with fail
        go_roundw
        case rel => exact ⟨k + 1, last, by omega, by go_num, rfl, by omega, by omega, hb, hmv2⟩
        case measure => simp [Go.RowKit.intOf]; omega
    · have e : k = a.length := by omega
      subst e
      have HF : Hid (movedL (ids b) (-1) (ids a) = false) := Lib.hid (by
        rw [hn.out, List.drop_of_length_le (by rw [List.length_map]; omega)]; rfl)
      go_wp2_with fail
      go_ret
      exact ⟨ret_bool (by rw [HF.out]; rfl), hb⟩
end Go.Proofs.YtikpbknafhnieaaGreatDoor

/-
  WHAT IS PROVED HERE: the walks of label.within, label.Valid, slices.Equal at ints, label.Same. No condition but that the lengths fit.
-/
import Derived.Test.YtikpbknafhnieaaGreatDoorBlk
import Derived.Test.YtikpbknafhnieaaGreatDoorProg
import Derived.Deep.QuietTactic
import Derived.BigQuiet
namespace Go.Proofs.YtikpbknafhnieaaGreatDoor
open Go.RowKit Mg

theorem ret_bool {a b : Bool} (h : a = b) : Ending.returned (.bool a) = .returned (.bool b) := by rw [h]
def inB (x : Int × Int × Int) : Bool := decide (x.2.1 ≤ x.1) && decide (x.1 ≤ x.2.2)
theorem all_take {α : Type} {p : α → Bool} {l : List α} (k : Nat) (hk : k < l.length) : (l.take (k + 1)).all p = ((l.take k).all p && p l[k]) := by
  rw [List.take_succ_eq_append_getElem hk, List.all_append]; simp
theorem all_of_not {α : Type} {p : α → Bool} {l : List α} (k : Nat) (hk : k < l.length) (h : p l[k] = false) : l.all p = false := by
  rw [List.all_eq_false]; exact ⟨l[k], List.getElem_mem hk, by rw [h]; simp⟩
theorem all_full {α : Type} {p : α → Bool} {l : List α} (h : (l.take l.length).all p = true) : l.all p = true := by rwa [List.take_length] at h

set_option maxHeartbeats 400000 in
theorem within_any (g cap : Nat) (l : List (Int × Int × Int)) (w : World) (hl : l.length ≤ 1000) (hc : l.length ≤ cap)
    (h : ∀ j (hj : j < l.length), w.cell? ⟨g, j * 3, none⟩ = some (.int .i64 l[j].1) ∧ w.cell? ⟨g, j * 3 + 1, none⟩ = some (.int .i64 l[j].2.1) ∧ w.cell? ⟨g, j * 3 + 2, none⟩ = some (.int .i64 l[j].2.2)) :
    Calls Tryz.prog 82 #[.slice (some ⟨g, 0, none⟩) l.length cap] w fun e w' => e = .returned (.bool (l.all inB)) ∧ Below w.heap.size w w' := by
  have H := Lib.hid h
  have HC := Lib.hid hc
  clear h hc
  go_enter Tryz.func82, Tryz.ntmps82
  go_wp2
  go_loopw [7] (fun i wr => ∃ k : Nat, k ≤ l.length ∧ i = .int .i64 k ∧ Below w.heap.size w wr ∧ (l.take k).all inB = true) (fun i _ => l.length - (intOf i).toNat)
  case atStart => exact ⟨0, Nat.zero_le _, rfl, Below.refl _ _, rfl⟩
  case round =>
    obtain ⟨k, hk, rfl, hb, ha⟩ := hrel
    have HA := Lib.hid ha
    clear ha
    by_cases hlt : k < l.length
    · obtain ⟨c0, c1, c2⟩ := H.out k hlt
      have hcell : ∀ (o : Nat) (v : Value), w.cell? ⟨g, o, none⟩ = some v → wr.cell? ⟨g, o, none⟩ = some v := fun o v hv => (hb.cell (p := ⟨g, o, none⟩) (World.block_lt_of_cell? w _ hv)).trans hv
      replace c0 := hcell _ _ c0
      replace c1 := hcell _ _ c1
      replace c2 := hcell _ _ c2
      have HS : Hid ((l.take (k + 1)).all inB = (decide (l[k].2.1 ≤ l[k].1) && decide (l[k].1 ≤ l[k].2.2))) := Lib.hid (by rw [all_take k hlt, HA.out]; rfl)
      have HN : Hid (inB l[k] = false → l.all inB = false) := Lib.hid (all_of_not k hlt)
      have HE : Hid (inB l[k] = (decide (l[k].2.1 ≤ l[k].1) && decide (l[k].1 ≤ l[k].2.2))) := Lib.hid rfl
      generalize l[k].1 = x at *
      generalize l[k].2.1 = y at *
      generalize l[k].2.2 = z at *
      clear hcell
      go_wp2
      all_goals first
        | (go_roundw
           case rel => exact ⟨k + 1, by omega, by go_num, hb.alloc hb.size _, by rw [HS.out, Bool.and_eq_true, decide_eq_true_eq, decide_eq_true_eq]; omega⟩
           case measure => simp [intOf]; omega)
        | (go_ret
           exact ⟨ret_bool (by rw [HN.out (by rw [HE.out, Bool.and_eq_false_iff, decide_eq_false_iff_not, decide_eq_false_iff_not]; omega)]), hb.alloc hb.size _⟩)
    · have e : k = l.length := by omega
      subst e
      go_wp2
      go_ret
      exact ⟨ret_bool (by rw [all_full HA.out]), hb⟩
theorem cell_new {w : World} {cs : Array Value} {t : TypeId} {g j : Nat} {v : Value} (hg : g = w.heap.size) (h : cs[j]? = some v) : (w.alloc (.cells cs t)).cell? ⟨g, j, none⟩ = some v := by
  subst hg
  rw [World.cell?_alloc_at _ _ _ _ (by first | rfl | simp)]; exact h
theorem cell_old {w : World} {o : Obj} {p : Addr} {v : Value} (h : w.cell? p = some v) : (w.alloc o).cell? p = some v := by
  rw [World.cell?_alloc_lt _ _ _ (World.block_lt_of_cell? w p h)]; exact h
theorem afterOK_cons {last s : Int} {r : List Int} : afterOK last (s :: r) = (decide (last + 1 ≤ s) && decide (s ≤ 64) && afterOK s r) := rfl

set_option maxRecDepth 10000 in
set_option maxHeartbeats 1000000 in
theorem labValid_any {mem : Addr → Option Value} (x : Lab) (av : Value) (hi : IntsM mem av x.after) (w : World) (hs : Sees mem w) :
    Calls Tryz.prog 67 #[.agg (labCells x av)] w fun e w' => e = .returned (.bool (validLab x)) ∧ Below w.heap.size w w' := by
  obtain ⟨ao, cap, b, o, rfl, hcap, hm, hao, hcells⟩ := hi.open_ hs
  have HAO := Lib.hid hao
  have HC := Lib.hid hcells
  have hlen : (x.after.length : Int) ≤ 9223372036854775807 := by unfold maxLen at hm; omega
  clear hao hcells hi hs hcap hm
  have HV : Hid (validLab x = (([(x.till, 0, 1000000000), (x.appr, 0, 5), (x.denied, 0, 15)] : List (Int × Int × Int)).all inB && afterOK 0 x.after)) := Lib.hid (by
    unfold validLab
    simp [inB, Bool.and_assoc])
  go_enter Tryz.func67, Tryz.ntmps67
  go_wp2_with fail
  refine (within_any _ _ [(x.till, 0, 1000000000), (x.appr, 0, 5), (x.denied, 0, 15)] _ (by simp) (by simp) ?_).mono ?_
  · intro j hj
    match j, hj with
    | 0, _ => exact ⟨cell_new (by simp) rfl, cell_new (by simp) rfl, cell_new (by simp) rfl⟩
    | 1, _ => exact ⟨cell_new (by simp) rfl, cell_new (by simp) rfl, cell_new (by simp) rfl⟩
    | 2, _ => exact ⟨cell_new (by simp) rfl, cell_new (by simp) rfl, cell_new (by simp) rfl⟩
  rintro e w1 ⟨rfl, hb1⟩
  have hB1 : Below w.heap.size w w1 := (((Below.refl _ w).alloc (Nat.le_refl _) _).alloc (by simp) _).trans (hb1.mono (by simp; omega))
  have hc1 : w1.cell? ⟨w.heap.size, 1, none⟩ = some (.slice ao x.after.length cap) := (hb1.cell (p := ⟨w.heap.size, 1, none⟩) (by simp <;> omega)).trans (cell_old (cell_new rfl rfl))
  clear hb1
  generalize hP : ([(x.till, 0, 1000000000), (x.appr, 0, 5), (x.denied, 0, 15)] : List (Int × Int × Int)).all inB = P at *
  clear hP
  cases P with
  | false =>
    go_wp2_with fail
    go_ret
    exact ⟨ret_bool (by rw [HV.out]; rfl), hB1⟩
  | true =>
    go_wp2_with fail
    go_loopw [21, 3] (fun i s wr => ∃ (k : Nat) (last : Int), k ≤ x.after.length ∧ i = .int .i64 k ∧ s = .int .i64 last ∧ 0 ≤ last ∧ last ≤ 64 ∧ Below w.heap.size w wr ∧ Hid (afterOK 0 x.after = afterOK last (x.after.drop k))) (fun i _ _ => x.after.length - (intOf i).toNat)
    case atStart => exact ⟨0, 0, Nat.zero_le _, rfl, rfl, by omega, by omega, hB1, Lib.hid rfl⟩
    case round =>
      obtain ⟨k, last, hk, rfl, rfl, hl0, hl1, hb, ha⟩ := hrel
      by_cases hlt : k < x.after.length
      · have hcell := HC.out k hlt
        obtain rfl := HAO.out (by omega)
        have hcw := (hb.cell (p := ⟨b, o + k, none⟩) (World.block_lt_of_cell? w _ hcell)).trans hcell
        have HD : Hid (afterOK 0 x.after = (inB (x.after[k], last + 1, 64) && afterOK x.after[k] (x.after.drop (k + 1)))) := Lib.hid (by rw [ha.out, List.drop_eq_getElem_cons hlt, afterOK_cons]; rfl)
        have HI : Hid (inB (x.after[k], last + 1, 64) = true → last + 1 ≤ x.after[k] ∧ x.after[k] ≤ 64) := Lib.hid (by simp [inB])
        clear hcell ha
        generalize x.after[k] = s at *
        go_wp2_with fail
        refine (within_any _ _ [(s, last + 1, 64)] _ (by simp) (by simp) ?_).mono ?_
        · intro j hj
          match j, hj with
          | 0, _ => exact ⟨cell_new (by simp) rfl, cell_new (by simp) rfl, cell_new (by simp) rfl⟩
        rintro e w2 ⟨rfl, hb2⟩
        have hB2 : Below w.heap.size w w2 := (hb.alloc hb.size _).trans (hb2.mono (by have := hb.size; simp; omega))
        have e1 : ([(s, last + 1, 64)] : List (Int × Int × Int)).all inB = inB (s, last + 1, 64) := by simp
        rw [e1]
        clear hb2 e1
        generalize inB (s, last + 1, 64) = Q at *
        cases Q with
        | false =>
          go_wp2_with fail
          go_ret
          exact ⟨ret_bool (by rw [HV.out, HD.out]; rfl), hB2⟩
        | true =>
          have hq := HI.out rfl
          go_wp2_with fail
          go_roundw
          case rel => exact ⟨k + 1, s, by omega, by go_num, rfl, by omega, by omega, hB2, Lib.hid HD.out⟩
          case measure => simp [intOf]; omega
      · have e : k = x.after.length := by omega
        subst e
        have HF : Hid (afterOK 0 x.after = true) := Lib.hid (by rw [ha.out, List.drop_length]; rfl)
        go_wp2_with fail
        go_ret
        exact ⟨ret_bool (by rw [HV.out, HF.out]; rfl), hb⟩
end Go.Proofs.YtikpbknafhnieaaGreatDoor

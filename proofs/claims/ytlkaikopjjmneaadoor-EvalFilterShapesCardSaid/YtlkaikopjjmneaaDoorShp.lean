/-
  WHAT IS PROVED HERE: the walk of the statement EvalFilterShapes: it returns true. Conditions: strconv's table lies in memory.
-/
import Derived.Test.YtlkaikopjjmneaaDoorAgn
namespace Go.Proofs.YtlkaikopjjmneaaDoor
open Go.RowKit

theorem esc1_ok (c : UInt8) : ∀ d ∈ esc1 c, d ≠ 60 ∧ d ≠ 62 ∧ d ≠ 34 := by
  have := u8_all (P := fun c => decide (∀ d ∈ esc1 c, d ≠ 60 ∧ d ≠ 62 ∧ d ≠ 34)) (by decide +kernel) c
  simpa using this
theorem escF_ok (l : List UInt8) : ∀ d ∈ escF l, d ≠ 60 ∧ d ≠ 62 ∧ d ≠ 34 := by
  intro d hd
  obtain ⟨c, _, h⟩ := List.mem_flatMap.1 hd
  exact esc1_ok c d h
theorem esc1_ge (c : UInt8) : 1 ≤ (esc1 c).length := by
  unfold esc1; repeat' split
  all_goals simp
theorem escF_ge (l : List UInt8) : l.length ≤ (escF l).length := by
  induction l with
  | nil => simp
  | cons c r ih => have := esc1_ge c; simp only [escF, List.flatMap_cons, List.length_append, List.length_cons] at *; omega
theorem slug_head (l : List UInt8) : (slugF l).head? ≠ some 45 := by
  obtain ⟨h1, _, _, _⟩ := slug_spec l
  generalize slugF l = t at *
  intro h
  match t, h with
  | c :: r, h =>
    simp at h; subst h
    have := fix_prefix (p := [45]) (q := r) h1
    exact absurd this (by decide)
theorem mem_get (l : List UInt8) (j : Nat) (h : j < (bs l).size) : (bs l)[j] ∈ l := by
  rw [bs_get]; exact List.getElem_mem _

set_option maxHeartbeats 1000000 in
theorem isname_any (s : ByteArray) (hs : ∀ j (h : j < s.size), isAN s[j] ∨ s[j] = 45) (h1 : 1 ≤ s.size) (h2 : s.size ≤ 20) (w : World) : Calls Tryd.prog 23 #[.string s] w fun e w' => e = .returned (.bool true) ∧ w = w' := by
  have HS := Lib.hid hs
  clear hs
  go_enter Tryd.func23, Tryd.ntmps23
  go_wp2_with fail
  go_loop [3] (fun i => ∃ (k : Nat), k ≤ s.size ∧ i = .int .i64 k) (fun i => s.size - (intOf i).toNat)
  case atStart => exact ⟨0, Nat.zero_le _, rfl⟩
  case round =>
    obtain ⟨k, hk, rfl⟩ := hrel
    by_cases hlt : k < s.size
    · have hc := HS.out k hlt
      unfold isAN at hc
      have hc3 : (97 ≤ s[k].toNat ∧ s[k].toNat ≤ 122) ∨ (¬ 97 ≤ s[k].toNat ∧ 48 ≤ s[k].toNat ∧ s[k].toNat ≤ 57) ∨ (¬ 97 ≤ s[k].toNat ∧ ¬ 48 ≤ s[k].toNat ∧ s[k].toNat = 45) := by
        rcases hc with (h | h) | h
        · exact .inl h
        · by_cases h9 : 97 ≤ s[k].toNat
          · omega
          · exact .inr (.inl ⟨h9, h⟩)
        · refine .inr (.inr ?_)
          rw [h]
          decide
      clear hc
      rcases hc3 with ⟨a, b⟩ | ⟨a, b, c⟩ | ⟨a, b, c⟩
      · have a' : decide ((97 : Int) ≤ s[k].toNat) = true := by simp; omega
        have b' : decide ((s[k].toNat : Int) ≤ 122) = true := by simp; omega
        go_wp2_with fail
        go_round
        case rel => exact ⟨k + 1, by omega, by go_num⟩
        case measure => simp [intOf]; omega
      · have a' : decide ((97 : Int) ≤ s[k].toNat) = false := by simp; omega
        have b' : decide ((48 : Int) ≤ s[k].toNat) = true := by simp; omega
        have c' : decide ((s[k].toNat : Int) ≤ 57) = true := by simp; omega
        go_wp2_with fail
        go_round
        case rel => exact ⟨k + 1, by omega, by go_num⟩
        case measure => simp [intOf]; omega
      · have a' : decide ((97 : Int) ≤ s[k].toNat) = false := by simp; omega
        have b' : decide ((48 : Int) ≤ s[k].toNat) = false := by simp; omega
        have c' : ((s[k].toNat : Int) == 45) = true := by simp; omega
        clear c
        go_wp2_with fail
        go_round
        case rel => exact ⟨k + 1, by omega, by go_num⟩
        case measure => simp [intOf]; omega
    · have h1' : decide ((1 : Int) ≤ s.size) = true := by simp; omega
      have h2' : decide ((s.size : Int) ≤ 20) = true := by simp; omega
      go_wp2_with fail
      go_ret
      exact ⟨rfl, rfl⟩

def FltPost (r : List UInt8) (w : World) (e : Ending) (w' : World) : Prop := e = .returned (.tuple #[.string (bs r), .bool true]) ∧ Below w.heap.size w w'
theorem flt_at {nm s : ByteArray} {r : List UInt8} (h : filterF nm s = some r) (hs : s.size ≤ 1099511627776) (w : World) (ht : Tab w) : Calls Tryd.prog 20 #[.string nm, .string s] w (FltPost r w) := by
  refine (filter_any nm s hs w ht).mono ?_
  rintro e w' ⟨rfl, hb⟩
  rw [h]
  exact ⟨rfl, hb⟩
set_option maxRecDepth 100000 in
set_option maxHeartbeats 2000000 in
theorem shapes_walk (s : ByteArray) (hs : s.size ≤ 9223372036854775807) (w : World) (ht : Tab w) (h2 : 2 < w.heap.size) : Calls Tryd.prog 13 #[.string s] w fun e w' => e = .returned (.bool true) ∧ Upd (fun _ => False) w w' := by
  have HT := Lib.hid ht
  clear ht
  go_enter Tryd.func13, Tryd.ntmps13
  go_wp2_with (first
    | (go_at_call 14; refine (sane_any _ HT.out h2).mono ?_; rintro e w1 ⟨rfl, hu1⟩)
    | (go_at_call 19; refine (cut_any _ _ (by omega) hs _).mono ?_; rintro e w' ⟨rfl, rfl⟩))
  have hsz := cut_size s 1000
  have htab := tab_upd HT.out hu1 h2 (fun f => f)
  change (s.extract 0 (min (s.size : Int) 1000).toNat).size ≤ 1000 at hsz
  generalize s.extract 0 (min (s.size : Int) 1000).toNat = c at *
  have HT1 := Lib.hid htab
  have h21 : 2 < w1.heap.size := by have := hu1.size; omega
  clear htab
  obtain ⟨_, _, _, a3, a4, a5, a6, _⟩ := flt_names c
  refine (flt_at a4 (by omega) _ HT1.out).mono ?_
  rintro e w2 ⟨rfl, hb2⟩
  have hu2 := hu1.trans (Upd.of_below0 hb2) (fun _ f => f.elim)
  have HT2 := Lib.hid (tab_upd HT.out hu2 h2 (fun f => f))
  clear hb2
  go_wp2_with fail
  refine (flt_at a5 (by omega) _ HT2.out).mono ?_
  rintro e w3 ⟨rfl, hb3⟩
  have hu3 := hu2.trans (Upd.of_below0 hb3) (fun _ f => f.elim)
  have HT3 := Lib.hid (tab_upd HT.out hu3 h2 (fun f => f))
  clear hb3
  go_wp2_with fail
  refine (flt_at a6 (by omega) _ HT3.out).mono ?_
  rintro e w4 ⟨rfl, hb4⟩
  have hu4 := hu3.trans (Upd.of_below0 hb4) (fun _ f => f.elim)
  have HT4 := Lib.hid (tab_upd HT.out hu4 h2 (fun f => f))
  clear hb4
  go_wp2_with fail
  refine (flt_at a3 (by omega) _ HT4.out).mono ?_
  rintro e w5 ⟨rfl, hb5⟩
  have hu5 := hu4.trans (Upd.of_below0 hb5) (fun _ f => f.elim)
  have HS := Lib.hid (slug_spec c.data.toList)
  have HSH := Lib.hid (slug_head c.data.toList)
  have hshl := shortF_len c.data.toList
  have HE := Lib.hid (escF_ok c.data.toList)
  have hel := escF_len c.data.toList
  have heg := escF_ge c.data.toList
  rw [size_list] at hel heg
  have HSA : Hid (c.size ≤ 40 → bs (shortF c.data.toList) = c) := Lib.hid (fun h => by unfold shortF; rw [if_pos (by simpa using h), bs_of])
  have HF : Hid (firstF c = (sentF c).headD []) := Lib.hid rfl
  clear a3 a4 a5 a6 hb5
  generalize slugF c.data.toList = sl at *
  generalize shortF c.data.toList = sh at *
  generalize escF c.data.toList = es at *
  generalize firstF c = fi at *
  have hel2 : (bs es).size ≤ 6000 := by rw [bs_size]; omega
  have heg2 : c.size ≤ (bs es).size := by rw [bs_size]; omega
  have HE2 : Hid (∀ j (h : j < (bs es).size), (bs es)[j] ≠ 60 ∧ (bs es)[j] ≠ 62 ∧ (bs es)[j] ≠ 34) := Lib.hid (fun j h => HE.out _ (mem_get es j h))
  have hshl2 : (bs sh).size ≤ 40 := by rw [bs_size]; omega
  generalize bs es = E at *
  clear hel heg
  go_wp2_with fail
  go_loop [12] (fun i => ∃ (k : Nat), k ≤ E.size ∧ i = .int .i64 k) (fun i => E.size - (intOf i).toNat)
  case atStart => exact ⟨0, Nat.zero_le _, rfl⟩
  case round =>
    obtain ⟨k, hk, rfl⟩ := hrel
    by_cases hlt : k < E.size
    · obtain ⟨n1, n2, n3⟩ := HE2.out k hlt
      have b1 : ((E[k].toNat : Int) == 60) = false := by
        rw [beq_eq_false_iff_ne]; intro e; exact n1 (byte_eq 60 e)
      have b2 : ((E[k].toNat : Int) == 62) = false := by
        rw [beq_eq_false_iff_ne]; intro e; exact n2 (byte_eq 62 e)
      have b3 : ((E[k].toNat : Int) == 34) = false := by
        rw [beq_eq_false_iff_ne]; intro e; exact n3 (byte_eq 34 e)
      clear n1 n2 n3
      go_wp2_with fail
      go_round
      case rel => exact ⟨k + 1, by omega, by go_num⟩
      case measure => simp [intOf]; omega
    · go_wp2_with fail
      refine (Sentences_any c (by omega) _).mono ?_
      rintro e w6 ⟨v, rfl, hr, hb6⟩
      have hu6 := hu5.trans (Upd.of_below0 hb6) (fun _ f => f.elim)
      clear hb6
      rcases hr.cases with ⟨h1, a, cap, rfl⟩ | ⟨x, r, g, cap, h1, rfl, hc⟩
      all_goals
        have HFX := Lib.hid (HF.out.trans (by rw [h1]))
        have HSL : Hid (sl = [] ∨ (1 ≤ (bs sl).size ∧ (bs sl).size ≤ 20 ∧ (∀ j (h : j < (bs sl).size), isAN (bs sl)[j] ∨ (bs sl)[j] = 45) ∧ (∀ h : 0 < (bs sl).size, (bs sl)[0] ≠ 45) ∧ ∀ j (h : j < (bs sl).size), j + 1 = (bs sl).size → (bs sl)[j] ≠ 45)) := Lib.hid (by
          obtain ⟨_, q2, q3, q4⟩ := HS.out
          have q5 := HSH.out
          by_cases h0 : sl = []
          · exact .inl h0
          · have hl : 0 < sl.length := List.length_pos_iff.2 h0
            refine .inr ⟨by rw [bs_size]; omega, by rw [bs_size]; omega, fun j h => q3 _ (mem_get sl j h), fun h => ?_, fun j h hj => ?_⟩
            · rw [bs_get]
              rw [List.head?_eq_getElem?, List.getElem?_eq_getElem hl] at q5
              exact fun e => q5 (by rw [e])
            · rw [bs_get]
              rw [bs_size] at hj
              rw [List.getLast?_eq_getElem?, List.getElem?_eq_getElem (by omega)] at q4
              intro e
              refine q4 ?_
              rw [← e]
              congr 2
              omega)
        clear h1 hr
      · have hfx : fi = [] := HFX.out
        subst hfx
        rw [show bs ([] : List UInt8) = ⟨#[]⟩ from rfl]
        clear HE2 HS HSH HFX HF
        generalize bs sh = S at *
        by_cases h40 : c.size ≤ 40
        · obtain rfl := HSA.out h40
          rcases HSL.out with rfl | ⟨l1, l2, l3, l4, l5⟩
          · rw [show bs ([] : List UInt8) = ⟨#[]⟩ from rfl]
            clear HSL HSA
            go_wp2_with fail
            go_ret
            exact ⟨rfl, hu6⟩
          · generalize bs sl = L at *
            have hne : L.toList.isEmpty = false := by rw [ByteArray.toList_eq]; cases hL : L.data.toList with
              | nil => rw [← size_list, hL] at l1; simp at l1
              | cons _ _ => rfl
            have hne2 : (L.toList == []) = false := by rw [ByteArray.toList_eq]; cases hL : L.data.toList with
              | nil => rw [← size_list, hL] at l1; simp at l1
              | cons _ _ => rfl
            have HL3 := Lib.hid l3
            have HL45 := Lib.hid (And.intro l4 l5)
            have n0 : ((L[0].toNat : Int) != 45) = true := by
              rw [bne_iff_ne]; intro e; exact l4 (by omega) (byte_eq 45 e)
            have n1 : ((L[L.size - 1].toNat : Int) != 45) = true := by
              rw [bne_iff_ne]; intro e; exact l5 (L.size - 1) (by omega) (by omega) (byte_eq 45 e)
            have l6 : 0 < L.size := by omega
            clear HSL HSA l3 l4 l5
            go_wp2_with (go_at_call 23; refine (isname_any L HL3.out l1 l2 _).mono ?_; rintro e w7 ⟨rfl, rfl⟩)
            go_ret
            exact ⟨rfl, hu6⟩
        · clear HSA
          rcases HSL.out with rfl | ⟨l1, l2, l3, l4, l5⟩
          · rw [show bs ([] : List UInt8) = ⟨#[]⟩ from rfl]
            clear HSL
            go_wp2_with fail
            go_ret
            exact ⟨rfl, hu6⟩
          · generalize bs sl = L at *
            have hne : L.toList.isEmpty = false := by rw [ByteArray.toList_eq]; cases hL : L.data.toList with
              | nil => rw [← size_list, hL] at l1; simp at l1
              | cons _ _ => rfl
            have hne2 : (L.toList == []) = false := by rw [ByteArray.toList_eq]; cases hL : L.data.toList with
              | nil => rw [← size_list, hL] at l1; simp at l1
              | cons _ _ => rfl
            have HL3 := Lib.hid l3
            have HL45 := Lib.hid (And.intro l4 l5)
            have n0 : ((L[0].toNat : Int) != 45) = true := by
              rw [bne_iff_ne]; intro e; exact l4 (by omega) (byte_eq 45 e)
            have n1 : ((L[L.size - 1].toNat : Int) != 45) = true := by
              rw [bne_iff_ne]; intro e; exact l5 (L.size - 1) (by omega) (by omega) (byte_eq 45 e)
            have l6 : 0 < L.size := by omega
            clear HSL l3 l4 l5
            go_wp2_with (go_at_call 23; refine (isname_any L HL3.out l1 l2 _).mono ?_; rintro e w7 ⟨rfl, rfl⟩)
            go_ret
            exact ⟨rfl, hu6⟩
      · have hfx : fi = x := HFX.out
        subst hfx
        clear HE2 HS HSH HFX HF
        generalize bs sh = S at *
        generalize bs fi = X at *
        by_cases h40 : c.size ≤ 40
        · obtain rfl := HSA.out h40
          rcases HSL.out with rfl | ⟨l1, l2, l3, l4, l5⟩
          · rw [show bs ([] : List UInt8) = ⟨#[]⟩ from rfl]
            clear HSL HSA
            go_wp2_with fail
            go_ret
            exact ⟨rfl, hu6⟩
          · generalize bs sl = L at *
            have hne : L.toList.isEmpty = false := by rw [ByteArray.toList_eq]; cases hL : L.data.toList with
              | nil => rw [← size_list, hL] at l1; simp at l1
              | cons _ _ => rfl
            have hne2 : (L.toList == []) = false := by rw [ByteArray.toList_eq]; cases hL : L.data.toList with
              | nil => rw [← size_list, hL] at l1; simp at l1
              | cons _ _ => rfl
            have HL3 := Lib.hid l3
            have HL45 := Lib.hid (And.intro l4 l5)
            have n0 : ((L[0].toNat : Int) != 45) = true := by
              rw [bne_iff_ne]; intro e; exact l4 (by omega) (byte_eq 45 e)
            have n1 : ((L[L.size - 1].toNat : Int) != 45) = true := by
              rw [bne_iff_ne]; intro e; exact l5 (L.size - 1) (by omega) (by omega) (byte_eq 45 e)
            have l6 : 0 < L.size := by omega
            clear HSL HSA l3 l4 l5
            go_wp2_with (go_at_call 23; refine (isname_any L HL3.out l1 l2 _).mono ?_; rintro e w7 ⟨rfl, rfl⟩)
            go_ret
            exact ⟨rfl, hu6⟩
        · clear HSA
          rcases HSL.out with rfl | ⟨l1, l2, l3, l4, l5⟩
          · rw [show bs ([] : List UInt8) = ⟨#[]⟩ from rfl]
            clear HSL
            go_wp2_with fail
            go_ret
            exact ⟨rfl, hu6⟩
          · generalize bs sl = L at *
            have hne : L.toList.isEmpty = false := by rw [ByteArray.toList_eq]; cases hL : L.data.toList with
              | nil => rw [← size_list, hL] at l1; simp at l1
              | cons _ _ => rfl
            have hne2 : (L.toList == []) = false := by rw [ByteArray.toList_eq]; cases hL : L.data.toList with
              | nil => rw [← size_list, hL] at l1; simp at l1
              | cons _ _ => rfl
            have HL3 := Lib.hid l3
            have HL45 := Lib.hid (And.intro l4 l5)
            have n0 : ((L[0].toNat : Int) != 45) = true := by
              rw [bne_iff_ne]; intro e; exact l4 (by omega) (byte_eq 45 e)
            have n1 : ((L[L.size - 1].toNat : Int) != 45) = true := by
              rw [bne_iff_ne]; intro e; exact l5 (L.size - 1) (by omega) (by omega) (byte_eq 45 e)
            have l6 : 0 < L.size := by omega
            clear HSL l3 l4 l5
            go_wp2_with (go_at_call 23; refine (isname_any L HL3.out l1 l2 _).mono ?_; rintro e w7 ⟨rfl, rfl⟩)
            go_ret
            exact ⟨rfl, hu6⟩
end Go.Proofs.YtlkaikopjjmneaaDoor

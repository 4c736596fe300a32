/-
  WHAT IS PROVED HERE: the reference's filters trim, short, escape, length. Each returns what the program's own filter gives. Condition: the string has at most 2^40 bytes.
-/
import Derived.Test.YtlkaikopjjmneaaDoorFrs
import Derived.Lib.ItoaMem
namespace Go.Proofs.YtlkaikopjjmneaaDoor
open Go.RowKit

/-! trim -/
theorem trimB_head (c : UInt8) (r : List UInt8) : Lib.trimB (c :: r) c = Lib.trimB r c := by
  unfold Lib.trimB Lib.trimRightB Lib.trimLeftB
  rw [List.reverse_cons, List.dropWhile_append]
  split
  · rename_i h
    rw [List.isEmpty_iff] at h
    rw [h]; simp
  · rw [List.reverse_append]; simp
theorem trimB_last (c : UInt8) (r : List UInt8) : Lib.trimB (r ++ [c]) c = Lib.trimB r c := by
  unfold Lib.trimB Lib.trimRightB
  rw [List.reverse_append]; simp
theorem trimB_done (c : UInt8) (l : List UInt8) (h1 : l.head? ≠ some c) (h2 : l.getLast? ≠ some c) : Lib.trimB l c = l := by
  unfold Lib.trimB Lib.trimRightB Lib.trimLeftB
  have e1 : l.reverse.dropWhile (· == c) = l.reverse := by
    cases hr : l.reverse with
    | nil => rfl
    | cons x t =>
      have : l.getLast? = some x := by rw [← List.head?_reverse, hr]; rfl
      rw [List.dropWhile_cons, if_neg]
      intro e
      exact h2 (by rw [this, eq_of_beq e])
  rw [e1, List.reverse_reverse]
  cases l with
  | nil => rfl
  | cons x t =>
    rw [List.dropWhile_cons, if_neg]
    intro e
    exact h1 (by rw [eq_of_beq e]; rfl)
theorem list_cons (s : ByteArray) (h : 0 < s.size) : s.data.toList = s[0] :: (s.extract 1 s.size).data.toList := by
  rw [extract_list, List.take_of_length_le (by simp)]
  have := drop_cons s 0 h
  simpa using this
theorem list_last (s : ByteArray) (n : Nat) (h : s.size = n + 1) : s.data.toList = (s.extract 0 n).data.toList ++ [s[n]] := by
  rw [extract_list, List.drop_zero, ← take_snoc s n (by omega), List.take_of_length_le (by simp; omega)]
set_option maxHeartbeats 1000000 in
theorem ref_trim (s : ByteArray) (c : UInt8) (w : World) (hs : s.size ≤ 1099511627776) :
    Calls Tryd.prog 36 #[.string s, .int .u8 c.toNat] w fun e w' => e = .returned (.string (bs (Lib.trimB s.data.toList c))) ∧ w = w' := by
  have hu := c.toNat_lt
  go_enter Tryd.func36, Tryd.ntmps36
  go_wp2
  go_loop [0] (fun v => ∃ cur : ByteArray, cur.size ≤ 1099511627776 ∧ v = .string cur ∧ Hid (Lib.trimB s.data.toList c = Lib.trimB cur.data.toList c)) (fun v => match v with | .string t => t.size | _ => 0)
  case atStart => exact ⟨s, hs, rfl, Lib.hid rfl⟩
  case round =>
    obtain ⟨cur, hcz, rfl, HC⟩ := hrel
    by_cases hh : cur.data.toList.head? = some c
    · have hpos : 0 < cur.size := by
        rw [← size_list]
        cases hl : cur.data.toList with
        | nil => rw [hl] at hh; cases hh
        | cons _ _ => simp
      have hlc := list_cons cur hpos
      have hc0 : cur[0] = c := by rw [hlc] at hh; exact Option.some.inj hh
      have hne : cur.toList.isEmpty = false := by rw [ByteArray.toList_eq, hlc]; rfl
      have hb : ((cur[0].toNat : Int) == (c.toNat : Int)) = true := by rw [hc0]; simp
      have hst : Lib.trimB cur.data.toList c = Lib.trimB (cur.extract 1 cur.size).data.toList c := by rw [hlc, hc0, trimB_head]
      have HST := Lib.hid hst
      clear hh hlc hc0 hst
      go_wp2
      go_round
      case rel => exact ⟨cur.extract 1 cur.size, by simp; omega, rfl, Lib.hid (HC.out.trans HST.out)⟩
      case measure => simp; omega
    · have HH := Lib.hid hh
      clear hh
      have hcase : (cur.toList.isEmpty = true) ∨ (cur.toList.isEmpty = false ∧ ∃ hpos : 0 < cur.size, ((cur[0].toNat : Int) == (c.toNat : Int)) = false) := by
        have hh := HH.out
        rw [ByteArray.toList_eq]
        cases hl : cur.data.toList with
        | nil => exact .inl rfl
        | cons x t =>
          have hpos : 0 < cur.size := by rw [← size_list, hl]; simp
          refine .inr ⟨rfl, hpos, ?_⟩
          have e := list_cons cur hpos
          rw [e] at hh
          simp only [beq_eq_false_iff_ne, ne_eq]
          intro h
          exact hh (by rw [byte_eq c h]; rfl)
      rcases hcase with h1 | ⟨h1, hpos, h2⟩
      all_goals
        go_wp2
        go_loop [0] (fun v => ∃ cu : ByteArray, cu.size ≤ 1099511627776 ∧ v = .string cu ∧ Hid (cu.data.toList.head? ≠ some c ∧ Lib.trimB s.data.toList c = Lib.trimB cu.data.toList c)) (fun v => match v with | .string t => t.size | _ => 0)
        case atStart => exact ⟨cur, hcz, rfl, Lib.hid ⟨HH.out, HC.out⟩⟩
        case round =>
          obtain ⟨cu, hcz2, rfl, HC2⟩ := hrel
          by_cases hh : cu.data.toList.getLast? = some c
          · have hz : ∃ n, cu.size = n + 1 := by
              cases hl : cu.data.toList with
              | nil => rw [hl] at hh; cases hh
              | cons x t => exact ⟨t.length, by rw [← size_list, hl]; rfl⟩
            obtain ⟨n, hz⟩ := hz
            have hll := list_last cu n hz
            have hcn : cu[n] = c := by rw [hll, List.getLast?_append] at hh; simpa using hh
            have hne : cu.toList.isEmpty = false := by rw [ByteArray.toList_eq, hll]; simp
            have hst : Lib.trimB cu.data.toList c = Lib.trimB (cu.extract 0 n).data.toList c := by rw [hll, hcn, trimB_last]
            have hb : ((cu[n].toNat : Int) == (c.toNat : Int)) = true := by rw [hcn]; simp
            have hhd : (cu.extract 0 n).data.toList.head? ≠ some c := by
              have h := HC2.out.1
              rw [hll] at h
              cases ht : (cu.extract 0 n).data.toList with
              | nil => simp
              | cons x t => rw [ht] at h; simpa using h
            have HHD := Lib.hid hhd
            have HST := Lib.hid hst
            clear hhd hst hh hll hcn
            go_wp2
            go_round
            case rel => exact ⟨cu.extract 0 n, by simp; omega, rfl, Lib.hid ⟨HHD.out, HC2.out.2.trans HST.out⟩⟩
            case measure => simp; omega
          · have hfin : cu = bs (Lib.trimB s.data.toList c) := by rw [HC2.out.2, trimB_done c _ HC2.out.1 hh, bs_of]
            have HF := Lib.hid hfin
            have hcase2 : (cu.toList.isEmpty = true) ∨ (cu.toList.isEmpty = false ∧ ∃ n, ∃ hz : cu.size = n + 1, ((cu[n].toNat : Int) == (c.toNat : Int)) = false) := by
              rw [ByteArray.toList_eq]
              cases hl : cu.data.toList with
              | nil => exact .inl rfl
              | cons x t =>
                have hz : cu.size = t.length + 1 := by rw [← size_list, hl]; rfl
                refine .inr ⟨rfl, t.length, hz, ?_⟩
                have e := list_last cu t.length hz
                simp only [beq_eq_false_iff_ne, ne_eq]
                intro h
                exact hh (by rw [e, byte_eq c h, List.getLast?_append]; rfl)
            clear hh hfin
            rcases hcase2 with g1 | ⟨g1, n, hz, g2⟩
            all_goals
              go_wp2
              go_ret
              exact ⟨ret_str HF.out, rfl⟩
set_option maxHeartbeats 400000 in
theorem ref_short (s : ByteArray) (w : World) (hs : s.size ≤ 1099511627776) :
    Calls Tryd.prog 38 #[.string s] w fun e w' => e = .returned (.string (bs (shortF s.data.toList))) ∧ w = w' := by
  by_cases h : s.size ≤ 40
  · have hr : s = bs (shortF s.data.toList) := by rw [shortF, if_pos (by simpa using h), bs_of]
    have HR := Lib.hid hr
    clear hr
    go_enter Tryd.func38, Tryd.ntmps38
    go_wp2
    go_ret
    exact ⟨ret_str HR.out, rfl⟩
  · have hlt : 40 < s.size := by omega
    have hr : shortF s.data.toList = shortAt s.data.toList 37 := by rw [shortF, if_neg (by simpa using h)]
    have HR := Lib.hid hr
    clear hr
    go_enter Tryd.func38, Tryd.ntmps38
    go_wp2
    go_loop [3] (fun i => ∃ k : Nat, k ≤ 37 ∧ i = .int .i64 k ∧ Hid (shortAt s.data.toList 37 = shortAt s.data.toList k)) (fun i => (intOf i).toNat)
    case atStart => exact ⟨37, by omega, rfl, Lib.hid rfl⟩
    case round =>
      obtain ⟨k, hk, rfl, HK⟩ := hrel
      rcases k with _ | j
      · go_wp2
        go_ret
        exact ⟨ret_str (str_ext (by rw [HR.out, HK.out, append_list, extract_list]; simp [shortAt, dots3])), rfl⟩
      · have hj := list_get s j (by omega)
        have hj1 := list_get s (j + 1) (by omega)
        have HJ := Lib.hid hj
        have HJ1 := Lib.hid hj1
        clear hj hj1
        by_cases c0 : s[j] = 32
        · have b0 : ((s[j].toNat : Int) != 32) = false := by rw [c0]; rfl
          have C0 := Lib.hid c0
          clear c0
          go_wp2
          go_round
          case rel => exact ⟨j, by omega, rfl, Lib.hid (by rw [HK.out, shortAt, if_neg (by rw [HJ.out, HJ1.out]; simp [C0.out])])⟩
          case measure => first | (simp [intOf]; done) | (simp [intOf]; omega)
        · have b0 : ((s[j].toNat : Int) != 32) = true := by simp only [bne_iff_ne, ne_eq]; exact fun e => c0 (byte_eq 32 e)
          have C0 := Lib.hid c0
          clear c0
          by_cases c1 : s[j + 1] = 32
          · have b1 : ((s[j + 1].toNat : Int) == 32) = true := by rw [c1]; rfl
            have C1 := Lib.hid c1
            clear c1
            go_wp2
            go_ret
            exact ⟨ret_str (str_ext (by rw [HR.out, HK.out, append_list, extract_list, shortAt, if_pos (by rw [HJ.out, HJ1.out]; simp [C0.out, C1.out])]; simp [dots3])), rfl⟩
          · have b1 : ((s[j + 1].toNat : Int) == 32) = false := by simp only [beq_eq_false_iff_ne, ne_eq]; exact fun e => c1 (byte_eq 32 e)
            have C1 := Lib.hid c1
            clear c1
            go_wp2
            go_round
            case rel => exact ⟨j, by omega, rfl, Lib.hid (by rw [HK.out, shortAt, if_neg (by rw [HJ.out, HJ1.out]; simp [C1.out])])⟩
            case measure => first | (simp [intOf]; done) | (simp [intOf]; omega)
theorem one_list (s : ByteArray) (k : Nat) (h : k < s.size) : (s.extract k (k + 1)).data.toList = [s[k]] := by
  rw [extract_list, take_snoc s k h, List.drop_append_of_le_length (by simp; omega)]
  simp
set_option maxHeartbeats 1000000 in
theorem ref_escape (s : ByteArray) (w : World) (hs : s.size ≤ 1099511627776) :
    Calls Tryd.prog 40 #[.string s] w fun e w' => e = .returned (.string (bs (escF s.data.toList))) ∧ w = w' := by
  go_enter Tryd.func40, Tryd.ntmps40
  go_wp2
  go_loop [3, 4] (fun v i => ∃ (k : Nat) (cu : ByteArray), k ≤ s.size ∧ i = .int .i64 k ∧ v = .string cu ∧ cu.size ≤ 6 * k ∧ Hid (cu.data.toList = escF (s.data.toList.take k))) (fun _ i => s.size - (intOf i).toNat)
  case atStart => exact ⟨0, ⟨#[]⟩, Nat.zero_le _, rfl, rfl, Nat.zero_le _, Lib.hid rfl⟩
  case round =>
    obtain ⟨k, cu, hk, rfl, rfl, hcz, HC⟩ := hrel
    by_cases hlt : k < s.size
    · have hsn : escF (s.data.toList.take (k + 1)) = escF (s.data.toList.take k) ++ esc1 s[k] := by rw [take_snoc s k hlt, escF_snoc]
      have HS := Lib.hid hsn
      have hone := one_list s k hlt
      have H1 := Lib.hid hone
      have hone2 : (s.extract k (k + 1)).size = 1 := by rw [← size_list, hone]; rfl
      have hu := s[k].toNat_lt
      clear hsn hone
      go_wp2
      all_goals go_round
      case measure => simp [intOf]; omega
      case measure => simp [intOf]; omega
      case measure => simp [intOf]; omega
      case measure => simp [intOf]; omega
      case measure => simp [intOf]; omega
      case rel =>
        have e : s[k] = 38 := byte_eqb 38 (by assumption) rfl
        exact ⟨k + 1, cu ++ ⟨#[38, 97, 109, 112, 59]⟩, by omega, by go_num, rfl, by rw [ByteArray.size_append]; show _ + 5 ≤ _; omega, Lib.hid (by rw [append_list, HC.out, HS.out, e]; rfl)⟩
      case rel =>
        have e : s[k] = 60 := byte_eqb 60 (by assumption) rfl
        exact ⟨k + 1, cu ++ ⟨#[38, 108, 116, 59]⟩, by omega, by go_num, rfl, by rw [ByteArray.size_append]; show _ + 4 ≤ _; omega, Lib.hid (by rw [append_list, HC.out, HS.out, e]; rfl)⟩
      case rel =>
        have e : s[k] = 62 := byte_eqb 62 (by assumption) rfl
        exact ⟨k + 1, cu ++ ⟨#[38, 103, 116, 59]⟩, by omega, by go_num, rfl, by rw [ByteArray.size_append]; show _ + 4 ≤ _; omega, Lib.hid (by rw [append_list, HC.out, HS.out, e]; rfl)⟩
      case rel =>
        have e : s[k] = 34 := byte_eqb 34 (by assumption) rfl
        exact ⟨k + 1, cu ++ ⟨#[38, 113, 117, 111, 116, 59]⟩, by omega, by go_num, rfl, by rw [ByteArray.size_append]; show _ + 6 ≤ _; omega, Lib.hid (by rw [append_list, HC.out, HS.out, e]; rfl)⟩
      case rel =>
        have e1 : s[k] ≠ 38 := byte_neb 38 (by assumption) rfl
        have e2 : s[k] ≠ 60 := byte_neb 60 (by assumption) rfl
        have e3 : s[k] ≠ 62 := byte_neb 62 (by assumption) rfl
        have e4 : s[k] ≠ 34 := byte_neb 34 (by assumption) rfl
        exact ⟨k + 1, cu ++ s.extract k (k + 1), by omega, by go_num, rfl, by rw [ByteArray.size_append]; omega, Lib.hid (by rw [append_list, HC.out, HS.out, H1.out, esc1, if_neg e1, if_neg e2, if_neg e3, if_neg e4])⟩
    · have e : k = s.size := by omega
      subst e
      have hfin : cu = bs (escF s.data.toList) := by rw [← bs_of cu, HC.out, List.take_of_length_le (by simp)]
      have HF := Lib.hid hfin
      clear hfin
      go_wp2
      go_ret
      exact ⟨ret_str HF.out, rfl⟩
end Go.Proofs.YtlkaikopjjmneaaDoor

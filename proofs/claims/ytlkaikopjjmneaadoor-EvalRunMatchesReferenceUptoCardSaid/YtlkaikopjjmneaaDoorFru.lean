/-
  WHAT IS PROVED HERE: the reference's functions trimmed, length and slug. Each returns what the program's own gives. Condition: the string has at most 2^40 bytes.
-/
import Derived.Test.YtlkaikopjjmneaaDoorFrt
namespace Go.Proofs.YtlkaikopjjmneaaDoor
open Go.RowKit

set_option maxHeartbeats 1000000 in
theorem ref_trimmed (s : ByteArray) (w : World) (hs : s.size ≤ 1099511627776) :
    Calls Tryd.prog 63 #[.string s] w fun e w' => e = .returned (.string (bs (Lib.trimB s.data.toList 32))) ∧ w = w' := by
  go_enter Tryd.func63, Tryd.ntmps63
  go_wp2
  go_loop [0] (fun v => ∃ cur : ByteArray, cur.size ≤ 1099511627776 ∧ v = .string cur ∧ Hid (Lib.trimB s.data.toList 32 = Lib.trimB cur.data.toList 32)) (fun v => match v with | .string t => t.size | _ => 0)
  case atStart => exact ⟨s, hs, rfl, Lib.hid rfl⟩
  case round =>
    obtain ⟨cur, hcz, rfl, HC⟩ := hrel
    by_cases hh : cur.data.toList.head? = some 32
    · have hpos : 0 < cur.size := by
        rw [← size_list]
        cases hl : cur.data.toList with
        | nil => rw [hl] at hh; cases hh
        | cons _ _ => simp
      have hlc := list_cons cur hpos
      have hc0 : cur[0] = 32 := by rw [hlc] at hh; exact Option.some.inj hh
      have hne : cur.toList.isEmpty = false := by rw [ByteArray.toList_eq, hlc]; rfl
      have hb : ((cur[0].toNat : Int) == 32) = true := by rw [hc0]; rfl
      have hst : Lib.trimB cur.data.toList 32 = Lib.trimB (cur.extract 1 cur.size).data.toList 32 := by rw [hlc, hc0, trimB_head]
      have HST := Lib.hid hst
      clear hh hlc hc0 hst
      go_wp2
      go_round
      case rel => exact ⟨cur.extract 1 cur.size, by simp; omega, rfl, Lib.hid (HC.out.trans HST.out)⟩
      case measure => simp; omega
    · have HH := Lib.hid hh
      clear hh
      have hcase : (cur.toList.isEmpty = true) ∨ (cur.toList.isEmpty = false ∧ ∃ hpos : 0 < cur.size, ((cur[0].toNat : Int) == 32) = false) := by
        have hh := HH.out
        rw [ByteArray.toList_eq]
        cases hl : cur.data.toList with
        | nil => exact .inl rfl
        | cons x t =>
          have hpos : 0 < cur.size := by rw [← size_list, hl]; simp
          refine .inr ⟨rfl, hpos, ?_⟩
          have e := list_cons cur hpos
          rw [e] at hh
          simp only [beq_eq_false_iff_ne, ne_eq]
          intro h
          exact hh (by rw [byte_eq 32 h]; rfl)
      rcases hcase with h1 | ⟨h1, hpos, h2⟩
      all_goals
        go_wp2
        go_loop [0] (fun v => ∃ cu : ByteArray, cu.size ≤ 1099511627776 ∧ v = .string cu ∧ Hid (cu.data.toList.head? ≠ some 32 ∧ Lib.trimB s.data.toList 32 = Lib.trimB cu.data.toList 32)) (fun v => match v with | .string t => t.size | _ => 0)
        case atStart => exact ⟨cur, hcz, rfl, Lib.hid ⟨HH.out, HC.out⟩⟩
        case round =>
          obtain ⟨cu, hcz2, rfl, HC2⟩ := hrel
          by_cases hh : cu.data.toList.getLast? = some 32
          · have hz : ∃ n, cu.size = n + 1 := by
              cases hl : cu.data.toList with
              | nil => rw [hl] at hh; cases hh
              | cons x t => exact ⟨t.length, by rw [← size_list, hl]; rfl⟩
            obtain ⟨n, hz⟩ := hz
            have hll := list_last cu n hz
            have hcn : cu[n] = 32 := by rw [hll, List.getLast?_append] at hh; simpa using hh
            have hne : cu.toList.isEmpty = false := by rw [ByteArray.toList_eq, hll]; simp
            have hst : Lib.trimB cu.data.toList 32 = Lib.trimB (cu.extract 0 n).data.toList 32 := by rw [hll, hcn, trimB_last]
            have hb : ((cu[n].toNat : Int) == 32) = true := by rw [hcn]; rfl
            have hhd : (cu.extract 0 n).data.toList.head? ≠ some 32 := by
              have h := HC2.out.1
              rw [hll] at h
              cases ht : (cu.extract 0 n).data.toList with
              | nil => simp
              | cons x t => rw [ht] at h; simpa using h
            have HHD := Lib.hid hhd
            have HST := Lib.hid hst
            clear hhd hst hh hll hcn
            go_wp2
            go_round
            case rel => exact ⟨cu.extract 0 n, by simp; omega, rfl, Lib.hid ⟨HHD.out, HC2.out.2.trans HST.out⟩⟩
            case measure => simp; omega
          · have hfin : cu = bs (Lib.trimB s.data.toList 32) := by rw [HC2.out.2, trimB_done 32 _ HC2.out.1 hh, bs_of]
            have HF := Lib.hid hfin
            have hcase2 : (cu.toList.isEmpty = true) ∨ (cu.toList.isEmpty = false ∧ ∃ n, ∃ hz : cu.size = n + 1, ((cu[n].toNat : Int) == 32) = false) := by
              rw [ByteArray.toList_eq]
              cases hl : cu.data.toList with
              | nil => exact .inl rfl
              | cons x t =>
                have hz : cu.size = t.length + 1 := by rw [← size_list, hl]; rfl
                refine .inr ⟨rfl, t.length, hz, ?_⟩
                have e := list_last cu t.length hz
                simp only [beq_eq_false_iff_ne, ne_eq]
                intro h
                exact hh (by rw [e, byte_eq 32 h, List.getLast?_append]; rfl)
            clear hh hfin
            rcases hcase2 with g1 | ⟨g1, n, hz, g2⟩
            all_goals
              go_wp2
              go_ret
              exact ⟨ret_str HF.out, rfl⟩

/-! length -/
theorem digits_step (m : Nat) (h : ¬ m < 10) : Lib.decDigits m = Lib.decDigits (m / 10) ++ [UInt8.ofNat (48 + m % 10)] := by rw [Lib.decDigits, dif_neg h]
def lenAt (m : Nat) (l : List UInt8) : List UInt8 := if m = 0 then l else Lib.decDigits m ++ l
theorem lenAt_step (m : Nat) (h : m ≠ 0) (l : List UInt8) : lenAt (m / 10) ([UInt8.ofNat (48 + m % 10)] ++ l) = lenAt m l := by
  unfold lenAt
  rw [if_neg h]
  by_cases h10 : m < 10
  · rw [if_pos (by omega), Lib.decDigits_one h10, Nat.mod_eq_of_lt h10]
  · rw [if_neg (by omega), digits_step m h10, List.append_assoc]
theorem conv1 (w : World) (x : UInt8) (g : Nat) (h : w.cell? ⟨g, 0, none⟩ = some (.int .u8 x.toNat)) : (convert 75 9 (.slice (some ⟨g, 0, none⟩) 1 1)).run Tryd.prog w = .ok (.string (bs [x])) w :=
  run_convert_bytes_back w 75 9 5 ⟨g, 0, none⟩ 1 [x] Tryd.underlying75 Tryd.underlying5 Tryd.underlying9 (fun j hj => by
    have : j = 0 := by simpa using hj
    subst this
    simpa [Addr.add] using h)
set_option maxRecDepth 100000 in
set_option maxHeartbeats 400000 in
theorem ref_length (s : ByteArray) (w : World) (hs : s.size ≤ 1099511627776) :
    Calls Tryd.prog 41 #[.string s] w fun e w' => e = .returned (.string (bs (Lib.itoa s.size))) ∧ Below w.heap.size w w' := by
  have hn : Lib.itoa (s.size : Int) = Lib.decDigits s.size := Lib.itoa_nonneg _
  have HN := Lib.hid hn
  clear hn
  go_enter Tryd.func41, Tryd.ntmps41
  go_wp2
  go_loopw [3, 4] (fun n v wr => ∃ (m : Nat) (cu : ByteArray), m ≤ s.size ∧ n = .int .i64 m ∧ v = .string cu ∧ cu.size + m ≤ s.size + 40 ∧ Hid ((cu = ⟨#[]⟩ ∧ m = s.size) ∨ (cu.data.toList ≠ [] ∧ lenAt m cu.data.toList = Lib.decDigits s.size)) ∧ Below w.heap.size w wr) (fun n v _ => match n, v with | .int _ m, .string t => if t.size = 0 then m.toNat + 1 else m.toNat | _, _ => 0)
  case atStart => exact ⟨s.size, ⟨#[]⟩, Nat.le_refl _, rfl, rfl, by show 0 + s.size ≤ _; omega, Lib.hid (.inl ⟨rfl, rfl⟩), Below.refl _ _⟩
  case round =>
    obtain ⟨m, cu, hm, rfl, rfl, hcz, HC, hb⟩ := hrel
    have hm40 : m ≤ 1099511627776 := by omega
    have hx : ((UInt8.ofNat (48 + m % 10)).toNat : Int) = 48 + (m : Int) % 10 := by
      rw [UInt8.toNat_ofNat']
      show (((48 + m % 10) % 256 : Nat) : Int) = _
      omega
    have hcv : (convert 75 9 (.slice (some ⟨wr.heap.size, 0, none⟩) 1 1)).run Tryd.prog (wr.alloc (.cells #[.int .u8 (48 + (m : Int) % 10)] 5)) = .ok (.string (bs [UInt8.ofNat (48 + m % 10)])) (wr.alloc (.cells #[.int .u8 (48 + (m : Int) % 10)] 5)) :=
      conv1 _ _ _ (by rw [World.cell?_alloc_at _ _ _ _ (by simp), hx]; rfl)
    have HX := Lib.hid hx
    have hB := hb.size
    have hb1 : (bs [UInt8.ofNat (48 + m % 10)]).size = 1 := rfl
    have HB1 := Lib.hid hb1
    have HL := Lib.hid (show (bs [UInt8.ofNat (48 + m % 10)]).data.toList = [UInt8.ofNat (48 + m % 10)] from bs_list _)
    have hx0 : m = 0 → UInt8.ofNat (48 + m % 10) = 48 := by rintro rfl; rfl
    have HX0 := Lib.hid hx0
    clear hx0
    have hst := lenAt_step m
    have HST := Lib.hid hst
    clear hst
    generalize UInt8.ofNat (48 + m % 10) = x at *
    clear hx hb1
    by_cases h0 : cu.size = 0
    · have hemp : cu = ⟨#[]⟩ := str_ext (List.eq_nil_of_length_eq_zero (by rw [size_list]; exact h0))
      subst hemp
      have hms : m = s.size := by
        rcases HC.out with h | h
        · exact h.2
        · exact absurd rfl h.1
      have HZ := Lib.hid hcz
      have HMS := Lib.hid hms
      clear hcz h0 hms
      have hbz : (bs [x]).size ≤ 1 := Nat.le_of_eq HB1.out
      go_wp2
      go_roundw
      case rel =>
        refine ⟨m / 10, bs [x] ++ ⟨#[]⟩, by omega, by go_num, rfl, ?_, Lib.hid (.inr ⟨?_, ?_⟩), (hb.alloc hB _)⟩
        · rw [ByteArray.size_append]; show _ + 0 + m / 10 ≤ _; omega
        · rw [append_list, HL.out]; simp
        · rw [append_list, HL.out]
          by_cases hz : m = 0
          · have hs0 : s.size = 0 := by rw [← HMS.out]; exact hz
            rw [HX0.out hz, hs0, Lib.decDigits_one (by decide), hz]; rfl
          · rw [show (ByteArray.mk #[]).data.toList = ([] : List UInt8) from rfl, HST.out hz, ← HMS.out]
            unfold lenAt
            rw [if_neg hz, List.append_nil]
      case measure =>
        show (if (bs [x] ++ ⟨#[]⟩).size = 0 then ((m : Int) / 10).toNat + 1 else ((m : Int) / 10).toNat) < (if (⟨#[]⟩ : ByteArray).size = 0 then (m : Int).toNat + 1 else (m : Int).toNat)
        rw [if_neg (by rw [ByteArray.size_append, HB1.out]; show ¬ 1 + 0 = 0; decide), if_pos (show (⟨#[]⟩ : ByteArray).size = 0 from rfl)]
        omega
    · have hne : cu.toList.isEmpty = false := by
        rw [ByteArray.toList_eq]
        cases hl : cu.data.toList with
        | nil => exact absurd (by rw [← size_list, hl]; rfl) h0
        | cons _ _ => rfl
      have hfin : lenAt m cu.data.toList = Lib.decDigits s.size := by
        rcases HC.out with h | h
        · exact absurd (by rw [h.1]; rfl) h0
        · exact h.2
      have HF := Lib.hid hfin
      have hbz : (bs [x]).size ≤ 1 := Nat.le_of_eq HB1.out
      have H0 := Lib.hid h0
      clear h0 hfin
      by_cases hz : m = 0
      · have hr : cu = bs (Lib.itoa (s.size : Int)) := by
          rw [HN.out, ← HF.out, hz]
          unfold lenAt
          rw [if_pos rfl, bs_of]
        have HR := Lib.hid hr
        clear hr hcv
        subst hz
        go_wp2
        go_ret
        exact ⟨ret_str HR.out, hb⟩
      · have hpos : 0 < (m : Int) := by omega
        have hpos2 : 0 < m := by omega
        have HZ := Lib.hid hz
        clear hz
        go_wp2
        go_roundw
        case rel =>
          refine ⟨m / 10, bs [x] ++ cu, by omega, by go_num, rfl, ?_, Lib.hid (.inr ⟨?_, ?_⟩), (hb.alloc hB _)⟩
          · rw [ByteArray.size_append]; omega
          · rw [append_list, HL.out]; simp
          · rw [append_list, HL.out, HST.out HZ.out, HF.out]
        case measure =>
          show (if (bs [x] ++ cu).size = 0 then ((m : Int) / 10).toNat + 1 else ((m : Int) / 10).toNat) < (if cu.size = 0 then (m : Int).toNat + 1 else (m : Int).toNat)
          rw [if_neg (by rw [ByteArray.size_append, HB1.out]; omega), if_neg H0.out]
          omega
/-! slug -/
theorem slugStep_pre (acc : List UInt8) (c : UInt8) : ∃ t, slugStep acc c = acc ++ t ∧ t.length ≤ 1 := by
  unfold slugStep
  split
  · exact ⟨[c], rfl, Nat.le_refl _⟩
  · split
    · exact ⟨[45], rfl, Nat.le_refl _⟩
    · exact ⟨[], by simp, by simp⟩
theorem fold_pre : ∀ (l acc : List UInt8), ∃ t, l.foldl slugStep acc = acc ++ t
  | [], acc => ⟨[], by simp⟩
  | c :: r, acc => by
    obtain ⟨t, h1, _⟩ := slugStep_pre acc c
    obtain ⟨u, h2⟩ := fold_pre r (slugStep acc c)
    exact ⟨t ++ u, by rw [List.foldl_cons, h2, h1, List.append_assoc]⟩
theorem slugGo_take : ∀ (l acc : List UInt8), acc.length < 20 → slugGo acc l = (l.foldl slugStep acc).take 20
  | [], acc, h => by rw [slugGo, List.foldl_nil, List.take_of_length_le (by omega)]
  | c :: r, acc, h => by
    obtain ⟨t, h1, h2⟩ := slugStep_pre acc c
    rw [slugGo, List.foldl_cons]
    split
    · rename_i h20
      obtain ⟨u, h3⟩ := fold_pre r (slugStep acc c)
      rw [h3, List.take_append_of_le_length (by omega), List.take_of_length_le (by omega)]
    · rename_i h20
      have : (slugStep acc c).length ≤ acc.length + 1 := by rw [h1, List.length_append]; omega
      exact slugGo_take r _ (by omega)
theorem fold_head : ∀ (l acc : List UInt8), acc.head? ≠ some 45 → (l.foldl slugStep acc).head? ≠ some 45
  | [], acc, h => h
  | c :: r, acc, h => by
    refine fold_head r _ ?_
    unfold slugStep
    split
    · rename_i hc
      cases acc with
      | nil =>
        intro e
        have : c = 45 := by simpa using e
        subst this
        exact absurd hc (by decide)
      | cons x t => simpa using h
    · split
      · rename_i ha
        cases acc with
        | nil => exact absurd rfl ha.1
        | cons x t => simpa using h
      · exact h
theorem trimB_right (c : UInt8) (l : List UInt8) (h : l.head? ≠ some c) : Lib.trimB l c = Lib.trimRightB l c := by
  unfold Lib.trimB Lib.trimLeftB
  have hs : ∃ t, l = Lib.trimRightB l c ++ t := by
    unfold Lib.trimRightB
    refine ⟨(l.reverse.takeWhile (· == c)).reverse, ?_⟩
    rw [← List.reverse_append, List.takeWhile_append_dropWhile, List.reverse_reverse]
  obtain ⟨t, ht⟩ := hs
  cases hr : Lib.trimRightB l c with
  | nil => rfl
  | cons x u =>
    rw [hr] at ht
    rw [List.dropWhile_cons, if_neg]
    intro e
    exact h (by rw [ht, eq_of_beq e]; rfl)
theorem slug_ref (l : List UInt8) : Lib.trimB (((l.map (chg 65 90)).foldl slugStep []).take 20) 45 = slugF l := by
  unfold slugF
  rw [slugGo_take _ _ (by simp), trimB_right]
  have := fold_head (l.map (chg 65 90)) [] (by simp)
  cases h : (l.map (chg 65 90)).foldl slugStep [] with
  | nil => simp
  | cons x t => rw [h] at this; simpa using this
end Go.Proofs.YtlkaikopjjmneaaDoor

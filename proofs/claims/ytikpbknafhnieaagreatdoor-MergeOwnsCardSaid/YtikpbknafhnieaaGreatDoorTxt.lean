/-
  WHAT IS PROVED HERE: the walks of block.isText, block.isName and of the reference's IsText, IsName. Condition: the string's length fits an int.
-/
import Derived.Test.YtikpbknafhnieaaGreatDoorLab
namespace Go.Proofs.YtikpbknafhnieaaGreatDoor
open Go.RowKit Mg

def okT (c : UInt8) : Bool := decide (32 ≤ c.toNat) && decide (c.toNat ≤ 126)
theorem okT_yes {c : UInt8} (h : 32 ≤ c.toNat ∧ c.toNat ≤ 126) : okT c = true := by unfold okT; rw [decide_eq_true h.1, decide_eq_true h.2]; rfl
theorem okT_no {c : UInt8} (h : ¬ (32 ≤ c.toNat ∧ c.toNat ≤ 126)) : okT c = false := by
  rw [Bool.eq_false_iff]; intro e; unfold okT at e; simp only [Bool.and_eq_true, decide_eq_true_eq] at e; exact h e
theorem textOK_eq (s : ByteArray) : textOK s = (decide (s.size ≤ 300) && s.data.toList.all okT) := rfl
theorem nameB_iff (c : UInt8) : nameByte c = true ↔ (97 ≤ c.toNat ∧ c.toNat ≤ 122) ∨ (48 ≤ c.toNat ∧ c.toNat ≤ 57) ∨ c.toNat = 45 := by
  unfold nameByte; simp only [Bool.or_eq_true, Bool.and_eq_true, decide_eq_true_eq, or_assoc]
theorem nameB_yes {c : UInt8} (h : (97 ≤ c.toNat ∧ c.toNat ≤ 122) ∨ (48 ≤ c.toNat ∧ c.toNat ≤ 57) ∨ c.toNat = 45) : nameByte c = true := (nameB_iff c).2 h
theorem nameB_no {c : UInt8} (h : ¬ ((97 ≤ c.toNat ∧ c.toNat ≤ 122) ∨ (48 ≤ c.toNat ∧ c.toNat ≤ 57) ∨ c.toNat = 45)) : nameByte c = false := Bool.eq_false_iff.2 fun e => h ((nameB_iff c).1 e)
def IsN (c : UInt8) : Prop := (97 ≤ c.toNat ∧ c.toNat ≤ 122) ∨ (48 ≤ c.toNat ∧ c.toNat ≤ 57) ∨ c.toNat = 45
def Is45 (c : UInt8) : Prop := c.toNat = 45
theorem b45 (c : UInt8) : (Is45 c ∧ ((c.toNat : Int) == 45) = true ∧ ((c.toNat : Int) != 45) = false) ∨ (¬ Is45 c ∧ ((c.toNat : Int) == 45) = false ∧ ((c.toNat : Int) != 45) = true) := by
  by_cases h : c.toNat = 45
  · exact .inl ⟨h, by simp; omega, by simp; omega⟩
  · exact .inr ⟨h, by simp; omega, by simp; omega⟩
/-- one step of a loop over the bytes -/
theorem bytes_step {p : UInt8 → Bool} (s : ByteArray) (k : Nat) (hk : k < s.size) (h : (s.data.toList.take k).all p = true) : (p s[k] = true → (s.data.toList.take (k + 1)).all p = true) ∧ (p s[k] = false → s.data.toList.all p = false) := by
  have hk' : k < s.data.toList.length := by rw [size_list]; exact hk
  have e := get_list s k hk
  refine ⟨fun h1 => ?_, fun h1 => ?_⟩
  · rw [all_take k hk', h, e, h1]; rfl
  · exact all_of_not k hk' (by rw [e]; exact h1)
theorem bytes_full {p : UInt8 → Bool} {s : ByteArray} (h : (s.data.toList.take s.size).all p = true) : s.data.toList.all p = true := by
  rw [← size_list] at h; exact all_full h

set_option maxHeartbeats 1000000 in
theorem isText_any (s : ByteArray) (w : World) (hs : s.size ≤ maxLen) : Calls Tryz.prog 58 #[.string s] w fun e w' => e = .returned (.bool (textOK s)) ∧ w = w' := by
  unfold maxLen at hs
  by_cases h3 : s.size ≤ 300
  · have HT : Hid (textOK s = s.data.toList.all okT) := Lib.hid (by rw [textOK_eq, decide_eq_true h3]; rfl)
    go_enter Tryz.func58, Tryz.ntmps58
    go_wp2_with fail
    go_loop [3] (fun i => ∃ k : Nat, k ≤ s.size ∧ i = .int .i64 k ∧ Hid ((s.data.toList.take k).all okT = true)) (fun i => s.size - (intOf i).toNat)
    case atStart => exact ⟨0, Nat.zero_le _, rfl, Lib.hid rfl⟩
    case round =>
      obtain ⟨k, hk, rfl, ha⟩ := hrel
      by_cases hlt : k < s.size
      · obtain ⟨g1, g2⟩ := bytes_step s k hlt ha.out
        have G1 := Lib.hid g1
        have G2 := Lib.hid g2
        have hu := s[k].toNat_lt
        clear g1 g2 ha
        by_cases hok : 32 ≤ s[k].toNat ∧ s[k].toNat ≤ 126
        · have HE := Lib.hid (G1.out (okT_yes hok))
          obtain ⟨o1, o2⟩ := hok
          go_wp2_with fail
          all_goals first
            | (go_round
               case rel => exact ⟨k + 1, by omega, by go_num, HE⟩
               case measure => simp [intOf]; omega)
            | (exfalso; omega)
        · have HE := Lib.hid (G2.out (okT_no hok))
          go_wp2_with fail
          all_goals first
            | (go_ret
               exact ⟨ret_bool (by rw [HT.out, HE.out]), rfl⟩)
            | (exfalso; omega)
      · have e : k = s.size := by omega
        subst e
        have HE := Lib.hid (bytes_full ha.out)
        go_wp2_with fail
        go_ret
        exact ⟨ret_bool (by rw [HT.out, HE.out]), rfl⟩
  · have HT : Hid (textOK s = false) := Lib.hid (by rw [textOK_eq, decide_eq_false h3]; rfl)
    go_enter Tryz.func58, Tryz.ntmps58
    go_wp2_with fail
    go_ret
    exact ⟨ret_bool (by rw [HT.out]), rfl⟩

set_option maxHeartbeats 1000000 in
theorem isTextR_any (s : ByteArray) (w : World) (hs : s.size ≤ maxLen) : Calls Tryz.prog 74 #[.string s] w fun e w' => e = .returned (.bool (textOK s)) ∧ w = w' := by
  unfold maxLen at hs
  have HT := Lib.hid (textOK_eq s)
  go_enter Tryz.func74, Tryz.ntmps74
  go_wp2_with fail
  go_loop [3] (fun i => ∃ k : Nat, k ≤ s.size ∧ i = .int .i64 k ∧ Hid ((s.data.toList.take k).all okT = true)) (fun i => s.size - (intOf i).toNat)
  case atStart => exact ⟨0, Nat.zero_le _, rfl, Lib.hid rfl⟩
  case round =>
    obtain ⟨k, hk, rfl, ha⟩ := hrel
    by_cases hlt : k < s.size
    · obtain ⟨g1, g2⟩ := bytes_step s k hlt ha.out
      have G1 := Lib.hid g1
      have G2 := Lib.hid g2
      have hu := s[k].toNat_lt
      clear g1 g2 ha
      by_cases hok : 32 ≤ s[k].toNat ∧ s[k].toNat ≤ 126
      · have HE := Lib.hid (G1.out (okT_yes hok))
        obtain ⟨o1, o2⟩ := hok
        go_wp2_with fail
        all_goals first
          | (go_round
             case rel => exact ⟨k + 1, by omega, by go_num, HE⟩
             case measure => simp [intOf]; omega)
          | (exfalso; omega)
      · have HE := Lib.hid (G2.out (okT_no hok))
        go_wp2_with fail
        all_goals first
          | (go_ret
             exact ⟨ret_bool (by rw [HT.out, HE.out, Bool.and_false]), rfl⟩)
          | (exfalso; omega)
    · have e : k = s.size := by omega
      subst e
      have HE := Lib.hid (bytes_full ha.out)
      go_wp2_with fail
      go_ret
      exact ⟨ret_bool (by rw [HT.out, HE.out, Bool.and_true, Bool.eq_iff_iff, decide_eq_true_eq, decide_eq_true_eq]; omega), rfl⟩

set_option maxHeartbeats 2000000 in
theorem isName_any (s : ByteArray) (w : World) (hs : s.size ≤ maxLen) : Calls Tryz.prog 65 #[.string s] w fun e w' => e = .returned (.bool (nameOK s)) ∧ w = w' := by
  unfold maxLen at hs
  by_cases h3 : 1 ≤ s.size ∧ s.size ≤ 20
  · have HT : Hid (nameOK s = s.data.toList.all nameByte) := Lib.hid (by unfold nameOK; rw [decide_eq_true h3.1, decide_eq_true h3.2]; rfl)
    obtain ⟨h31, h32⟩ := h3
    go_enter Tryz.func65, Tryz.ntmps65
    go_wp2_with fail
    go_loop [3, 4, 5] (fun i _ _ => ∃ k : Nat, k ≤ s.size ∧ i = .int .i64 k ∧ Hid ((s.data.toList.take k).all nameByte = true)) (fun i _ _ => s.size - (intOf i).toNat)
    case atStart => exact ⟨0, Nat.zero_le _, rfl, Lib.hid rfl⟩
    case round =>
      obtain ⟨k, hk, rfl, ha⟩ := hrel
      by_cases hlt : k < s.size
      · obtain ⟨g1, g2⟩ := bytes_step s k hlt ha.out
        have G1 := Lib.hid g1
        have G2 := Lib.hid g2
        have hu := s[k].toNat_lt
        clear g1 g2 ha
        by_cases hok : IsN s[k]
        · have HE := Lib.hid (G1.out (nameB_yes hok))
          have HO := hok
          clear hok
          rcases b45 s[k] with ⟨H45, e1, e2⟩ | ⟨H45, e1, e2⟩ <;> go_wp2_with fail
          all_goals first
            | (go_round
               case rel => exact ⟨k + 1, by omega, by go_num, HE⟩
               case measure => simp [intOf]; omega)
            | (exfalso; unfold IsN at HO; unfold Is45 at H45; omega)
            | (exfalso; simp only [Bool.not_eq_false', Bool.not_eq_true', decide_eq_true_eq, decide_eq_false_iff_not] at *; omega)
        · have HE := Lib.hid (G2.out (nameB_no hok))
          have HO := hok
          clear hok
          rcases b45 s[k] with ⟨H45, e1, e2⟩ | ⟨H45, e1, e2⟩ <;> go_wp2_with fail
          all_goals first
            | (go_ret
               exact ⟨ret_bool (by rw [HT.out, HE.out]), rfl⟩)
            | (exfalso; unfold IsN at HO; unfold Is45 at H45; omega)
            | (exfalso; simp only [Bool.not_eq_false', decide_eq_true_eq] at *; omega)
      · have e : k = s.size := by omega
        subst e
        have HE := Lib.hid (bytes_full ha.out)
        go_wp2_with fail
        go_ret
        exact ⟨ret_bool (by rw [HT.out, HE.out]), rfl⟩
  · have HT : Hid (nameOK s = false) := Lib.hid (by
      rw [Bool.eq_false_iff]; intro e; unfold nameOK at e; simp only [Bool.and_eq_true, decide_eq_true_eq] at e; exact h3 e.1)
    go_enter Tryz.func65, Tryz.ntmps65
    go_wp2_with fail
    all_goals first
      | (go_ret
         exact ⟨ret_bool (by rw [HT.out]), rfl⟩)
      | (exfalso; omega)

set_option maxHeartbeats 2000000 in
theorem isNameR_any (s : ByteArray) (w : World) (hs : s.size ≤ maxLen) : Calls Tryz.prog 76 #[.string s] w fun e w' => e = .returned (.bool (nameOK s)) ∧ w = w' := by
  unfold maxLen at hs
  have HT : Hid (nameOK s = (decide (1 ≤ s.size) && decide (s.size ≤ 20) && s.data.toList.all nameByte)) := Lib.hid rfl
  go_enter Tryz.func76, Tryz.ntmps76
  go_wp2_with fail
  go_loop [3, 4, 5] (fun i _ _ => ∃ k : Nat, k ≤ s.size ∧ i = .int .i64 k ∧ Hid ((s.data.toList.take k).all nameByte = true)) (fun i _ _ => s.size - (intOf i).toNat)
  case atStart => exact ⟨0, Nat.zero_le _, rfl, Lib.hid rfl⟩
  case round =>
    obtain ⟨k, hk, rfl, ha⟩ := hrel
    by_cases hlt : k < s.size
    · obtain ⟨g1, g2⟩ := bytes_step s k hlt ha.out
      have G1 := Lib.hid g1
      have G2 := Lib.hid g2
      have hu := s[k].toNat_lt
      clear g1 g2 ha
      by_cases hok : IsN s[k]
      · have HE := Lib.hid (G1.out (nameB_yes hok))
        have HO := hok
        clear hok
        rcases b45 s[k] with ⟨H45, e1, e2⟩ | ⟨H45, e1, e2⟩ <;> go_wp2_with fail
        all_goals first
          | (go_round
             case rel => exact ⟨k + 1, by omega, by go_num, HE⟩
             case measure => simp [intOf]; omega)
          | (exfalso; unfold IsN at HO; unfold Is45 at H45; omega)
          | (exfalso; simp only [Bool.not_eq_false', Bool.not_eq_true', decide_eq_true_eq, decide_eq_false_iff_not] at *; omega)
      · have HE := Lib.hid (G2.out (nameB_no hok))
        have HO := hok
        clear hok
        rcases b45 s[k] with ⟨H45, e1, e2⟩ | ⟨H45, e1, e2⟩ <;> go_wp2_with fail
        all_goals first
          | (go_ret
             exact ⟨ret_bool (by rw [HT.out, HE.out, Bool.and_false]), rfl⟩)
          | (exfalso; unfold IsN at HO; unfold Is45 at H45; omega)
          | (exfalso; simp only [Bool.not_eq_false', decide_eq_true_eq] at *; omega)
    · have e : k = s.size := by omega
      subst e
      have HE := Lib.hid (bytes_full ha.out)
      go_wp2_with fail
      all_goals
        go_ret
        refine ⟨ret_bool ?_, rfl⟩
        rw [HT.out, HE.out]
        by_cases h1 : 1 ≤ s.size <;> by_cases h2 : s.size ≤ 20 <;> first | (simp [h1, h2]; done) | (simp [h1, h2]; omega) | (exfalso; omega)
end Go.Proofs.YtikpbknafhnieaaGreatDoor

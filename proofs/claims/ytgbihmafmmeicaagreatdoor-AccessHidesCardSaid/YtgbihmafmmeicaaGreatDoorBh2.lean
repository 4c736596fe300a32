/-
  WHAT IS PROVED HERE: 25 texts joined, each with its own head: what the walks of the program give. Conditions: each at its place.
-/
import Derived.Test.YtgbihmafmmeicaaGreatDoorBh1
import Derived.WalkLawsBesides
import Derived.Shelf.Abstract
import Derived.Laws.Rows
import Derived.Great.BuildSlice
import Derived.Deep.WholeRow
import Derived.StillTailTactics
import Derived.Laws.CopyOwn
import Derived.Deep.MidRow
import Derived.Deep.RegionHeld3
import Derived.ControlIn
import Derived.Scope
import Derived.RangeFuncNested
import Derived.RangeFuncBound
import Derived.RangeFuncCalls
import Derived.RangeFuncLeaves
import Derived.RangeFuncWrites
import Derived.RangeFuncBox
import Derived.Shelf.RegionOpen
import Derived.OwnWalkIn
import Derived.TacticsInMore
import Derived.LoopNIn
import Derived.LoopIn
import Derived.Maps.AppendAt
import Derived.DeepKeys3
import Derived.KernelRfl
import Derived.Shelf.SlGeneric
import Derived.Shelf.SortM.Plain
import Derived.Shelf.SortM.SortNone
import Derived.Shelf.Slices.CompactI
import Derived.Ground.Names2Prog
import Derived.Ground.SlgmProg
import Derived.Test.YtgbihmafmmeicaaGreatDoorProg
import Derived.Sort.OwnSortedInts
namespace Go.Proofs.YtgbihmafmmeicaaGreatDoor
open Go.RowKit Mg

def okT (c : UInt8) : Bool := decide (32 ≤ c.toNat) && decide (c.toNat ≤ 126)
theorem okT_yes {c : UInt8} (h : 32 ≤ c.toNat ∧ c.toNat ≤ 126) : okT c = true := by unfold okT; rw [decide_eq_true h.1, decide_eq_true h.2]; rfl
theorem okT_no {c : UInt8} (h : ¬ (32 ≤ c.toNat ∧ c.toNat ≤ 126)) : okT c = false := by
  rw [Bool.eq_false_iff]; intro e; unfold okT at e; simp only [Bool.and_eq_true, decide_eq_true_eq] at e; exact h e
theorem textOK_eq (s : ByteArray) : textOK s = (decide (s.size ≤ 300) && s.data.toList.all okT) := rfl
theorem nameB_iff (c : UInt8) : nameByte c = true ↔ (97 ≤ c.toNat ∧ c.toNat ≤ 122) ∨ (48 ≤ c.toNat ∧ c.toNat ≤ 57) ∨ c.toNat = 45 := by
  unfold nameByte; simp only [Bool.or_eq_true, Bool.and_eq_true, decide_eq_true_eq, or_assoc]
theorem nameB_yes {c : UInt8} (h : (97 ≤ c.toNat ∧ c.toNat ≤ 122) ∨ (48 ≤ c.toNat ∧ c.toNat ≤ 57) ∨ c.toNat = 45) : nameByte c = true := (nameB_iff c).2 h
theorem nameB_no {c : UInt8} (h : ¬ ((97 ≤ c.toNat ∧ c.toNat ≤ 122) ∨ (48 ≤ c.toNat ∧ c.toNat ≤ 57) ∨ c.toNat = 45)) : nameByte c = false := Bool.eq_false_iff.2 fun e => h ((nameB_iff c).1 e)
def IsN (c : UInt8) : Prop := (97 ≤ c.toNat ∧ c.toNat ≤ 122) ∨ (48 ≤ c.toNat ∧ c.toNat ≤ 57) ∨ c.toNat = 45
def Is45 (c : UInt8) : Prop := c.toNat = 45
theorem b45 (c : UInt8) : (Is45 c ∧ ((c.toNat : Int) == 45) = true ∧ ((c.toNat : Int) != 45) = false) ∨ (¬ Is45 c ∧ ((c.toNat : Int) == 45) = false ∧ ((c.toNat : Int) != 45) = true) := by
  by_cases h : c.toNat = 45
  · exact .inl ⟨h, by simp; omega, by simp; omega⟩
  · exact .inr ⟨h, by simp; omega, by simp; omega⟩
theorem bytes_step {p : UInt8 → Bool} (s : ByteArray) (k : Nat) (hk : k < s.size) (h : (s.data.toList.take k).all p = true) : (p s[k] = true → (s.data.toList.take (k + 1)).all p = true) ∧ (p s[k] = false → s.data.toList.all p = false) := by
  have hk' : k < s.data.toList.length := by rw [size_list]; exact hk
  have e := get_list s k hk
  refine ⟨fun h1 => ?_, fun h1 => ?_⟩
  · rw [all_take k hk', h, e, h1]; rfl
  · exact all_of_not k hk' (by rw [e]; exact h1)
theorem bytes_full {p : UInt8 → Bool} {s : ByteArray} (h : (s.data.toList.take s.size).all p = true) : s.data.toList.all p = true := by
  rw [← size_list] at h; exact all_full h

set_option maxHeartbeats 1000000 in
theorem isText_any (s : ByteArray) (w : World) (hs : s.size ≤ maxLen) : Calls Tryz.prog 122 #[.string s] w fun e w' => e = .returned (.bool (textOK s)) ∧ w = w' := by
  unfold maxLen at hs
  by_cases h3 : s.size ≤ 300
  · have HT : Hid (textOK s = s.data.toList.all okT) := Lib.hid (by rw [textOK_eq, decide_eq_true h3]; rfl)
    go_enter Tryz.func122, Tryz.ntmps122
    go_wp2_with fail
    go_loop [3] (fun i => ∃ k : Nat, k ≤ s.size ∧ i = .int .i64 k ∧ Hid ((s.data.toList.take k).all okT = true)) (fun i => s.size - (intOf i).toNat)
    case atStart => exact ⟨0, Nat.zero_le _, rfl, Lib.hid rfl⟩
    case round =>
      obtain ⟨k, hk, rfl, ha⟩ := hrel
      by_cases hlt : k < s.size
      · obtain ⟨g1, g2⟩ := bytes_step s k hlt ha.out
        have G1 := Lib.hid g1
        have G2 := Lib.hid g2
        have hu := s[k].toNat_lt
        clear g1 g2 ha
        by_cases hok : 32 ≤ s[k].toNat ∧ s[k].toNat ≤ 126
        · have HE := Lib.hid (G1.out (okT_yes hok))
          obtain ⟨o1, o2⟩ := hok
          go_wp2_with fail
          all_goals first
            | (go_round
               case rel => exact ⟨k + 1, by omega, by go_num, HE⟩
               case measure => simp [intOf]; omega)
            | (exfalso; omega)
        · have HE := Lib.hid (G2.out (okT_no hok))
          go_wp2_with fail
          all_goals first
            | (go_ret
               exact ⟨ret_bool (by rw [HT.out, HE.out]), rfl⟩)
            | (exfalso; omega)
      · have e : k = s.size := by omega
        subst e
        have HE := Lib.hid (bytes_full ha.out)
        go_wp2_with fail
        go_ret
        exact ⟨ret_bool (by rw [HT.out, HE.out]), rfl⟩
  · have HT : Hid (textOK s = false) := Lib.hid (by rw [textOK_eq, decide_eq_false h3]; rfl)
    go_enter Tryz.func122, Tryz.ntmps122
    go_wp2_with fail
    go_ret
    exact ⟨ret_bool (by rw [HT.out]), rfl⟩

set_option maxHeartbeats 1000000 in
theorem isTextR_any (s : ByteArray) (w : World) (hs : s.size ≤ maxLen) : Calls Tryz.prog 79 #[.string s] w fun e w' => e = .returned (.bool (textOK s)) ∧ w = w' := by
  unfold maxLen at hs
  have HT := Lib.hid (textOK_eq s)
  go_enter Tryz.func79, Tryz.ntmps79
  go_wp2_with fail
  go_loop [3] (fun i => ∃ k : Nat, k ≤ s.size ∧ i = .int .i64 k ∧ Hid ((s.data.toList.take k).all okT = true)) (fun i => s.size - (intOf i).toNat)
  case atStart => exact ⟨0, Nat.zero_le _, rfl, Lib.hid rfl⟩
  case round =>
    obtain ⟨k, hk, rfl, ha⟩ := hrel
    by_cases hlt : k < s.size
    · obtain ⟨g1, g2⟩ := bytes_step s k hlt ha.out
      have G1 := Lib.hid g1
      have G2 := Lib.hid g2
      have hu := s[k].toNat_lt
      clear g1 g2 ha
      by_cases hok : 32 ≤ s[k].toNat ∧ s[k].toNat ≤ 126
      · have HE := Lib.hid (G1.out (okT_yes hok))
        obtain ⟨o1, o2⟩ := hok
        go_wp2_with fail
        all_goals first
          | (go_round
             case rel => exact ⟨k + 1, by omega, by go_num, HE⟩
             case measure => simp [intOf]; omega)
          | (exfalso; omega)
      · have HE := Lib.hid (G2.out (okT_no hok))
        go_wp2_with fail
        all_goals first
          | (go_ret
             exact ⟨ret_bool (by rw [HT.out, HE.out, Bool.and_false]), rfl⟩)
          | (exfalso; omega)
    · have e : k = s.size := by omega
      subst e
      have HE := Lib.hid (bytes_full ha.out)
      go_wp2_with fail
      go_ret
      exact ⟨ret_bool (by rw [HT.out, HE.out, Bool.and_true, Bool.eq_iff_iff, decide_eq_true_eq, decide_eq_true_eq]; omega), rfl⟩

set_option maxHeartbeats 2000000 in
theorem isName_any (s : ByteArray) (w : World) (hs : s.size ≤ maxLen) : Calls Tryz.prog 129 #[.string s] w fun e w' => e = .returned (.bool (nameOK s)) ∧ w = w' := by
  unfold maxLen at hs
  by_cases h3 : 1 ≤ s.size ∧ s.size ≤ 20
  · have HT : Hid (nameOK s = s.data.toList.all nameByte) := Lib.hid (by unfold nameOK; rw [decide_eq_true h3.1, decide_eq_true h3.2]; rfl)
    obtain ⟨h31, h32⟩ := h3
    go_enter Tryz.func129, Tryz.ntmps129
    go_wp2_with fail
    go_loop [3, 4, 5] (fun i _ _ => ∃ k : Nat, k ≤ s.size ∧ i = .int .i64 k ∧ Hid ((s.data.toList.take k).all nameByte = true)) (fun i _ _ => s.size - (intOf i).toNat)
    case atStart => exact ⟨0, Nat.zero_le _, rfl, Lib.hid rfl⟩
    case round =>
      obtain ⟨k, hk, rfl, ha⟩ := hrel
      by_cases hlt : k < s.size
      · obtain ⟨g1, g2⟩ := bytes_step s k hlt ha.out
        have G1 := Lib.hid g1
        have G2 := Lib.hid g2
        have hu := s[k].toNat_lt
        clear g1 g2 ha
        by_cases hok : IsN s[k]
        · have HE := Lib.hid (G1.out (nameB_yes hok))
          have HO := hok
          clear hok
          rcases b45 s[k] with ⟨H45, e1, e2⟩ | ⟨H45, e1, e2⟩ <;> go_wp2_with fail
          all_goals first
            | (go_round
               case rel => exact ⟨k + 1, by omega, by go_num, HE⟩
               case measure => simp [intOf]; omega)
            | (exfalso; unfold IsN at HO; unfold Is45 at H45; omega)
            | (exfalso; simp only [Bool.not_eq_false', Bool.not_eq_true', decide_eq_true_eq, decide_eq_false_iff_not] at *; omega)
        · have HE := Lib.hid (G2.out (nameB_no hok))
          have HO := hok
          clear hok
          rcases b45 s[k] with ⟨H45, e1, e2⟩ | ⟨H45, e1, e2⟩ <;> go_wp2_with fail
          all_goals first
            | (go_ret
               exact ⟨ret_bool (by rw [HT.out, HE.out]), rfl⟩)
            | (exfalso; unfold IsN at HO; unfold Is45 at H45; omega)
            | (exfalso; simp only [Bool.not_eq_false', decide_eq_true_eq] at *; omega)
      · have e : k = s.size := by omega
        subst e
        have HE := Lib.hid (bytes_full ha.out)
        go_wp2_with fail
        go_ret
        exact ⟨ret_bool (by rw [HT.out, HE.out]), rfl⟩
  · have HT : Hid (nameOK s = false) := Lib.hid (by
      rw [Bool.eq_false_iff]; intro e; unfold nameOK at e; simp only [Bool.and_eq_true, decide_eq_true_eq] at e; exact h3 e.1)
    go_enter Tryz.func129, Tryz.ntmps129
    go_wp2_with fail
    all_goals first
      | (go_ret
         exact ⟨ret_bool (by rw [HT.out]), rfl⟩)
      | (exfalso; omega)

set_option maxHeartbeats 2000000 in
theorem isNameR_any (s : ByteArray) (w : World) (hs : s.size ≤ maxLen) : Calls Tryz.prog 59 #[.string s] w fun e w' => e = .returned (.bool (nameOK s)) ∧ w = w' := by
  unfold maxLen at hs
  have HT : Hid (nameOK s = (decide (1 ≤ s.size) && decide (s.size ≤ 20) && s.data.toList.all nameByte)) := Lib.hid rfl
  go_enter Tryz.func59, Tryz.ntmps59
  go_wp2_with fail
  go_loop [3, 4, 5] (fun i _ _ => ∃ k : Nat, k ≤ s.size ∧ i = .int .i64 k ∧ Hid ((s.data.toList.take k).all nameByte = true)) (fun i _ _ => s.size - (intOf i).toNat)
  case atStart => exact ⟨0, Nat.zero_le _, rfl, Lib.hid rfl⟩
  case round =>
    obtain ⟨k, hk, rfl, ha⟩ := hrel
    by_cases hlt : k < s.size
    · obtain ⟨g1, g2⟩ := bytes_step s k hlt ha.out
      have G1 := Lib.hid g1
      have G2 := Lib.hid g2
      have hu := s[k].toNat_lt
      clear g1 g2 ha
      by_cases hok : IsN s[k]
      · have HE := Lib.hid (G1.out (nameB_yes hok))
        have HO := hok
        clear hok
        rcases b45 s[k] with ⟨H45, e1, e2⟩ | ⟨H45, e1, e2⟩ <;> go_wp2_with fail
        all_goals first
          | (go_round
             case rel => exact ⟨k + 1, by omega, by go_num, HE⟩
             case measure => simp [intOf]; omega)
          | (exfalso; unfold IsN at HO; unfold Is45 at H45; omega)
          | (exfalso; simp only [Bool.not_eq_false', Bool.not_eq_true', decide_eq_true_eq, decide_eq_false_iff_not] at *; omega)
      · have HE := Lib.hid (G2.out (nameB_no hok))
        have HO := hok
        clear hok
        rcases b45 s[k] with ⟨H45, e1, e2⟩ | ⟨H45, e1, e2⟩ <;> go_wp2_with fail
        all_goals first
          | (go_ret
             exact ⟨ret_bool (by rw [HT.out, HE.out, Bool.and_false]), rfl⟩)
          | (exfalso; unfold IsN at HO; unfold Is45 at H45; omega)
          | (exfalso; simp only [Bool.not_eq_false', decide_eq_true_eq] at *; omega)
    · have e : k = s.size := by omega
      subst e
      have HE := Lib.hid (bytes_full ha.out)
      go_wp2_with fail
      all_goals
        go_ret
        refine ⟨ret_bool ?_, rfl⟩
        rw [HT.out, HE.out]
        by_cases h1 : 1 ≤ s.size <;> by_cases h2 : s.size ≤ 20 <;> first | (simp [h1, h2]; done) | (simp [h1, h2]; omega) | (exfalso; omega)
end Go.Proofs.YtgbihmafmmeicaaGreatDoor
namespace Go.Proofs.YtgbihmafmmeicaaGreatDoor
open Go.RowKit Mg

theorem ret_bool' {a b : Bool} (h : a = b) : Ending.returned (.bool a) = .returned (.bool b) := by rw [h]
theorem fwithin_any (n a b : Int) (w : World) : Calls Tryz.prog 84 #[.int .i64 n, .int .i64 a, .int .i64 b] w fun e w' => e = .returned (.bool (inR n a b)) ∧ w = w' := by
  by_cases h1 : a ≤ n
  · by_cases h2 : n ≤ b
    · have HR : Hid (inR n a b = true) := Lib.hid (by unfold inR; simp [h1, h2])
      have k1 : decide (a ≤ n) = true := by simpa using h1
      have k2 : decide (n ≤ b) = true := by simpa using h2
      go_enter Tryz.func84, Tryz.ntmps84
      go_wp2_with fail
      go_ret
      exact ⟨ret_bool' (by rw [HR.out]), rfl⟩
    · have HR : Hid (inR n a b = false) := Lib.hid (by unfold inR; simp; omega)
      have k1 : decide (a ≤ n) = true := by simpa using h1
      have k2 : decide (n ≤ b) = false := by simp; omega
      go_enter Tryz.func84, Tryz.ntmps84
      go_wp2_with fail
      go_ret
      exact ⟨ret_bool' (by rw [HR.out]), rfl⟩
  · have HR : Hid (inR n a b = false) := Lib.hid (by unfold inR; simp; omega)
    have k1 : decide (a ≤ n) = false := by simpa using h1
    go_enter Tryz.func84, Tryz.ntmps84
    go_wp2_with fail
    go_ret
    exact ⟨ret_bool' (by rw [HR.out]), rfl⟩
theorem printable_any (c : UInt8) (w : World) : Calls Tryz.prog 115 #[.int .u8 c.toNat] w fun e w' => e = .returned (.bool (okT c)) ∧ w = w' := by
  by_cases h1 : 32 ≤ c.toNat
  · by_cases h2 : c.toNat ≤ 126
    · have HR := Lib.hid (okT_yes ⟨h1, h2⟩)
      go_enter Tryz.func115, Tryz.ntmps115
      go_wp2_with fail
      all_goals first
        | (go_ret
           refine ⟨ret_bool' ?_, rfl⟩
           rw [HR.out]
           first | done | (simp; done) | (simp; omega))
        | (exfalso; omega)
    · have HR := Lib.hid (okT_no (fun h => h2 h.2))
      go_enter Tryz.func115, Tryz.ntmps115
      go_wp2_with fail
      all_goals first
        | (go_ret
           refine ⟨ret_bool' ?_, rfl⟩
           rw [HR.out]
           first | done | (simp; done) | (simp; omega))
        | (exfalso; omega)
  · have HR := Lib.hid (okT_no (fun h => h1 h.1))
    go_enter Tryz.func115, Tryz.ntmps115
    go_wp2_with fail
    all_goals first
      | (go_ret
         refine ⟨ret_bool' ?_, rfl⟩
         rw [HR.out]
         first | done | (simp; done) | (simp; omega))
      | (exfalso; omega)
theorem srcByte_eq (c : UInt8) : srcByte c = (decide (c.toNat = 10) || okT c) := rfl
theorem isSource1_any (c : UInt8) (w : World) : Calls Tryz.prog 117 #[.int .u8 c.toNat] w fun e w' => e = .returned (.bool (srcByte c)) ∧ w = w' := by
  by_cases h1 : c.toNat = 10
  · have HR : Hid (srcByte c = true) := Lib.hid (by rw [srcByte_eq, decide_eq_true h1]; rfl)
    have k1 : ((c.toNat : Int) == 10) = true := by simp; omega
    have H1 := Lib.hid h1
    clear h1
    go_enter Tryz.func117, Tryz.ntmps117
    go_wp2_with fail
    go_ret
    exact ⟨ret_bool' (by rw [HR.out]), rfl⟩
  · have HR : Hid (srcByte c = okT c) := Lib.hid (by rw [srcByte_eq, decide_eq_false h1]; rfl)
    have k1 : ((c.toNat : Int) == 10) = false := by simp; omega
    have H1 := Lib.hid h1
    clear h1
    go_enter Tryz.func117, Tryz.ntmps117
    go_wp2_with fail
    refine (printable_any c w).mono ?_
    rintro e w' ⟨rfl, rfl⟩
    go_wp2_with fail
    go_ret
    exact ⟨ret_bool' (by rw [HR.out]), rfl⟩
theorem isName1_any (c : UInt8) (w : World) : Calls Tryz.prog 116 #[.int .u8 c.toNat] w fun e w' => e = .returned (.bool (nameByte c)) ∧ w = w' := by
  have hy := Lib.hid (@nameB_yes c)
  have hn := Lib.hid (@nameB_no c)
  by_cases h1 : 97 ≤ c.toNat
  · by_cases h2 : c.toNat ≤ 122
    · have HR := Lib.hid (hy.out (.inl ⟨h1, h2⟩))
      go_enter Tryz.func116, Tryz.ntmps116
      go_wp2_with fail
      all_goals first
        | (go_ret
           refine ⟨ret_bool' ?_, rfl⟩
           rw [HR.out]
           first | done | (simp; done) | (simp; omega))
        | (exfalso; omega)
    · have HR := Lib.hid (hn.out (by omega))
      have k0 : ((c.toNat : Int) == 45) = false := by simp; omega
      go_enter Tryz.func116, Tryz.ntmps116
      go_wp2_with fail
      all_goals first
        | (go_ret
           refine ⟨ret_bool' ?_, rfl⟩
           rw [HR.out]
           first | done | (simp; done) | (simp; omega))
        | (exfalso; omega)
  · by_cases h3 : 48 ≤ c.toNat
    · by_cases h4 : c.toNat ≤ 57
      · have HR := Lib.hid (hy.out (.inr (.inl ⟨h3, h4⟩)))
        go_enter Tryz.func116, Tryz.ntmps116
        go_wp2_with fail
        all_goals first
          | (go_ret
             refine ⟨ret_bool' ?_, rfl⟩
             rw [HR.out]
             first | done | (simp; done) | (simp; omega))
          | (exfalso; omega)
      · have HR := Lib.hid (hn.out (by omega))
        have k0 : ((c.toNat : Int) == 45) = false := by simp; omega
        go_enter Tryz.func116, Tryz.ntmps116
        go_wp2_with fail
        all_goals first
          | (go_ret
             refine ⟨ret_bool' ?_, rfl⟩
             rw [HR.out]
             first | done | (simp; done) | (simp; omega))
          | (exfalso; omega)
    · by_cases h5 : c.toNat = 45
      · have HR := Lib.hid (hy.out (.inr (.inr h5)))
        have k0 : ((c.toNat : Int) == 45) = true := by simp; omega
        have H5 := Lib.hid h5
        clear h5
        go_enter Tryz.func116, Tryz.ntmps116
        go_wp2_with fail
        all_goals first
          | (go_ret
             refine ⟨ret_bool' ?_, rfl⟩
             rw [HR.out]
             first | done | (simp; done) | (simp; omega))
          | (exfalso; omega)
      · have HR := Lib.hid (hn.out (by omega))
        have k0 : ((c.toNat : Int) == 45) = false := by simp; omega
        have H5 := Lib.hid h5
        clear h5
        go_enter Tryz.func116, Tryz.ntmps116
        go_wp2_with fail
        all_goals first
          | (go_ret
             refine ⟨ret_bool' ?_, rfl⟩
             rw [HR.out]
             first | done | (simp; done) | (simp; omega))
          | (exfalso; omega)

def consF (p : UInt8 → Bool) (s : ByteArray) (a b : Int) : Bool := inR s.size a b && s.data.toList.all p
set_option maxHeartbeats 1000000 in
theorem consists_p (s : ByteArray) (a b : Int) (w : World) (hs : s.size ≤ maxLen) : Calls Tryz.prog 114 #[.string s, .int .i64 a, .int .i64 b, .func (.func 115) #[] #[]] w fun e w' => e = .returned (.bool (consF okT s a b)) ∧ w = w' := by
  unfold maxLen at hs
  have cw := fun W => fwithin_any (s.size : Int) a b W
  have HC := Lib.hid (fun (c : UInt8) W => printable_any c W)
  have HU : Hid (consF okT s a b = (inR s.size a b && s.data.toList.all okT)) := Lib.hid rfl
  generalize inR (s.size : Int) a b = q at *
  cases q with
  | false =>
    go_enter Tryz.func114, Tryz.ntmps114
    go_wp2_with fail
    refine (cw w).mono ?_
    rintro e w' ⟨rfl, rfl⟩
    clear cw
    go_wp2_with fail
    go_ret
    exact ⟨ret_bool' (by rw [HU.out]; rfl), rfl⟩
  | true =>
    go_enter Tryz.func114, Tryz.ntmps114
    go_wp2_with fail
    refine (cw w).mono ?_
    rintro e w' ⟨rfl, rfl⟩
    clear cw
    go_wp2_with fail
    go_loop [9] (fun i => ∃ k : Nat, k ≤ s.size ∧ i = .int .i64 k ∧ Hid ((s.data.toList.take k).all okT = true)) (fun i => s.size - (intOf i).toNat)
    case atStart => exact ⟨0, Nat.zero_le _, rfl, Lib.hid rfl⟩
    case round =>
      obtain ⟨k, hk, rfl, ha⟩ := hrel
      by_cases hlt : k < s.size
      · obtain ⟨g1, g2⟩ := bytes_step s k hlt ha.out
        have G1 := Lib.hid g1
        have G2 := Lib.hid g2
        clear g1 g2 ha
        have cc := HC.out s[k]
        generalize hq : okT s[k] = q at *
        have HQ := Lib.hid hq
        clear hq
        go_wp2_with fail
        refine (cc w).mono ?_
        rintro e w' ⟨rfl, rfl⟩
        clear cc
        cases q with
        | true =>
          have HE := Lib.hid (G1.out rfl)
          clear G1 G2 HQ
          go_wp2_with fail
          go_round
          case rel => exact ⟨k + 1, by omega, by go_num, HE⟩
          case measure => simp [intOf]; omega
        | false =>
          have HE := Lib.hid (G2.out rfl)
          clear G1 G2 HQ
          go_wp2_with fail
          go_ret
          exact ⟨ret_bool' (by rw [HU.out, HE.out]; rfl), rfl⟩
      · have e : k = s.size := by omega
        subst e
        have HE := Lib.hid (bytes_full ha.out)
        go_wp2_with fail
        go_ret
        exact ⟨ret_bool' (by rw [HU.out, HE.out]; rfl), rfl⟩
set_option maxHeartbeats 1000000 in
theorem consists_n (s : ByteArray) (a b : Int) (w : World) (hs : s.size ≤ maxLen) : Calls Tryz.prog 114 #[.string s, .int .i64 a, .int .i64 b, .func (.func 116) #[] #[]] w fun e w' => e = .returned (.bool (consF nameByte s a b)) ∧ w = w' := by
  unfold maxLen at hs
  have cw := fun W => fwithin_any (s.size : Int) a b W
  have HC := Lib.hid (fun (c : UInt8) W => isName1_any c W)
  have HU : Hid (consF nameByte s a b = (inR s.size a b && s.data.toList.all nameByte)) := Lib.hid rfl
  generalize inR (s.size : Int) a b = q at *
  cases q with
  | false =>
    go_enter Tryz.func114, Tryz.ntmps114
    go_wp2_with fail
    refine (cw w).mono ?_
    rintro e w' ⟨rfl, rfl⟩
    clear cw
    go_wp2_with fail
    go_ret
    exact ⟨ret_bool' (by rw [HU.out]; rfl), rfl⟩
  | true =>
    go_enter Tryz.func114, Tryz.ntmps114
    go_wp2_with fail
    refine (cw w).mono ?_
    rintro e w' ⟨rfl, rfl⟩
    clear cw
    go_wp2_with fail
    go_loop [9] (fun i => ∃ k : Nat, k ≤ s.size ∧ i = .int .i64 k ∧ Hid ((s.data.toList.take k).all nameByte = true)) (fun i => s.size - (intOf i).toNat)
    case atStart => exact ⟨0, Nat.zero_le _, rfl, Lib.hid rfl⟩
    case round =>
      obtain ⟨k, hk, rfl, ha⟩ := hrel
      by_cases hlt : k < s.size
      · obtain ⟨g1, g2⟩ := bytes_step s k hlt ha.out
        have G1 := Lib.hid g1
        have G2 := Lib.hid g2
        clear g1 g2 ha
        have cc := HC.out s[k]
        generalize hq : nameByte s[k] = q at *
        have HQ := Lib.hid hq
        clear hq
        go_wp2_with fail
        refine (cc w).mono ?_
        rintro e w' ⟨rfl, rfl⟩
        clear cc
        cases q with
        | true =>
          have HE := Lib.hid (G1.out rfl)
          clear G1 G2 HQ
          go_wp2_with fail
          go_round
          case rel => exact ⟨k + 1, by omega, by go_num, HE⟩
          case measure => simp [intOf]; omega
        | false =>
          have HE := Lib.hid (G2.out rfl)
          clear G1 G2 HQ
          go_wp2_with fail
          go_ret
          exact ⟨ret_bool' (by rw [HU.out, HE.out]; rfl), rfl⟩
      · have e : k = s.size := by omega
        subst e
        have HE := Lib.hid (bytes_full ha.out)
        go_wp2_with fail
        go_ret
        exact ⟨ret_bool' (by rw [HU.out, HE.out]; rfl), rfl⟩
set_option maxHeartbeats 1000000 in
theorem consists_s (s : ByteArray) (a b : Int) (w : World) (hs : s.size ≤ maxLen) : Calls Tryz.prog 114 #[.string s, .int .i64 a, .int .i64 b, .func (.func 117) #[] #[]] w fun e w' => e = .returned (.bool (consF srcByte s a b)) ∧ w = w' := by
  unfold maxLen at hs
  have cw := fun W => fwithin_any (s.size : Int) a b W
  have HC := Lib.hid (fun (c : UInt8) W => isSource1_any c W)
  have HU : Hid (consF srcByte s a b = (inR s.size a b && s.data.toList.all srcByte)) := Lib.hid rfl
  generalize inR (s.size : Int) a b = q at *
  cases q with
  | false =>
    go_enter Tryz.func114, Tryz.ntmps114
    go_wp2_with fail
    refine (cw w).mono ?_
    rintro e w' ⟨rfl, rfl⟩
    clear cw
    go_wp2_with fail
    go_ret
    exact ⟨ret_bool' (by rw [HU.out]; rfl), rfl⟩
  | true =>
    go_enter Tryz.func114, Tryz.ntmps114
    go_wp2_with fail
    refine (cw w).mono ?_
    rintro e w' ⟨rfl, rfl⟩
    clear cw
    go_wp2_with fail
    go_loop [9] (fun i => ∃ k : Nat, k ≤ s.size ∧ i = .int .i64 k ∧ Hid ((s.data.toList.take k).all srcByte = true)) (fun i => s.size - (intOf i).toNat)
    case atStart => exact ⟨0, Nat.zero_le _, rfl, Lib.hid rfl⟩
    case round =>
      obtain ⟨k, hk, rfl, ha⟩ := hrel
      by_cases hlt : k < s.size
      · obtain ⟨g1, g2⟩ := bytes_step s k hlt ha.out
        have G1 := Lib.hid g1
        have G2 := Lib.hid g2
        clear g1 g2 ha
        have cc := HC.out s[k]
        generalize hq : srcByte s[k] = q at *
        have HQ := Lib.hid hq
        clear hq
        go_wp2_with fail
        refine (cc w).mono ?_
        rintro e w' ⟨rfl, rfl⟩
        clear cc
        cases q with
        | true =>
          have HE := Lib.hid (G1.out rfl)
          clear G1 G2 HQ
          go_wp2_with fail
          go_round
          case rel => exact ⟨k + 1, by omega, by go_num, HE⟩
          case measure => simp [intOf]; omega
        | false =>
          have HE := Lib.hid (G2.out rfl)
          clear G1 G2 HQ
          go_wp2_with fail
          go_ret
          exact ⟨ret_bool' (by rw [HU.out, HE.out]; rfl), rfl⟩
      · have e : k = s.size := by omega
        subst e
        have HE := Lib.hid (bytes_full ha.out)
        go_wp2_with fail
        go_ret
        exact ⟨ret_bool' (by rw [HU.out, HE.out]; rfl), rfl⟩
theorem fisText_any (s : ByteArray) (w : World) (hs : s.size ≤ maxLen) : Calls Tryz.prog 103 #[.string s] w fun e w' => e = .returned (.bool (fullOK s)) ∧ w = w' := by
  have cc := consists_p s 1 300 w hs
  have e : consF okT s 1 300 = fullOK s := by unfold fullOK consF inR; rw [textOK_eq, Bool.and_assoc, decide_eq_decide.2 (show ((1 : Int) ≤ (s.size : Int)) ↔ 1 ≤ s.size by omega), decide_eq_decide.2 (show ((s.size : Int) ≤ 300) ↔ s.size ≤ 300 by omega)]
  rw [e] at cc
  clear e
  go_enter Tryz.func103, Tryz.ntmps103
  go_wp2_with fail
  refine cc.mono ?_
  rintro e w' ⟨rfl, rfl⟩
  clear cc
  go_wp2_with fail
  go_ret
  exact ⟨rfl, rfl⟩
theorem fisName_any (s : ByteArray) (w : World) (hs : s.size ≤ maxLen) : Calls Tryz.prog 104 #[.string s] w fun e w' => e = .returned (.bool (nameOK s)) ∧ w = w' := by
  have cc := consists_n s 1 20 w hs
  have e : consF nameByte s 1 20 = nameOK s := by unfold nameOK consF inR; rw [decide_eq_decide.2 (show ((1 : Int) ≤ (s.size : Int)) ↔ 1 ≤ s.size by omega), decide_eq_decide.2 (show ((s.size : Int) ≤ 20) ↔ s.size ≤ 20 by omega)]
  rw [e] at cc
  clear e
  go_enter Tryz.func104, Tryz.ntmps104
  go_wp2_with fail
  refine cc.mono ?_
  rintro e w' ⟨rfl, rfl⟩
  clear cc
  go_wp2_with fail
  go_ret
  exact ⟨rfl, rfl⟩
theorem fisSource_any (s : ByteArray) (w : World) (hs : s.size ≤ maxLen) : Calls Tryz.prog 105 #[.string s] w fun e w' => e = .returned (.bool (srcOK s)) ∧ w = w' := by
  have cc := consists_s s 0 1000 w hs
  have e : consF srcByte s 0 1000 = srcOK s := by unfold srcOK consF inR; rw [decide_eq_true (show ((0 : Int) ≤ (s.size : Int)) by omega), decide_eq_decide.2 (show ((s.size : Int) ≤ 1000) ↔ s.size ≤ 1000 by omega), Bool.true_and]
  rw [e] at cc
  clear e
  go_enter Tryz.func105, Tryz.ntmps105
  go_wp2_with fail
  refine cc.mono ?_
  rintro e w' ⟨rfl, rfl⟩
  clear cc
  go_wp2_with fail
  go_ret
  exact ⟨rfl, rfl⟩
end Go.Proofs.YtgbihmafmmeicaaGreatDoor
namespace Go.Proofs.YtgbihmafmmeicaaGreatDoor
open Go.RowKit Mg

theorem less_not : ∀ (x y : List UInt8), (Op.bytesLess x y || x == y) = !(Op.bytesLess y x)
  | [], [] => by simp [Op.bytesLess]
  | _ :: _, [] => by simp [Op.bytesLess]
  | [], _ :: _ => by simp [Op.bytesLess]
  | a :: x, b :: y => by
    have ih := less_not x y
    simp only [Op.bytesLess]
    by_cases h : a = b
    · subst h
      have h1 : decide (a < a) = false := by simp
      simp only [h1, beq_self_eq_true, Bool.true_and, Bool.false_or]
      rw [← ih]
      simp
    · have h2 : (a == b) = false := by simpa using h
      have h3 : (b == a) = false := by simpa using fun e => h e.symm
      have h4 : ((a :: x) == (b :: y)) = false := by simp [h]
      rw [h2, h3, h4]
      simp only [Bool.false_and, Bool.or_false]
      by_cases hl : a < b
      · have : ¬ b < a := UInt8.not_lt.2 (UInt8.le_of_lt hl)
        simp [hl, this]
      · have : b < a := by
          rcases UInt8.lt_or_eq_of_le (UInt8.not_lt.1 hl) with h5 | h5
          · exact h5
          · exact absurd h5.symm h
        simp [hl, this]
def lastUp (l : List ByteArray) (t : ByteArray) : Bool := match l.getLast? with
  | none => true
  | some p => Op.bytesLess p.toList t.toList
theorem topicsUp_snoc : ∀ (l : List ByteArray) (t : ByteArray), topicsUp (l ++ [t]) = (topicsUp l && nameOK t && lastUp l t)
  | [], t => by simp [topicsUp, lastUp]
  | [a], t => by
    show (nameOK a && Op.bytesLess a.toList t.toList && nameOK t) = (nameOK a && nameOK t && Op.bytesLess a.toList t.toList)
    cases nameOK a <;> cases nameOK t <;> cases Op.bytesLess a.toList t.toList <;> rfl
  | a :: b :: r, t => by
    have ih := topicsUp_snoc (b :: r) t
    show (nameOK a && Op.bytesLess a.toList b.toList && topicsUp ((b :: r) ++ [t])) = (nameOK a && Op.bytesLess a.toList b.toList && topicsUp (b :: r) && nameOK t && lastUp (a :: b :: r) t)
    have e : lastUp (a :: b :: r) t = lastUp (b :: r) t := by unfold lastUp; rw [List.getLast?_cons_cons]
    rw [ih, e]
    simp [Bool.and_assoc]
theorem topicsUp_pre : ∀ (r l : List ByteArray), topicsUp l = false → topicsUp (l ++ r) = false
  | [], l, h => by rwa [List.append_nil]
  | t :: r, l, h => by
    rw [← List.singleton_append, ← List.append_assoc]
    exact topicsUp_pre r _ (by rw [topicsUp_snoc, h]; rfl)
theorem topics_step {l : List ByteArray} {k : Nat} (hk : k < l.length) (h : topicsUp (l.take k) = true) : (topicsUp (l.take (k + 1)) = (nameOK l[k] && lastUp (l.take k) l[k])) ∧ ((nameOK l[k] && lastUp (l.take k) l[k]) = false → topicsUp l = false) := by
  have e : topicsUp (l.take (k + 1)) = (nameOK l[k] && lastUp (l.take k) l[k]) := by
    rw [List.take_succ_eq_append_getElem hk, topicsUp_snoc, h]; rfl
  refine ⟨e, fun hf => ?_⟩
  rw [← e] at hf
  have := topicsUp_pre (l.drop (k + 1)) _ hf
  rwa [List.take_append_drop] at this
theorem lastUp_zero (l : List ByteArray) (t : ByteArray) : lastUp (l.take 0) t = true := rfl
theorem lastUp_succ {l : List ByteArray} {k : Nat} (hk : k < l.length) (t : ByteArray) : lastUp (l.take (k + 1)) t = Op.bytesLess l[k].toList t.toList := by
  unfold lastUp
  rw [List.take_succ_eq_append_getElem hk, List.getLast?_append, List.getLast?_singleton]; rfl

set_option maxRecDepth 10000 in
set_option maxHeartbeats 2000000 in
theorem areTopics_any {mem : Addr → Option Value} {v : Value} {l : List ByteArray} (h : StrsM mem v l) (w : World) (hs : Sees mem w) :
    Calls Tryz.prog 112 #[v] w fun e w' => e = .returned (.bool (topicsOK l)) ∧ w = w' := by
  obtain ⟨ao, cap, b, o, rfl, hcap, hm, hao, hsz, hcells⟩ := h.open_ hs
  have HA := Lib.hid hao
  have HC := Lib.hid hcells
  have HZ := Lib.hid (fun j (hj : j < l.length) => hsz l[j] (List.getElem_mem hj))
  have hlen : (l.length : Int) ≤ 9223372036854775807 := by unfold maxLen at hm; omega
  clear hao hcells hs h hcap hm hsz
  by_cases h4 : l.length ≤ 4
  · have HT : Hid (topicsOK l = topicsUp l) := Lib.hid (by unfold topicsOK; rw [decide_eq_true h4]; rfl)
    go_enter Tryz.func112, Tryz.ntmps112
    go_wp2_with fail
    go_loop [10] (fun i => ∃ k : Nat, k ≤ l.length ∧ i = .int .i64 k ∧ Hid (topicsUp (l.take k) = true)) (fun i => l.length - (Go.RowKit.intOf i).toNat)
    case atStart => exact ⟨0, Nat.zero_le _, rfl, Lib.hid rfl⟩
    case round =>
      obtain ⟨k, hk, rfl, hu⟩ := hrel
      by_cases hlt : k < l.length
      · have c0 := HC.out k hlt
        obtain rfl := HA.out (by omega)
        obtain ⟨s1, s2⟩ := topics_step hlt hu.out
        have S1 := Lib.hid s1
        have S2 := Lib.hid s2
        have cn := fisName_any l[k] w (HZ.out k hlt)
        clear s1 s2 hu
        cases hq : nameOK l[k] with
        | false =>
          rw [hq] at cn
          have HF := Lib.hid (S2.out (by rw [hq]; rfl))
          clear hq S1 S2
          generalize l[k] = t at *
          go_wp2_with fail
          refine cn.mono ?_
          rintro e w' ⟨rfl, rfl⟩
          clear cn
          go_wp2_with fail
          go_ret
          exact ⟨ret_bool' (by rw [HT.out, HF.out]), rfl⟩
        | true =>
          rw [hq] at cn
          have HQ := Lib.hid hq
          clear hq
          cases k with
          | zero =>
            have HE : Hid (topicsUp (l.take (0 + 1)) = true) := Lib.hid (by rw [S1.out, HQ.out, lastUp_zero]; rfl)
            clear HQ S1 S2
            simp only [Nat.add_zero] at c0
            generalize l[0] = t at *
            go_wp2_with fail
            refine cn.mono ?_
            rintro e w' ⟨rfl, rfl⟩
            clear cn
            go_wp2_with fail
            go_round
            case rel => exact ⟨0 + 1, by omega, by go_num, HE⟩
            case measure => simp [Go.RowKit.intOf]; omega
          | succ k =>
            have c1 := HC.out k (by omega)
            have hk' : k < l.length := by omega
            have L1 := Lib.hid (lastUp_succ hk' l[k + 1])
            have N1 := Lib.hid (less_not l[k + 1].toList l[k].toList)
            cases hq2 : Op.bytesLess l[k].toList l[k + 1].toList with
            | true =>
              have HE : Hid (topicsUp (l.take (k + 1 + 1)) = true) := Lib.hid (by rw [S1.out, HQ.out, L1.out, hq2]; rfl)
              have n1 := N1.out
              rw [hq2] at n1
              simp only [Bool.not_true, Bool.or_eq_false_iff] at n1
              obtain ⟨n1, n2⟩ := n1
              clear HQ S1 S2 L1 N1 hq2
              generalize l[k + 1] = t at *
              generalize l[k] = p at *
              go_wp2_with fail
              refine cn.mono ?_
              rintro e w' ⟨rfl, rfl⟩
              clear cn
              go_wp2_with fail
              go_round
              case rel => exact ⟨k + 1 + 1, by omega, by go_num, HE⟩
              case measure => simp [Go.RowKit.intOf]; omega
            | false =>
              have HF := Lib.hid (S2.out (by rw [HQ.out, L1.out, hq2]; rfl))
              have n1 := N1.out
              rw [hq2] at n1
              simp only [Bool.not_false] at n1
              clear HQ S1 S2 L1 N1 hq2
              generalize l[k + 1] = t at *
              generalize l[k] = p at *
              go_wp2_with fail
              refine cn.mono ?_
              rintro e w' ⟨rfl, rfl⟩
              clear cn
              go_wp2_with fail
              all_goals first
                | (go_ret
                   exact ⟨ret_bool' (by rw [HT.out, HF.out]), rfl⟩)
                | (exfalso; simp_all; done)
      · have e : k = l.length := by omega
        subst e
        have HE : Hid (topicsUp l = true) := Lib.hid (by have := hu.out; rwa [List.take_length] at this)
        go_wp2_with fail
        go_ret
        exact ⟨ret_bool' (by rw [HT.out, HE.out]), rfl⟩
  · have HT : Hid (topicsOK l = false) := Lib.hid (by unfold topicsOK; rw [decide_eq_false h4]; rfl)
    go_enter Tryz.func112, Tryz.ntmps112
    go_wp2_with fail
    go_ret
    exact ⟨ret_bool' (by rw [HT.out]), rfl⟩
end Go.Proofs.YtgbihmafmmeicaaGreatDoor
namespace Go.Proofs.YtgbihmafmmeicaaGreatDoor
open Go.RowKit Mg Go.Shelf

def ruleV (f : Nat) (q : Bool) (g : Nat) : Value := .agg #[.func (.func f) #[] #[], .bool q, .func (.func g) #[] #[]]
def rulesL : List (Int × Value) := [(1, ruleV 121 false 123), (2, ruleV 121 false 124), (3, ruleV 122 true 127), (4, ruleV 121 false 128), (5, ruleV 129 false 130)]
abbrev RMap (w : World) (K : Nat) : Prop := IMap Tryz.prog 3 w K rulesL
theorem okI_small {n : Int} (h : 0 ≤ n) (h2 : n ≤ 1000000) : okI n := ⟨by omega, by omega⟩

set_option maxRecDepth 10000 in
set_option maxHeartbeats 1000000 in
theorem rules_any (w : World) : Calls Tryz.prog 119 #[] w fun e w' => e = .returned (.map (some w.heap.size)) ∧ RMap w' w.heap.size ∧ Below w.heap.size w w' := by
  have hmm := @run_makeMap Tryz.prog
  have h0 := IMap.made Tryz.prog 3 w
  have hb0 : Below w.heap.size w (w.alloc (.map #[] 0)) := (Below.refl _ w).alloc (Nat.le_refl _) _
  have hG : ∀ {a b : World}, Below w.heap.size w a → a.grownBy b (some w.heap.size) → Below w.heap.size w b := fun h g => h.grown g h.size (fun k e => by cases e; exact Nat.le_refl _)
  obtain ⟨w1, r1, h1, g1⟩ := h0.store Tryz.underlying3 Tryz.underlying143 (by decide) (i := 1) (okI_small (by omega) (by omega)) (by simp [keysL]) (ruleV 121 false 123)
  replace g1 := hG hb0 g1
  obtain ⟨w2, r2, h2, g2⟩ := h1.store Tryz.underlying3 Tryz.underlying143 (by decide) (i := 2) (okI_small (by omega) (by omega)) (by simp [keysL]) (ruleV 121 false 124)
  replace g2 := hG g1 g2
  obtain ⟨w3, r3, h3, g3⟩ := h2.store Tryz.underlying3 Tryz.underlying143 (by decide) (i := 3) (okI_small (by omega) (by omega)) (by simp [keysL]) (ruleV 122 true 127)
  replace g3 := hG g2 g3
  obtain ⟨w4, r4, h4, g4⟩ := h3.store Tryz.underlying3 Tryz.underlying143 (by decide) (i := 4) (okI_small (by omega) (by omega)) (by simp [keysL]) (ruleV 121 false 128)
  replace g4 := hG g3 g4
  obtain ⟨w5, r5, h5, g5⟩ := h4.store Tryz.underlying3 Tryz.underlying143 (by decide) (i := 5) (okI_small (by omega) (by omega)) (by simp [keysL]) (ruleV 129 false 130)
  replace g5 := hG g4 g5
  simp only [ruleV] at r1 r2 r3 r4 r5
  clear h0 h1 h2 h3 h4 g1 g2 g3 g4 hb0 hG
  go_enter Tryz.func119, Tryz.ntmps119
  go_wp2_with fail
  go_ret
  exact ⟨rfl, h5, g5⟩

theorem size_pos (s : ByteArray) : (s.toList.isEmpty = true ∧ (!s.toList.isEmpty) = false ∧ decide (1 ≤ s.size) = false) ∨ (s.toList.isEmpty = false ∧ (!s.toList.isEmpty) = true ∧ decide (1 ≤ s.size) = true) := by
  rw [ByteArray.toList_eq]
  by_cases h : s.size = 0
  · left
    have e : s.data.toList = [] := List.eq_nil_of_length_eq_zero (by rw [size_list]; exact h)
    rw [e, h]; exact ⟨rfl, rfl, rfl⟩
  · right
    have e : s.data.toList.isEmpty = false := by
      rw [List.isEmpty_eq_false_iff]; intro e; exact h (by rw [← size_list, e]; rfl)
    rw [e]; exact ⟨rfl, rfl, decide_eq_true (by omega)⟩
theorem filled_any (s : ByteArray) (w : World) (hs : s.size ≤ maxLen) : Calls Tryz.prog 121 #[.string s] w fun e w' => e = .returned (.bool (decide (1 ≤ s.size) && textOK s)) ∧ w = w' := by
  rcases size_pos s with ⟨h1, h2, h3⟩ | ⟨h1, h2, h3⟩
  · have H3 := Lib.hid h3
    clear h3
    go_enter Tryz.func121, Tryz.ntmps121
    go_wp2_with (go_at_call 122; refine (isText_any s _ hs).mono ?_; rintro e w' ⟨rfl, rfl⟩)
    go_ret
    exact ⟨ret_bool (by rw [H3.out]; rfl), rfl⟩
  · have H3 := Lib.hid h3
    clear h3
    go_enter Tryz.func121, Tryz.ntmps121
    go_wp2_with (go_at_call 122; refine (isText_any s _ hs).mono ?_; rintro e w' ⟨rfl, rfl⟩)
    go_ret
    exact ⟨ret_bool (by rw [H3.out]; rfl), rfl⟩
def zeroRule : Value := .agg #[.nilFunc, .bool false, .nilFunc]
theorem zero_rule (w : World) : (zeroValue 148).run Tryz.prog w = .ok zeroRule w := Tryz.zeroValue148 w
theorem ret_false {b : Bool} (h : b = false) : Ending.returned (.bool false) = .returned (.bool b) := by rw [h]
theorem ret_true {b : Bool} (h : b = true) : Ending.returned (.bool true) = .returned (.bool b) := by rw [h]

theorem run_store_func (P : Program) (w : World) (a : Addr) (m : Mode) (fn : Fn) (p q : Array Value) : (store a (.func fn p q) m).run P w = stored P w a (.func fn p q) m := run_store P w a _ m rfl
theorem run_store_nilFunc (P : Program) (w : World) (a : Addr) (m : Mode) : (store a .nilFunc m).run P w = stored P w a .nilFunc m := run_store P w a _ m rfl
attribute [local go_sem] run_store_func run_store_nilFunc

set_option maxRecDepth 10000 in
set_option maxHeartbeats 4000000 in
theorem follows_known {mem : Addr → Option Value} (x : Blk) (av : Value) (hi : IntsM mem av x.lab.after) (hk : okI x.kind) (K : Nat) (f : Nat) (q : Bool) (g : Nat) (T : Bool) (hg : getL rulesL x.kind = some (ruleV f q g))
    (hen : ∀ args w, (callFunc f args).run Tryz.prog w = .ok (.enter f args) w) (hT : ∀ W, Calls Tryz.prog f #[.string x.text] W fun e w' => e = .returned (.bool T) ∧ W = w')
    (hV : validBlk x = (decide (1 ≤ x.id ∧ x.id ≤ 1000) && validLab x.lab && T && (if q then decide ((1 ≤ x.story ∧ x.story ≤ 64) ∧ (1 ≤ x.ref ∧ x.ref ≤ 1000)) else decide (x.story = 0 ∧ x.ref = 0))))
    (w : World) (hs : Sees mem w) (hm : RMap w K) : Calls Tryz.prog 120 #[.agg (blkCells x av), .map (some K)] w fun e w' => e = .returned (.bool (validBlk x)) ∧ Below w.heap.size w w' := by
  obtain ⟨id, kind, text, story, ref, lab⟩ := x
  obtain ⟨ao, cap, rfl⟩ := hi.slice
  dsimp only at *
  have HLV := Lib.hid (fun W hW => labValid_any lab _ hi W hW)
  have HV := Lib.hid hV
  have HT := Lib.hid hT
  have HM := Lib.hid hm
  have HS := Lib.hid hs
  have HG := Lib.hid hg
  have HB0 := Lib.hid (fun o o' => (((Below.refl w.heap.size w).alloc (Nat.le_refl _) o).alloc (by simp) o' : Below w.heap.size w ((w.alloc o).alloc o')))
  clear hi hV hT hm hs hg
  go_enter Tryz.func120, Tryz.ntmps120
  by_cases hid : 1 ≤ id ∧ id ≤ 1000
  · obtain ⟨i1, i2⟩ := hid
    go_wp2_with (at_lookup; refine wpList_imap_lookOk _ rfl _ _ 143 rfl 3 148 Tryz.underlying3 Tryz.underlying143 (zero_rule _) K rulesL rfl (HM.out.alloc _) kind rfl hk (.agg #[.func (.func f) #[] #[], .bool q, .func (.func g) #[] #[]]) true (by rw [HG.out]; rfl) (by rw [HG.out]; rfl) ?_)
    obtain ⟨W1, HW1⟩ := named ((w.alloc (.cells (blkCells ⟨id, kind, text, story, ref, lab⟩ (.slice ao lab.after.length cap)) 56)).alloc (.cells #[.func (.func f) #[] #[], .bool q, .func (.func g) #[] #[]] 148))
    rw [← HW1.out]
    have hb1 : Below w.heap.size w W1 := by rw [HW1.out]; exact HB0.out _ _
    have hc : ∀ (j : Nat) (u : Value), (blkCells ⟨id, kind, text, story, ref, lab⟩ (.slice ao lab.after.length cap))[j]? = some u → W1.cell? ⟨w.heap.size, j, none⟩ = some u := fun j u hu => by rw [HW1.out]; exact cell_old (cell_new rfl hu)
    have hc' : ∀ (j : Nat) (u : Value), (#[.func (.func f) #[] #[], .bool q, .func (.func g) #[] #[]] : Array Value)[j]? = some u → W1.cell? ⟨w.heap.size + 1, j, none⟩ = some u := fun j u hu => by rw [HW1.out]; exact cell_new (by simp) hu
    have hz : w.heap.size + 1 < W1.heap.size := by rw [HW1.out]; simp
    have hs1 := HS.out.bel hb1
    have c2 := hc 2 _ rfl
    have c3 := hc 3 _ rfl
    have c4 := hc 4 _ rfl
    have r0 := hc' 0 _ rfl
    have r1 := hc' 1 _ rfl
    have HSS := Lib.hid hs1
    clear hc hc' hs1
    go_wp2_with fail
    refine (HLV.out _ HSS.out).mono ?_
    rintro e w1 ⟨rfl, hb⟩
    replace c2 := (hb.cell (p := ⟨w.heap.size, 2, none⟩) (by simp <;> omega)).trans c2
    replace c3 := (hb.cell (p := ⟨w.heap.size, 3, none⟩) (by simp <;> omega)).trans c3
    replace c4 := (hb.cell (p := ⟨w.heap.size, 4, none⟩) (by simp <;> omega)).trans c4
    replace r0 := (hb.cell (p := ⟨w.heap.size + 1, 0, none⟩) (by simp <;> omega)).trans r0
    replace r1 := (hb.cell (p := ⟨w.heap.size + 1, 1, none⟩) (by simp <;> omega)).trans r1
    have hB : Below w.heap.size w w1 := hb1.trans (hb.mono (by omega))
    generalize validLab lab = V at *
    have HI : Hid (decide (1 ≤ id ∧ id ≤ 1000) = true) := Lib.hid (decide_eq_true ⟨i1, i2⟩)
    clear hb hb1 HSS HLV
    cases V with
    | false =>
      go_wp2_with fail
      go_ret
      exact ⟨ret_false (by rw [HV.out, HI.out]; rfl), hB⟩
    | true =>
      go_wp2_with fail
      refine (HT.out _).mono ?_
      rintro e w2 ⟨rfl, rfl⟩
      cases T with
      | false =>
        go_wp2_with fail
        go_ret
        exact ⟨ret_false (by rw [HV.out, HI.out]; rfl), hB⟩
      | true =>
        cases q with
        | false =>
          have HF : Hid (validBlk ⟨id, kind, text, story, ref, lab⟩ = decide (story = 0 ∧ ref = 0)) := Lib.hid (by rw [HV.out, HI.out]; rfl)
          by_cases h1 : story = 0
          · subst h1
            by_cases h2 : ref = 0
            · subst h2
              go_wp2_with fail
              go_ret
              exact ⟨ret_true (by rw [HF.out]; rfl), hB⟩
            · have n2 : (ref == 0) = false := by simpa using h2
              have HN : Hid (validBlk ⟨id, kind, text, 0, ref, lab⟩ = false) := Lib.hid (by rw [HF.out]; exact decide_eq_false (fun h => h2 h.2))
              clear h2
              go_wp2_with fail
              go_ret
              exact ⟨ret_false HN.out, hB⟩
          · have n1 : (story == 0) = false := by simpa using h1
            have HN : Hid (validBlk ⟨id, kind, text, story, ref, lab⟩ = false) := Lib.hid (by rw [HF.out]; exact decide_eq_false (fun h => h1 h.1))
            clear h1
            go_wp2_with fail
            go_ret
            exact ⟨ret_false HN.out, hB⟩
        | true =>
          have HF : Hid (validBlk ⟨id, kind, text, story, ref, lab⟩ = decide ((1 ≤ story ∧ story ≤ 64) ∧ (1 ≤ ref ∧ ref ≤ 1000))) := Lib.hid (by rw [HV.out, HI.out]; rfl)
          have HN : Hid (¬ ((1 ≤ story ∧ story ≤ 64) ∧ (1 ≤ ref ∧ ref ≤ 1000)) → validBlk ⟨id, kind, text, story, ref, lab⟩ = false) := Lib.hid (fun h => by rw [HF.out]; exact decide_eq_false h)
          by_cases h1 : 1 ≤ story
          · by_cases h2 : story ≤ 64
            · by_cases h3 : 1 ≤ ref
              · by_cases h4 : ref ≤ 1000
                · have HY : Hid (validBlk ⟨id, kind, text, story, ref, lab⟩ = true) := Lib.hid (by rw [HF.out]; exact decide_eq_true ⟨⟨h1, h2⟩, h3, h4⟩)
                  go_wp2_with fail
                  go_ret
                  exact ⟨ret_true HY.out, hB⟩
                · have HX := Lib.hid (HN.out (fun h => h4 h.2.2))
                  have n4 : decide (ref ≤ 1000) = false := decide_eq_false h4
                  clear HN h4
                  go_wp2_with fail
                  go_ret
                  exact ⟨ret_false HX.out, hB⟩
              · have HX := Lib.hid (HN.out (fun h => h3 h.2.1))
                have n3 : decide (1 ≤ ref) = false := decide_eq_false h3
                clear HN h3
                go_wp2_with fail
                go_ret
                exact ⟨ret_false HX.out, hB⟩
            · have HX := Lib.hid (HN.out (fun h => h2 h.1.2))
              have n2 : decide (story ≤ 64) = false := decide_eq_false h2
              clear HN h2
              go_wp2_with fail
              go_ret
              exact ⟨ret_false HX.out, hB⟩
          · have HX := Lib.hid (HN.out (fun h => h1 h.1.1))
            have n1 : decide (1 ≤ story) = false := decide_eq_false h1
            clear HN h1
            go_wp2_with fail
            go_ret
            exact ⟨ret_false HX.out, hB⟩
  · have HN : Hid (validBlk ⟨id, kind, text, story, ref, lab⟩ = false) := Lib.hid (by rw [HV.out, decide_eq_false hid]; rfl)
    have HI := Lib.hid hid
    clear hid
    go_wp2_with (at_lookup; refine wpList_imap_lookOk _ rfl _ _ 143 rfl 3 148 Tryz.underlying3 Tryz.underlying143 (zero_rule _) K rulesL rfl (HM.out.alloc _) kind rfl hk (.agg #[.func (.func f) #[] #[], .bool q, .func (.func g) #[] #[]]) true (by rw [HG.out]; rfl) (by rw [HG.out]; rfl) ?_)
    all_goals first
      | (go_ret
         exact ⟨ret_false HN.out, HB0.out _ _⟩)
      | (exfalso; exact HI.out ⟨by omega, by omega⟩)
theorem follows_unknown (x : Blk) (av : Value) (hk : okI x.kind) (K : Nat) (hg : getL rulesL x.kind = none) (hV : validBlk x = false) (hav : ∃ ao n cap, av = .slice ao n cap) (w : World) (hm : RMap w K) :
    Calls Tryz.prog 120 #[.agg (blkCells x av), .map (some K)] w fun e w' => e = .returned (.bool (validBlk x)) ∧ Below w.heap.size w w' := by
  obtain ⟨id, kind, text, story, ref, lab⟩ := x
  obtain ⟨ao, n, cap, rfl⟩ := hav
  dsimp only at *
  have HV := Lib.hid hV
  have HM := Lib.hid hm
  have HG := Lib.hid hg
  have HB0 := Lib.hid (fun o o' => (((Below.refl w.heap.size w).alloc (Nat.le_refl _) o).alloc (by simp) o' : Below w.heap.size w ((w.alloc o).alloc o')))
  clear hV hm hg
  go_enter Tryz.func120, Tryz.ntmps120
  go_wp2_with (at_lookup; refine wpList_imap_lookOk _ rfl _ _ 143 rfl 3 148 Tryz.underlying3 Tryz.underlying143 (zero_rule _) K rulesL rfl (HM.out.alloc _) kind rfl hk (.agg #[.nilFunc, .bool false, .nilFunc]) false (by rw [HG.out]; rfl) (by rw [HG.out]; rfl) ?_)
  go_ret
  exact ⟨ret_false HV.out, HB0.out _ _⟩
theorem getL_cons (k : Int) (v : Value) (l : List (Int × Value)) (i : Int) : getL ((k, v) :: l) i = if k = i then some v else getL l i := by
  unfold getL
  rw [List.find?_cons]
  by_cases h : k = i
  · simp [h]
  · simp [h]
theorem follows_any {mem : Addr → Option Value} (x : Blk) (av : Value) (hi : IntsM mem av x.lab.after) (ht : x.text.size ≤ maxLen) (hk : okI x.kind) (K : Nat) (w : World) (hs : Sees mem w) (hm : RMap w K) :
    Calls Tryz.prog 120 #[.agg (blkCells x av), .map (some K)] w fun e w' => e = .returned (.bool (validBlk x)) ∧ Below w.heap.size w w' := by
  by_cases h3 : x.kind = 3
  · refine follows_known x av hi hk K 122 true 127 (textOK x.text) (by rw [h3]; rfl) (enters_of Tryz.func122 (by kernel_rfl) rfl) (fun W => isText_any _ W ht) ?_ w hs hm
    unfold validBlk kindOK
    rw [if_neg (by omega), if_neg (by omega), if_pos h3, if_pos rfl, Bool.decide_and, Bool.decide_and, Bool.decide_and, Bool.decide_and]
    simp only [Bool.and_assoc]
  by_cases h5 : x.kind = 5
  · refine follows_known x av hi hk K 129 false 130 (nameOK x.text) (by rw [h5]; rfl) (enters_of Tryz.func129 (by kernel_rfl) rfl) (fun W => isName_any _ W ht) ?_ w hs hm
    unfold validBlk kindOK
    rw [if_neg (by omega), if_pos h5, if_neg (by decide), Bool.decide_and, Bool.decide_and]
    simp only [Bool.and_assoc]
  have hT : validBlk x = (decide (1 ≤ x.id ∧ x.id ≤ 1000) && validLab x.lab && (if x.kind = 1 ∨ x.kind = 2 ∨ x.kind = 4 then (decide (1 ≤ x.text.size) && textOK x.text) && decide (x.story = 0 ∧ x.ref = 0) else false)) := by
    unfold validBlk kindOK
    rw [if_neg h5, if_neg h3, Bool.decide_and, Bool.decide_and]
    simp only [Bool.and_assoc]
  by_cases h1 : x.kind = 1
  · rw [if_pos (.inl h1), ← Bool.and_assoc] at hT
    exact follows_known x av hi hk K 121 false 123 _ (by rw [h1]; rfl) (enters_of Tryz.func121 (by kernel_rfl) rfl) (fun W => filled_any _ W ht) (by rw [if_neg (by decide : ¬ (false = true))]; exact hT) w hs hm
  by_cases h2 : x.kind = 2
  · rw [if_pos (.inr (.inl h2)), ← Bool.and_assoc] at hT
    exact follows_known x av hi hk K 121 false 124 _ (by rw [h2]; rfl) (enters_of Tryz.func121 (by kernel_rfl) rfl) (fun W => filled_any _ W ht) (by rw [if_neg (by decide : ¬ (false = true))]; exact hT) w hs hm
  by_cases h4 : x.kind = 4
  · rw [if_pos (.inr (.inr h4)), ← Bool.and_assoc] at hT
    exact follows_known x av hi hk K 121 false 128 _ (by rw [h4]; rfl) (enters_of Tryz.func121 (by kernel_rfl) rfl) (fun W => filled_any _ W ht) (by rw [if_neg (by decide : ¬ (false = true))]; exact hT) w hs hm
  rw [if_neg (by omega), Bool.and_false] at hT
  refine follows_unknown x av hk K ?_ hT ?_ w hm
  · unfold rulesL
    rw [getL_cons, if_neg (by omega), getL_cons, if_neg (by omega), getL_cons, if_neg (by omega), getL_cons, if_neg (by omega), getL_cons, if_neg (by omega)]; rfl
  · obtain ⟨ao, cap, h⟩ := hi.slice; exact ⟨ao, _, cap, h⟩
end Go.Proofs.YtgbihmafmmeicaaGreatDoor
namespace Go.Proofs.YtgbihmafmmeicaaGreatDoor
open Go.RowKit Mg Go.Shelf

def PreOK (l : List Blk) (k : Nat) : Prop := (∀ b ∈ l.take k, validBlk b = true) ∧ (ids (l.take k)).Nodup
theorem PreOK.zero (l : List Blk) : PreOK l 0 := ⟨by simp, by simp⟩
theorem PreOK.succ {l : List Blk} {k : Nat} (hk : k < l.length) (h : PreOK l k) (hv : validBlk l[k] = true) (hn : ∀ j (hj : j < k), l[j].id ≠ l[k].id) : PreOK l (k + 1) := by
  refine (valid_take k hk).2 ⟨h, hv, fun hm => ?_⟩
  obtain ⟨b, hb, e⟩ := List.mem_map.1 hm
  obtain ⟨j, hj, rfl⟩ := List.getElem_of_mem hb
  rw [List.length_take] at hj
  rw [List.getElem_take] at e
  exact hn j (by omega) e
theorem validL_bad {l : List Blk} {k : Nat} (hk : k < l.length) (hv : validBlk l[k] = false) : ¬ ValidL l := fun h => by
  have := h.2.1 l[k] (List.getElem_mem hk); rw [hv] at this; cases this
theorem validL_twice {l : List Blk} {j k : Nat} (hj : j < k) (hk : k < l.length) (e : l[j].id = l[k].id) : ¬ ValidL l := fun h => by
  have := (List.pairwise_iff_getElem.1 h.2.2) j k (by simp; omega) (by simpa using hk) hj
  simp at this
  exact this e
theorem validL_all {l : List Blk} (h : l.length ≤ 24) (hp : PreOK l l.length) : ValidL l := by
  unfold PreOK at hp
  rw [List.take_length] at hp
  exact ⟨h, hp⟩
set_option maxRecDepth 10000 in
set_option maxHeartbeats 4000000 in
theorem validList_any {mem : Addr → Option Value} {v : Value} {l : List Blk} (h : BlksM mem v l) (w : World) (hs : Sees mem w) :
    Calls Tryz.prog 113 #[v] w fun e w' => e = .returned (.bool (decide (ValidL l))) ∧ Below w.heap.size w w' := by
  obtain ⟨ao, cap, b, o, rfl, hcap, hm, hao, hblks⟩ := h.open_
  have HAO := Lib.hid hao
  have HB := Lib.hid hblks
  have HS := Lib.hid hs
  have hlen : (l.length : Int) ≤ 9223372036854775807 := by unfold maxLen at hm; omega
  clear h hao hblks hs
  by_cases h24 : l.length ≤ 24
  · have HOK : Hid (PreOK l l.length → decide (ValidL l) = true) := Lib.hid (fun h => decide_eq_true (validL_all h24 h))
    go_enter Tryz.func113, Tryz.ntmps113
    go_wp2_with fail
    refine (rules_any w).mono ?_
    rintro e w1 ⟨rfl, hM, hb1⟩
    have hlt1 := hM.lt
    have HM := Lib.hid hM
    have HS1 := Lib.hid (HS.out.bel hb1)
    clear hM
    go_wp2_with fail
    go_loopw [14] (fun i wr => ∃ k : Nat, k ≤ l.length ∧ i = .int .i64 k ∧ Below w1.heap.size w1 wr ∧ Hid (PreOK l k)) (fun i _ => l.length - (intOf i).toNat)
    case atStart => exact ⟨0, Nat.zero_le _, rfl, Below.refl _ _, Lib.hid (PreOK.zero l)⟩
    case round =>
      obtain ⟨k, hk, rfl, hb, hp⟩ := hrel
      obtain ⟨wo, rfl⟩ : ∃ wo, wo = wr := ⟨_, rfl⟩
      have hB : Below w.heap.size w wo := hb1.trans (hb.mono hb1.size)
      by_cases hlt : k < l.length
      · obtain ⟨⟨t1, t2, _⟩, lo, lc, hi, hc9⟩ := (HB.out k hlt).nine (HS1.out.bel hb)
        obtain rfl := HAO.out (by omega)
        have hbl : b < w1.heap.size := World.block_lt_of_cell? w1 _ (((HB.out k hlt).nine HS1.out).2.choose_spec.choose_spec.2.c0)
        have HC9 := Lib.hid hc9
        obtain ⟨c0, c1, c2, c3, c4, c5, c6, c7, c8⟩ := hc9
        have HF : Hid (∀ W, Sees mem W → RMap W w.heap.size → Calls Tryz.prog 120 #[.agg (blkCells l[k] (.slice lo l[k].lab.after.length lc)), .map (some w.heap.size)] W fun e w' => e = .returned (.bool (validBlk l[k])) ∧ Below W.heap.size W w') :=
          Lib.hid (fun W hS hM => follows_any l[k] _ hi t1 t2 _ W hS hM)
        have HNB : Hid (validBlk l[k] = false → decide (ValidL l) = false) := Lib.hid (fun h => decide_eq_false (validL_bad hlt h))
        have HNT : Hid (∀ j (hj : j < k), l[j].id = l[k].id → decide (ValidL l) = false) := Lib.hid (fun j hj e => decide_eq_false (validL_twice hj hlt e))
        have HST : Hid (validBlk l[k] = true → (∀ j (hj : j < k), l[j].id ≠ l[k].id) → PreOK l (k + 1)) := Lib.hid (fun h1 h2 => PreOK.succ hlt hp.out h1 h2)
        have hkc : (k : Int) ≤ cap := by omega
        have HX : Hid (l[k].id = l[k].id) := Lib.hid rfl
        clear hi t1 t2 hp
        generalize hx : l[k] = x at *
        obtain ⟨id, kind, text, story, ref, till, after, appr, denied⟩ := x
        have HXX := Lib.hid hx
        clear hx
        dsimp only at *
        go_wp2_with fail
        obtain ⟨W2, HW2⟩ := named (wo.alloc (.cells (blkCells ⟨id, kind, text, story, ref, ⟨till, after, appr, denied⟩⟩ (.slice lo after.length lc)) 56))
        rw [← HW2.out]
        have hb2 : Below wo.heap.size wo W2 := by rw [HW2.out]; exact (Below.refl _ wo).alloc (Nat.le_refl _) _
        have hz2 : wo.heap.size < W2.heap.size := by rw [HW2.out]; simp
        have hq : W2.cell? ⟨wo.heap.size, 0, none⟩ = some (.int .i64 id) := by rw [HW2.out]; exact cell_new rfl rfl
        have hb12 : Below w1.heap.size w1 W2 := hb.trans (hb2.mono hb.size)
        refine (HF.out W2 (HS1.out.bel hb12) (HM.out.below hb12 hlt1)).mono ?_
        rintro e w3 ⟨rfl, hb3⟩
        replace hq := (hb3.cell (p := ⟨wo.heap.size, 0, none⟩) hz2).trans hq
        have hb13 : Below w1.heap.size w1 w3 := hb12.trans (hb3.mono hb12.size)
        have hB3 : Below w.heap.size w w3 := hb1.trans (hb13.mono hb1.size)
        have hz3 : wo.heap.size < w3.heap.size := Nat.lt_of_lt_of_le hz2 hb3.size
        generalize hV : validBlk ⟨id, kind, text, story, ref, ⟨till, after, appr, denied⟩⟩ = V at *
        clear hV
        cases V with
        | false =>
          have HNB2 := Lib.hid (HNB.out rfl)
          clear HNB HST HNT
          go_wp2_with fail
          go_ret
          exact ⟨ret_false HNB2.out, hB3⟩
        | true =>
          have HST2 := Lib.hid (HST.out rfl)
          clear HNB HST
          go_wp2_with fail
          clear HF hb2 hb3 hb12 hz2 c0 c1 c2 c3 c4 c5 c6 c7 c8
          go_loopw [27] (fun i wi => ∃ j : Nat, j ≤ k ∧ i = .int .i64 j ∧ Below w3.heap.size w3 wi ∧ Hid (∀ m (hm : m < j) (hm2 : m < l.length), l[m].id ≠ id)) (fun i _ => k - (intOf i).toNat)
          case atStart => exact ⟨0, Nat.zero_le _, rfl, Below.refl _ _, Lib.hid (fun m hm => absurd hm (by omega))⟩
          case round =>
            obtain ⟨j, hj, rfl, hbi, hne⟩ := hrel
            have hBi : Below w.heap.size w wr := hB3.trans (hbi.mono hB3.size)
            by_cases hjk : j < k
            · have hjl : j < l.length := by omega
              obtain ⟨_, lo2, lc2, _, d9⟩ := (HB.out j hjl).nine (HS1.out.bel (hb13.trans (hbi.mono hb13.size)))
              obtain ⟨d0, d1, d2, d3, d4, d5, d6, d7, d8⟩ := d9
              have hq2 := (hbi.cell (p := ⟨wo.heap.size, 0, none⟩) hz3).trans hq
              have hz4 : wo.heap.size < wr.heap.size := Nat.lt_of_lt_of_le hz3 hbi.size
              have HEQ : Hid (l[j].id = id → decide (ValidL l) = false) := Lib.hid (fun e => HNT.out j hjk e)
              have HNE : Hid (l[j].id ≠ id → ∀ m (hm : m < j + 1) (hm2 : m < l.length), l[m].id ≠ id) := Lib.hid (fun e m hm hm2 => by
                by_cases h : m = j
                · subst h; exact e
                · exact hne.out m (by omega) hm2)
              clear hne
              generalize l[j] = y at *
              obtain ⟨id2, kind2, text2, story2, ref2, till2, after2, appr2, denied2⟩ := y
              dsimp only at *
              by_cases he : id2 = id
              · have e1 : (id2 == id) = true := by simpa using he
                have HF := Lib.hid (HEQ.out he)
                clear he HEQ HNE
                go_wp2_with fail
                go_ret
                exact ⟨ret_false HF.out, hBi.alloc hBi.size _⟩
              · have e1 : (id2 == id) = false := by simpa using he
                have HF := Lib.hid (HNE.out he)
                clear he HEQ HNE
                go_wp2_with fail
                go_roundw
                case rel => exact ⟨j + 1, by omega, by go_num, hbi.alloc hbi.size _, HF⟩
                case measure => simp [intOf]; omega
            · have e : j = k := by omega
              subst e
              have HP : Hid (PreOK l (j + 1)) := Lib.hid (HST2.out (fun m hm => hne.out m hm (by omega)))
              go_wp2_with fail
              go_roundw
              case rel => exact ⟨j + 1, by omega, by go_num, hb13.trans (hbi.mono hb13.size), HP⟩
              case measure => simp [intOf]; omega
      · have e : k = l.length := by omega
        subst e
        have HF := Lib.hid (HOK.out hp.out)
        go_wp2_with fail
        go_ret
        exact ⟨ret_true HF.out, hB⟩
  · have HF : Hid (decide (ValidL l) = false) := Lib.hid (decide_eq_false (fun h => h24 h.1))
    go_enter Tryz.func113, Tryz.ntmps113
    go_wp2_with fail
    go_ret
    exact ⟨ret_false HF.out, Below.refl _ _⟩
end Go.Proofs.YtgbihmafmmeicaaGreatDoor
namespace Go.Proofs.YtgbihmafmmeicaaGreatDoor
open Go.RowKit Mg Go.Shelf

set_option maxRecDepth 100000 in
set_option maxHeartbeats 2000000 in
theorem isCorrection_any (f : Fct) (hok : FOK f) {ta tl tc ba bl bc aa al ac} (w : World) :
    Calls Tryz.prog 102 #[.agg (fctCells f (.slice ta tl tc) (.slice ba bl bc) (.slice aa al ac))] w fun e w' => e = .returned (.bool (correctOK f)) ∧ Below w.heap.size w w' := by
  have c1 := fun W => fisName_any f.lang W hok.s4
  have c2 := fun W => fwithin_any f.block 1 1000 W
  have c3 := fun W => fwithin_any f.sentence 0 299 W
  have c4 := fun W => fisText_any f.text W hok.s18
  have HR : Hid (correctOK f = (nameOK f.lang && inR f.block 1 1000 && inR f.sentence 0 299 && fullOK f.text)) := Lib.hid rfl
  generalize nameOK f.lang = q1 at *
  generalize inR f.block 1 1000 = q2 at *
  generalize inR f.sentence 0 299 = q3 at *
  generalize fullOK f.text = q4 at *
  clear hok
  go_enter Tryz.func102, Tryz.ntmps102
  go_wp2_with fail
  refine (c1 _).mono ?_
  rintro e w' ⟨rfl, rfl⟩
  cases q1 with
  | false =>
    go_wp2_with fail
    go_ret
    exact ⟨ret_bool' (by rw [HR.out]; simp), ((Below.refl w.heap.size w).alloc (Nat.le_refl _) _)⟩
  | true =>
    go_wp2_with fail
    refine (c2 _).mono ?_
    rintro e w' ⟨rfl, rfl⟩
    cases q2 with
    | false =>
      go_wp2_with fail
      go_ret
      exact ⟨ret_bool' (by rw [HR.out]; simp), ((Below.refl w.heap.size w).alloc (Nat.le_refl _) _)⟩
    | true =>
      go_wp2_with fail
      refine (c3 _).mono ?_
      rintro e w' ⟨rfl, rfl⟩
      cases q3 with
      | false =>
        go_wp2_with fail
        go_ret
        exact ⟨ret_bool' (by rw [HR.out]; simp), ((Below.refl w.heap.size w).alloc (Nat.le_refl _) _)⟩
      | true =>
        go_wp2_with fail
        refine (c4 _).mono ?_
        rintro e w' ⟨rfl, rfl⟩
        cases q4 with
        | false =>
          go_wp2_with fail
          go_ret
          exact ⟨ret_bool' (by rw [HR.out]; simp), ((Below.refl w.heap.size w).alloc (Nat.le_refl _) _)⟩
        | true =>
          go_wp2_with fail
          go_ret
          exact ⟨ret_bool' (by rw [HR.out]; simp), ((Below.refl w.heap.size w).alloc (Nat.le_refl _) _)⟩
set_option maxRecDepth 100000 in
set_option maxHeartbeats 4000000 in
theorem isRevision_any {mem : Addr → Option Value} (f : Fct) (hok : FOK f) {ta tc ba bc aa ac} (hp : Parts mem f (.slice ta f.topics.length tc) (.slice ba f.blocks.length bc) (.slice aa f.lab.after.length ac)) (w : World) (hs : Sees mem w) :
    Calls Tryz.prog 101 #[.agg (fctCells f (.slice ta f.topics.length tc) (.slice ba f.blocks.length bc) (.slice aa f.lab.after.length ac))] w fun e w' => e = .returned (.bool (reviseOK f)) ∧ Below w.heap.size w w' := by
  have c1 := fun W => fisName_any f.lang W hok.s4
  have c2 := fun W => fwithin_any f.rev 1 100 W
  have c3 := fun W => fwithin_any f.base 0 (f.rev - 1) W
  have c4 := fun W => fisText_any f.title W hok.s7
  have c5 := fun W => fisName_any f.author W hok.s8
  have c6 := fun W hW => areTopics_any hp.1 W hW
  have c7 := fun W hW => validList_any hp.2.1 W hW
  have c8 := fun W hW => labValid_any f.lab _ hp.2.2 W hW
  have HR : Hid (reviseOK f = (nameOK f.lang && inR f.rev 1 100 && inR f.base 0 (f.rev - 1) && fullOK f.title && nameOK f.author && topicsOK f.topics && decide (ValidL f.blocks) && validLab f.lab)) := Lib.hid rfl
  have HQ : Hid (inR f.rev 1 100 = true → 1 ≤ f.rev ∧ f.rev ≤ 100) := Lib.hid inR_iff.1
  generalize nameOK f.lang = q1 at *
  generalize inR f.rev 1 100 = q2 at *
  generalize inR f.base 0 (f.rev - 1) = q3 at *
  generalize fullOK f.title = q4 at *
  generalize nameOK f.author = q5 at *
  generalize topicsOK f.topics = q6 at *
  generalize decide (ValidL f.blocks) = q7 at *
  generalize validLab f.lab = q8 at *
  have HS := Lib.hid hs
  clear hok hp hs
  go_enter Tryz.func101, Tryz.ntmps101
  go_wp2_with fail
  refine (c1 _).mono ?_
  rintro e w' ⟨rfl, rfl⟩
  cases q1 with
  | false =>
    go_wp2_with fail
    go_ret
    exact ⟨ret_bool' (by rw [HR.out]; simp), ((Below.refl w.heap.size w).alloc (Nat.le_refl _) _)⟩
  | true =>
    go_wp2_with fail
    refine (c2 _).mono ?_
    rintro e w' ⟨rfl, rfl⟩
    cases q2 with
    | false =>
      go_wp2_with fail
      go_ret
      exact ⟨ret_bool' (by rw [HR.out]; simp), ((Below.refl w.heap.size w).alloc (Nat.le_refl _) _)⟩
    | true =>
      obtain ⟨rv1, rv2⟩ := HQ.out rfl
      go_wp2_with fail
      refine (c3 _).mono ?_
      rintro e w' ⟨rfl, rfl⟩
      cases q3 with
      | false =>
        go_wp2_with fail
        go_ret
        exact ⟨ret_bool' (by rw [HR.out]; simp), ((Below.refl w.heap.size w).alloc (Nat.le_refl _) _)⟩
      | true =>
        go_wp2_with fail
        refine (c4 _).mono ?_
        rintro e w' ⟨rfl, rfl⟩
        cases q4 with
        | false =>
          go_wp2_with fail
          go_ret
          exact ⟨ret_bool' (by rw [HR.out]; simp), ((Below.refl w.heap.size w).alloc (Nat.le_refl _) _)⟩
        | true =>
          go_wp2_with fail
          refine (c5 _).mono ?_
          rintro e w' ⟨rfl, rfl⟩
          cases q5 with
          | false =>
            go_wp2_with fail
            go_ret
            exact ⟨ret_bool' (by rw [HR.out]; simp), ((Below.refl w.heap.size w).alloc (Nat.le_refl _) _)⟩
          | true =>
            go_wp2_with fail
            refine (c6 _ (HS.out.alloc _)).mono ?_
            rintro e w' ⟨rfl, rfl⟩
            cases q6 with
            | false =>
              go_wp2_with fail
              go_ret
              exact ⟨ret_bool' (by rw [HR.out]; simp), ((Below.refl w.heap.size w).alloc (Nat.le_refl _) _)⟩
            | true =>
              go_wp2_with fail
              refine (c7 _ (HS.out.alloc _)).mono ?_
              rintro e wn6 ⟨rfl, hbn⟩
              have hB6 := ((Below.refl w.heap.size w).alloc (Nat.le_refl _) _).trans (hbn.mono (by simp))
              have hz6 := hB6.size
              have hh := (hbn.block w.heap.size (by simp)).trans (World.alloc_heap_new w _)
              have d11 := blk_cell hh 11
              have d12 := blk_cell hh 12
              have d13 := blk_cell hh 13
              have d14 := blk_cell hh 14
              simp only [List.getElem?_toArray, List.getElem?_cons_zero, List.getElem?_cons_succ] at d11 d12 d13 d14
              clear hbn hh
              cases q7 with
              | false =>
                go_wp2_with fail
                go_ret
                exact ⟨ret_bool' (by rw [HR.out]; simp), hB6⟩
              | true =>
                go_wp2_with fail
                refine (c8 _ (HS.out.bel hB6)).mono ?_
                rintro e wn7 ⟨rfl, hbn⟩
                have hB7 := hB6.trans (hbn.mono hz6)
                cases q8 with
                | false =>
                  go_wp2_with fail
                  go_ret
                  exact ⟨ret_bool' (by rw [HR.out]; simp), hB7⟩
                | true =>
                  go_wp2_with fail
                  go_ret
                  exact ⟨ret_bool' (by rw [HR.out]; simp), hB7⟩
end Go.Proofs.YtgbihmafmmeicaaGreatDoor
namespace Go.Proofs.YtgbihmafmmeicaaGreatDoor
open Go.RowKit Mg Go.Shelf

theorem after_len : ∀ (l : List Int) (last : Int), 0 ≤ last → last ≤ 64 → afterOK last l = true → (l.length : Int) ≤ 64 - last
  | [], _, _, h, _ => by simp; omega
  | s :: r, last, h0, h1, h => by
    unfold afterOK at h
    simp only [Bool.and_eq_true, decide_eq_true_eq] at h
    have := after_len r s (by omega) h.1.2 h.2
    simp; omega
abbrev blkVals (x : Blk) (av : Value) : List Value := [.int .i64 x.id, .int .i64 x.kind, .string x.text, .int .i64 x.story, .int .i64 x.ref, .int .i64 x.lab.till, av, .int .i64 x.lab.appr, .int .i64 x.lab.denied]
def BVals (mem : Addr → Option Value) : List Blk → List Value → Prop
  | [], vs => vs = []
  | x :: l, vs => ∃ ao cap rest, IntsM mem (.slice ao x.lab.after.length cap) x.lab.after ∧ vs = blkVals x (.slice ao x.lab.after.length cap) ++ rest ∧ BVals mem l rest
section
variable {mem mem' : Addr → Option Value} {w w' : World}
theorem BVals.mono : ∀ {l : List Blk} {vs : List Value}, BVals mem l vs → (∀ a u, mem a = some u → mem' a = some u) → BVals mem' l vs
  | [], _, h, _ => h
  | _ :: _, _, ⟨ao, cap, rest, h1, h2, h3⟩, hm => ⟨ao, cap, rest, h1.mono hm, h2, h3.mono hm⟩
theorem BVals.snoc {x : Blk} {ao : Option Addr} {cap : Nat} (hx : IntsM mem (.slice ao x.lab.after.length cap) x.lab.after) : ∀ {l : List Blk} {vs : List Value}, BVals mem l vs → BVals mem (l ++ [x]) (vs ++ blkVals x (.slice ao x.lab.after.length cap))
  | [], _, h => by
    have h : _ = [] := h
    subst h
    exact ⟨ao, cap, [], hx, rfl, rfl⟩
  | y :: l, _, ⟨ao2, cap2, rest, h1, h2, h3⟩ => by
    subst h2
    exact ⟨ao2, cap2, _, h1, by rw [List.append_assoc], BVals.snoc hx h3⟩
theorem BVals.get : ∀ {l : List Blk} {vs : List Value}, BVals mem l vs → ∀ j (h : j < l.length), ∃ ao cap, IntsM mem (.slice ao l[j].lab.after.length cap) l[j].lab.after ∧ ∀ t, t < 9 → vs[j * 9 + t]? = (blkVals l[j] (.slice ao l[j].lab.after.length cap))[t]?
  | [], _, _, j, h => absurd h (by simp)
  | x :: l, _, ⟨ao, cap, rest, h1, h2, h3⟩, j, h => by
    subst h2
    cases j with
    | zero =>
      refine ⟨ao, cap, h1, fun t ht => ?_⟩
      rw [List.getElem?_append_left (by simp; omega)]
      simp
    | succ j =>
      obtain ⟨ao2, cap2, g1, g2⟩ := h3.get j (by simpa using h)
      refine ⟨ao2, cap2, g1, fun t ht => ?_⟩
      rw [List.getElem?_append_right (by simp; omega)]
      have e : (j + 1) * 9 + t - (blkVals x (.slice ao x.lab.after.length cap)).length = j * 9 + t := by simp; omega
      rw [e]
      exact g2 t ht
end
open Classical in
noncomputable def memFr (W : World) (F : Nat → Prop) (a : Addr) : Option Value := if F a.block ∨ W.frozen? a = true then none else W.cell? a
theorem memFr_sees (W : World) (F : Nat → Prop) : Sees (memFr W F) W := fun a u h => by
  unfold memFr at h
  split at h
  · cases h
  · exact h
theorem memFr_lt {W : World} {F : Nat → Prop} (a : Addr) (u : Value) (h : memFr W F a = some u) : a.block < W.heap.size ∧ ¬ F a.block ∧ W.frozen? a = false := by
  unfold memFr at h
  split at h
  · cases h
  · next hne => exact ⟨World.block_lt_of_cell? W a h, fun g => hne (.inl g), by simpa using fun g => hne (.inr g)⟩
theorem memFr_of {W : World} {F : Nat → Prop} {a : Addr} {u : Value} (h : W.cell? a = some u) (hf : W.frozen? a = false) (hne : ¬ F a.block) : memFr W F a = some u := by
  unfold memFr; rw [if_neg (by rw [hf]; simpa using hne)]; exact h
theorem memFr_mono {W W' : World} {F G H : Nat → Prop} (hu : Upd H W W') (h : ∀ k, k < W.heap.size → ¬ F k → ¬ G k ∧ ¬ H k) : ∀ a u, memFr W F a = some u → memFr W' G a = some u := fun a u e => by
  obtain ⟨h1, h2, h5⟩ := memFr_lt a u e
  obtain ⟨h3, h4⟩ := h _ h1 h2
  exact memFr_of (hu.cell_some (memFr_sees W F a u e) h4) ((hu.frozen h1 h4).trans h5) h3
theorem IRow.intsFr {w : World} {B : Nat} {v : Value} {l : List Int} (h : IRow w B v l) {F : Nat → Prop} (hF : ∀ k, v.ownBlock = some k → ¬ F k) : IntsM (memFr w F) v l := by
  obtain ⟨b, o, h1, h2⟩ := h.ints
  refine ⟨b, o, h1, fun j hj => ?_⟩
  obtain ⟨g, cap, e, _, _, _, hc⟩ := h.cells j hj
  rcases h.2 with ⟨e3, hz⟩ | ⟨g', cap', cur, e2, _, hh, _⟩
  · omega
  obtain ⟨_, ao, cap2, e4, _, _, e5⟩ := h1
  have e6 := e5 (by omega)
  subst e6
  rw [e2] at e4
  injection e4 with e4
  injection e4 with e4
  injection e4 with e4 e7
  subst e4
  exact memFr_of (h2 j hj) (blk_free hh _) (hF _ (by rw [e2]; rfl))
def BRow (w : World) (B : Nat) (v : Value) (l : List Blk) : Prop := ∃ vs, w.ownsRow B 56 9 v l.length vs ∧ BVals (memFr w (fun k => k < B ∨ v.ownBlock = some k)) l vs
theorem BRow.nil (w : World) (B : Nat) : BRow w B (.slice none 0 0) [] := ⟨[], World.ownsRow_nil _ _ _ _, rfl⟩
theorem BRow.sl {w : World} {B : Nat} {v : Value} {l : List Blk} (h : BRow w B v l) : ∃ ao n cap, v = .slice ao n cap := by
  obtain ⟨_, h, _⟩ := h
  rcases h.2 with ⟨rfl, _⟩ | ⟨g, cap, cur, rfl, _⟩
  · exact ⟨_, _, _, rfl⟩
  · exact ⟨_, _, _, rfl⟩
theorem BRow.ge {w : World} {B : Nat} {v : Value} {l : List Blk} (h : BRow w B v l) : ∀ k, v.ownBlock = some k → B ≤ k ∧ k < w.heap.size := by
  obtain ⟨_, h, _⟩ := h
  exact World.ownsRow.lt h
theorem BRow.kept {w w' : World} {B : Nat} {v : Value} {l : List Blk} {F : Nat → Prop} (h : BRow w B v l) (hu : Upd F w w') (hn : ∀ k, F k → k < B ∨ w.heap.size ≤ k) : BRow w' B v l := by
  obtain ⟨vs, h1, h2⟩ := h
  refine ⟨vs, ⟨h1.1, ?_⟩, h2.mono (memFr_mono hu (fun k hk hf => ⟨hf, fun g => by have := hn k g; exact hf (.inl (by omega))⟩))⟩
  have hlt := World.ownsRow.lt h1
  rcases h1.2 with hq | ⟨g, cap, cur, rfl, hb, hgg, rest⟩
  · exact .inl hq
  · refine .inr ⟨g, cap, cur, rfl, hb, (hu.block g (Array.getElem?_eq_some_iff.1 hgg).1 (fun g' => ?_)).trans hgg, rest⟩
    have h3 := hn g g'
    have h4 := (hlt g rfl).2
    omega
theorem BRow.blks {w : World} {B : Nat} {v : Value} {l : List Blk} (h : BRow w B v l) (hp : ∀ x ∈ l, x.text.size ≤ maxLen ∧ okI x.kind ∧ okI x.id) : BlksM (memFr w (fun k => k < B)) v l := by
  obtain ⟨vs, h1, h2⟩ := h
  have hg := h2.get
  rcases h1.2 with ⟨rfl, hz⟩ | ⟨g, cap, cur, rfl, hb, hgg, hn, hc, hs, ht⟩
  · have : l = [] := List.eq_nil_of_length_eq_zero hz
    subst this
    exact BlksM.nil _
  · refine ⟨g, 0, ⟨Nat.le_trans hn hc, some ⟨g, 0, none⟩, cap, rfl, hn, hc, fun _ => rfl⟩, fun j hj => ?_⟩
    obtain ⟨ao, cp, hi, hv⟩ := hg j hj
    have hcell : ∀ t, t < 9 → memFr w (fun k => k < B) ⟨g, 0 + j * 9 + t, none⟩ = (blkVals l[j] (.slice ao l[j].lab.after.length cp))[t]? := fun t ht9 => by
      rw [show memFr w (fun k => k < B) ⟨g, 0 + j * 9 + t, none⟩ = w.cell? ⟨g, 0 + j * 9 + t, none⟩ by unfold memFr; rw [if_neg (by rw [blk_free hgg]; show ¬ (g < B ∨ false = true); simp; omega)], blk_cell hgg]
      have h5 : (cur.toList.take (l.length * 9))[j * 9 + t]? = vs[j * 9 + t]? := by rw [ht]
      rw [List.getElem?_take_of_lt (by omega)] at h5
      rw [show 0 + j * 9 + t = j * 9 + t by omega, ← Array.getElem?_toList, h5]
      exact hv t ht9
    have hi2 : IntsM (memFr w (fun k => k < B)) (.slice ao l[j].lab.after.length cp) l[j].lab.after := hi.mono (memFr_mono (Upd.refl (fun _ => False) w) (fun k _ hf => ⟨fun g => hf (.inl g), fun g => g⟩))
    exact ⟨⟨hcell 0 (by omega), hcell 1 (by omega), hcell 2 (by omega), hcell 3 (by omega), hcell 4 (by omega)⟩, ⟨hcell 5 (by omega), hcell 7 (by omega), hcell 8 (by omega)⟩, hp _ (List.getElem_mem hj), _, hcell 6 (by omega), hi2⟩

theorem blk_info : (Tryz.prog.info? 56).map (fun i => (i.zero, i.size, i.bytes)) = some (some (.agg #[.int .i64 0, .int .i64 0, .string .empty, .int .i64 0, .int .i64 0, .int .i64 0, .slice none 0 0, .int .i64 0, .int .i64 0]), 9, 96) := by kernel_rfl
section
variable {ops : Array Oper} {rest : List Oper} {o : Oper} {a : Act} {w : World} {Q : Exit → Act → World → Prop} {mem : Addr → Option Value}
theorem run_app_blk {B : Nat} {v : Value} {l : List Blk} (h : BRow w B v l) (x : Blk) (ao : Option Addr) (cap : Nat) (hi : IntsM (memFr w (fun k => k < B ∨ v.ownBlock = some k)) (.slice ao x.lab.after.length cap) x.lab.after)
    (g c : Nat) (hc : w.heap[g]? = some (.cells (blkCells x (.slice ao x.lab.after.length cap)) 56 (0, 0))) (hlen : l.length ≤ 100000) (hB : B ≤ w.heap.size) (ty : Nat) :
    ∃ v' w', (Builtin.append_ #[43, 43] ty #[v, .slice (some ⟨g, 0, none⟩) 1 c]).run Tryz.prog w = .ok v' w' ∧ BRow w' B v' (l ++ [x]) ∧ w.grownBy w' v.ownBlock := by
  obtain ⟨i0, hi0, hz0, hz1, hz2⟩ := info_parts blk_info
  obtain ⟨vs, h1, h2⟩ := h
  obtain ⟨v', w', hr, g2, g3, _, g5⟩ := run_append_own_at (P := Tryz.prog) w B 43 ty 56 i0 _ 9 96 Tryz.underlying43 hi0 hz0 hz1 hz2 rfl (by decide) v l.length vs h1 ⟨g, 0, none⟩ 1 c (blkVals x (.slice ao x.lab.after.length cap)) rfl
    (fun j u hj => by
      have e : (⟨g, 0, none⟩ : Addr).add j = ⟨g, j, none⟩ := by unfold Addr.add; by_cases h0 : j = 0 <;> simp [h0]
      rw [e, blk_cell hc]
      rw [← hj]; simp)
    (by simp [Value.oneCell']) (by unfold maxLen; omega) (by omega) hB
  have hm : ∀ a u, memFr w (fun k => k < B ∨ v.ownBlock = some k) a = some u → memFr w' (fun k => k < B ∨ v'.ownBlock = some k) a = some u :=
    memFr_mono ((Upd.refl (fun k => v.ownBlock = some k) w).grown g3 (fun k e => .inl e)) (fun k hk hf => ⟨fun g => by
      rcases g with g | g
      · exact hf (.inl g)
      · rcases g5 with g5 | g5
        · exact hf (.inr (g5 ▸ g))
        · rw [g5] at g; injection g with g; omega, fun g => hf (.inr g)⟩)
  exact ⟨v', w', hr, ⟨_, by rw [List.length_append]; exact g2, BVals.snoc (hi.mono hm) (h2.mono hm)⟩, g3⟩
end
end Go.Proofs.YtgbihmafmmeicaaGreatDoor
namespace Go.Proofs.YtgbihmafmmeicaaGreatDoor
open Go.RowKit Mg Go.Shelf

theorem built4 (a b c d : Int) : Tryz.prog.built 45 [(0, .int .i64 a), (1, .int .i64 b), (2, .int .i64 c), (3, .int .i64 d)] = some #[.int .i64 a, .int .i64 b, .int .i64 c, .int .i64 d, .string .empty, .int .i64 0, .int .i64 0, .string .empty, .string .empty, .slice none 0 0, .slice none 0 0, .int .i64 0, .slice none 0 0, .int .i64 0, .int .i64 0, .int .i64 0, .int .i64 0, .int .i64 0, .string .empty, .string .empty, .int .i64 0, .int .i64 0, .int .i64 0] := by kernel_rfl
theorem fct_size : (Tryz.prog.info? 45).map (·.size) = some 23 := by kernel_rfl
theorem fct_under : ∃ fs, Tryz.prog.underlying 45 = some (.struct fs) := ⟨_, Tryz.underlying45⟩
section
variable {ops : Array Oper} {rest : List Oper} {o : Oper} {a : Act} {w : World} {Q : Exit → Act → World → Prop}
theorem at_fstore (x y : Operand) (_ : o.op = .store 45 x y) (h : wpList Tryz.prog ops Q (o :: rest) a w) : wpList Tryz.prog ops Q (o :: rest) a w := h
theorem at_fload (x : Operand) (_ : o.op = .load 45 x) (h : wpList Tryz.prog ops Q (o :: rest) a w) : wpList Tryz.prog ops Q (o :: rest) a w := h
theorem at_fbuild (parts : Array (Nat × Operand)) (_ : o.op = .build 45 parts) (h : wpList Tryz.prog ops Q (o :: rest) a w) : wpList Tryz.prog ops Q (o :: rest) a w := h
theorem wpList_fct_build4 (hg : o.guard = none) (parts : Array (Nat × Operand)) (ho : o.op = .build 45 parts) (n time kind story : Int)
    (hf : (parts.map fun (i, x) => (i, a.eval x)).toList = [(0, .int .i64 n), (1, .int .i64 time), (2, .int .i64 kind), (3, .int .i64 story)])
    (h : wpList Tryz.prog ops Q rest (a.put o.dst (.agg #[.int .i64 n, .int .i64 time, .int .i64 kind, .int .i64 story, .string .empty, .int .i64 0, .int .i64 0, .string .empty, .string .empty, .slice none 0 0, .slice none 0 0, .int .i64 0, .slice none 0 0, .int .i64 0, .int .i64 0, .int .i64 0, .int .i64 0, .int .i64 0, .string .empty, .string .empty, .int .i64 0, .int .i64 0, .int .i64 0])) w) : wpList Tryz.prog ops Q (o :: rest) a w :=
  wpList_buildTo hg 45 parts ho o.dst rfl _ (by rw [hf]; exact built4 n time kind story) h
theorem wpList_fct_new (hgd : o.guard = none) (x y : Operand) (ho : o.op = .store 45 x y) (hd : o.dst = none) (w0 : World) (old cells : Array Value) (hx : a.eval x = .pointer (some ⟨w0.heap.size, 0, none⟩)) (hy : a.eval y = .agg cells)
    (hold : old.size = 23) (hc : cells.size = 23) (h1 : cells.all (·.oneCell') = true)
    (h : wpList Tryz.prog ops Q rest a (w0.alloc (.cells cells 45))) : wpList Tryz.prog ops Q (o :: rest) a (w0.alloc (.cells old 45)) :=
  wpList_store_rowTo hgd 45 x y ho hd w0.heap.size cells hx hy 45 old (heap_alloc_last w0 _) (by rw [fct_size, hc]) (by omega) h1 (by rw [World.setRow_alloc_new]; exact h)
theorem wpList_fct_load (hgd : o.guard = none) (x : Operand) (ho : o.op = .load 45 x) (g : Nat) (hx : a.eval x = .pointer (some ⟨g, 0, none⟩)) (cs : Array Value) (hg : w.heap[g]? = some (.cells cs 45 (0, 0))) (hs : cs.size = 23)
    (h : wpList Tryz.prog ops Q rest (a.put o.dst (.agg cs)) w) : wpList Tryz.prog ops Q (o :: rest) a w := by
  obtain ⟨fs, hu⟩ := fct_under
  exact wpList_load_row hgd 45 x ho g hx 45 cs (0, 0) _ hg hu rfl (by rw [fct_size, hs]) h
end
end Go.Proofs.YtgbihmafmmeicaaGreatDoor
namespace Go.Proofs.YtgbihmafmmeicaaGreatDoor
open Go.RowKit Mg Go.Shelf

theorem blk_dec (id kind story ref id2 kind2 story2 ref2 : Int) (text text2 : ByteArray) (lab lab2 : Lab) : decide (({ id := id, kind := kind, text := text, story := story, ref := ref, lab := lab } : Blk) = { id := id2, kind := kind2, text := text2, story := story2, ref := ref2, lab := lab2 }) =
    (decide (id = id2) && (decide (kind = kind2) && (decide (text = text2) && (decide (story = story2) && (decide (ref = ref2) && decide (lab = lab2)))))) := by
  simp only [Blk.mk.injEq, Bool.decide_and]

theorem wp_tail {P : Program} {id : Nat} {Q : Exit → Act → World → Prop} {a : Act} {w : World} {l : List Oper} (n : Nat) (hm : P.follows .mixedOrders = true) (hB : Region.lexTailB .any l.toArray n = true)
    (h : wpStill P l.toArray w.drew (fun a' => wpList P l.toArray Q (l.drop n) a' w.drew) (l.take n) a) : (Code.region id l.toArray true).wp P Q a w :=
  wp_region_still_tail n hm hB h

set_option maxRecDepth 10000 in
set_option maxHeartbeats 4000000 in
theorem same_any {mem : Addr → Option Value} (x y : Blk) (av bv : Value) (h1 : IntsM mem av x.lab.after) (h2 : IntsM mem bv y.lab.after) (w : World) (hs : Sees mem w) :
    Calls Tryz.prog 99 #[.agg (blkCells x av), .agg (blkCells y bv)] w fun e w' => e = .returned (.bool (decide (x = y))) ∧ Below w.heap.size w w' := by
  obtain ⟨id, kind, text, story, ref, lab⟩ := x
  obtain ⟨id2, kind2, text2, story2, ref2, lab2⟩ := y
  dsimp only at h1 h2
  have HL := Lib.hid (fun W hW => labSame_any lab lab2 _ _ h1 h2 W hW)
  obtain ⟨ao, cap, rfl⟩ := h1.slice
  obtain ⟨ao2, cap2, rfl⟩ := h2.slice
  have HR := Lib.hid (blk_dec id kind story ref id2 kind2 story2 ref2 text text2 lab lab2)
  have hB0 : ∀ o o', Below w.heap.size w ((w.alloc o).alloc o') := fun o o' => ((Below.refl _ w).alloc (Nat.le_refl _) _).alloc (by simp) _
  have HB0 := Lib.hid hB0
  have HS := Lib.hid hs
  clear hB0 h1 h2 hs
  by_cases e1 : id = id2
  · subst e1
    by_cases e2 : kind = kind2
    · subst e2
      by_cases e3 : text = text2
      · subst e3
        by_cases e4 : story = story2
        · subst e4
          by_cases e5 : ref = ref2
          · subst e5
            go_enter Tryz.func99, Tryz.ntmps99
            go_wp2_with fail
            refine (HL.out _ ((HS.out.alloc _).alloc _)).mono ?_
            rintro e w1 ⟨rfl, hb⟩
            have hB := (HB0.out _ _).trans (hb.mono (by simp <;> omega))
            generalize decide (lab = lab2) = q at *
            cases q with
            | false =>
              go_wp2_with fail
              go_ret
              exact ⟨ret_false (by rw [HR.out]; simp), hB⟩
            | true =>
              go_wp2_with fail
              go_ret
              exact ⟨ret_true (by rw [HR.out]; simp), hB⟩
          · have n : (ref == ref2) = false := by simpa using e5
            have E := Lib.hid e5
            clear e5
            go_enter Tryz.func99, Tryz.ntmps99
            go_wp2_with fail
            go_ret
            exact ⟨ret_false (by first | (rw [HR.out, decide_eq_false E.out]; simp; done) | (rw [decide_eq_false E.out]; simp; done) | (rw [decide_eq_false E.out]; done)), HB0.out _ _⟩
        · have n : (story == story2) = false := by simpa using e4
          have E := Lib.hid e4
          clear e4
          go_enter Tryz.func99, Tryz.ntmps99
          go_wp2_with fail
          go_ret
          exact ⟨ret_false (by first | (rw [HR.out, decide_eq_false E.out]; simp; done) | (rw [decide_eq_false E.out]; simp; done) | (rw [decide_eq_false E.out]; done)), HB0.out _ _⟩
      · have n : (text.toList == text2.toList) = false := by
          simp only [beq_eq_false_iff_ne, ne_eq, ByteArray.toList_eq]
          intro e
          exact e3 (str_ext e)
        have E := Lib.hid e3
        clear e3
        go_enter Tryz.func99, Tryz.ntmps99
        go_wp2_with fail
        go_ret
        exact ⟨ret_false (by first | (rw [HR.out, decide_eq_false E.out]; simp; done) | (rw [decide_eq_false E.out]; simp; done) | (rw [decide_eq_false E.out]; done)), HB0.out _ _⟩
    · have n : (kind == kind2) = false := by simpa using e2
      have E := Lib.hid e2
      clear e2
      go_enter Tryz.func99, Tryz.ntmps99
      go_wp2_with fail
      go_ret
      exact ⟨ret_false (by first | (rw [HR.out, decide_eq_false E.out]; simp; done) | (rw [decide_eq_false E.out]; simp; done) | (rw [decide_eq_false E.out]; done)), HB0.out _ _⟩
  · have n : (id == id2) = false := by simpa using e1
    have E := Lib.hid e1
    clear e1
    go_enter Tryz.func99, Tryz.ntmps99
    go_wp2_with fail
    go_ret
    exact ⟨ret_false (by first | (rw [HR.out, decide_eq_false E.out]; simp; done) | (rw [decide_eq_false E.out]; simp; done) | (rw [decide_eq_false E.out]; done)), HB0.out _ _⟩

set_option maxRecDepth 10000 in
set_option maxHeartbeats 4000000 in
theorem sameR_any {mem : Addr → Option Value} (x y : Blk) (av bv : Value) (h1 : IntsM mem av x.lab.after) (h2 : IntsM mem bv y.lab.after) (w : World) (hs : Sees mem w) :
    Calls Tryz.prog 77 #[.agg (blkCells x av), .agg (blkCells y bv)] w fun e w' => e = .returned (.bool (decide (x = y))) ∧ Below w.heap.size w w' := by
  obtain ⟨id, kind, text, story, ref, lab⟩ := x
  obtain ⟨id2, kind2, text2, story2, ref2, lab2⟩ := y
  dsimp only at h1 h2
  have HL := Lib.hid (fun W hW => labSameR_any lab lab2 _ _ h1 h2 W hW)
  obtain ⟨ao, cap, rfl⟩ := h1.slice
  obtain ⟨ao2, cap2, rfl⟩ := h2.slice
  have HR := Lib.hid (blk_dec id kind story ref id2 kind2 story2 ref2 text text2 lab lab2)
  have hB0 : ∀ o o', Below w.heap.size w ((w.alloc o).alloc o') := fun o o' => ((Below.refl _ w).alloc (Nat.le_refl _) _).alloc (by simp) _
  have HB0 := Lib.hid hB0
  have HS := Lib.hid hs
  clear hB0 h1 h2 hs
  by_cases e1 : id = id2
  · subst e1
    by_cases e2 : kind = kind2
    · subst e2
      by_cases e3 : text = text2
      · subst e3
        by_cases e4 : story = story2
        · subst e4
          by_cases e5 : ref = ref2
          · subst e5
            go_enter Tryz.func77, Tryz.ntmps77
            go_wp2_with fail
            refine (HL.out _ ((HS.out.alloc _).alloc _)).mono ?_
            rintro e w1 ⟨rfl, hb⟩
            have hB := (HB0.out _ _).trans (hb.mono (by simp <;> omega))
            generalize decide (lab = lab2) = q at *
            cases q with
            | false =>
              go_wp2_with fail
              go_ret
              exact ⟨ret_false (by rw [HR.out]; simp), hB⟩
            | true =>
              go_wp2_with fail
              go_ret
              exact ⟨ret_true (by rw [HR.out]; simp), hB⟩
          · have n : (ref == ref2) = false := by simpa using e5
            have E := Lib.hid e5
            clear e5
            go_enter Tryz.func77, Tryz.ntmps77
            go_wp2_with fail
            go_ret
            exact ⟨ret_false (by first | (rw [HR.out, decide_eq_false E.out]; simp; done) | (rw [decide_eq_false E.out]; simp; done) | (rw [decide_eq_false E.out]; done)), HB0.out _ _⟩
        · have n : (story == story2) = false := by simpa using e4
          have E := Lib.hid e4
          clear e4
          go_enter Tryz.func77, Tryz.ntmps77
          go_wp2_with fail
          go_ret
          exact ⟨ret_false (by first | (rw [HR.out, decide_eq_false E.out]; simp; done) | (rw [decide_eq_false E.out]; simp; done) | (rw [decide_eq_false E.out]; done)), HB0.out _ _⟩
      · have n : (text.toList == text2.toList) = false := by
          simp only [beq_eq_false_iff_ne, ne_eq, ByteArray.toList_eq]
          intro e
          exact e3 (str_ext e)
        have E := Lib.hid e3
        clear e3
        go_enter Tryz.func77, Tryz.ntmps77
        go_wp2_with fail
        go_ret
        exact ⟨ret_false (by first | (rw [HR.out, decide_eq_false E.out]; simp; done) | (rw [decide_eq_false E.out]; simp; done) | (rw [decide_eq_false E.out]; done)), HB0.out _ _⟩
    · have n : (kind == kind2) = false := by simpa using e2
      have E := Lib.hid e2
      clear e2
      go_enter Tryz.func77, Tryz.ntmps77
      go_wp2_with fail
      go_ret
      exact ⟨ret_false (by first | (rw [HR.out, decide_eq_false E.out]; simp; done) | (rw [decide_eq_false E.out]; simp; done) | (rw [decide_eq_false E.out]; done)), HB0.out _ _⟩
  · have n : (id == id2) = false := by simpa using e1
    have E := Lib.hid e1
    clear e1
    go_enter Tryz.func77, Tryz.ntmps77
    go_wp2_with fail
    go_ret
    exact ⟨ret_false (by first | (rw [HR.out, decide_eq_false E.out]; simp; done) | (rw [decide_eq_false E.out]; simp; done) | (rw [decide_eq_false E.out]; done)), HB0.out _ _⟩

set_option maxRecDepth 10000 in
set_option maxHeartbeats 4000000 in
theorem equalFunc_any {mem : Addr → Option Value} {v u : Value} {l m : List Blk} (h1 : BlksM mem v l) (h2 : BlksM mem u m) (w : World) (hs : Sees mem w) :
    Calls Tryz.prog 98 #[v, u, .func (.func 99) #[] #[]] w fun e w' => e = .returned (.bool (decide (l = m))) ∧ Below w.heap.size w w' := by
  obtain ⟨ao, cap, b, o, rfl, hcap, hm, hao, hblks⟩ := h1.open_
  obtain ⟨ao2, cap2, b2, o2, rfl, hcap2, hm2, hao2, hblks2⟩ := h2.open_
  have HA := Lib.hid hao
  have HA2 := Lib.hid hao2
  have HB := Lib.hid hblks
  have HB2 := Lib.hid hblks2
  have HS := Lib.hid hs
  have hlen : (l.length : Int) ≤ 9223372036854775807 := by unfold maxLen at hm; omega
  have hlen2 : (m.length : Int) ≤ 9223372036854775807 := by unfold maxLen at hm2; omega
  clear h1 h2 hao hao2 hblks hblks2 hs hcap hcap2 hm hm2
  by_cases hl : l.length = m.length
  · have HL := Lib.hid hl
    rw [← hl]
    clear hl
    go_enter Tryz.func98, Tryz.ntmps98
    go_wp2_with fail
    go_loopw [17] (fun i wr => ∃ k : Nat, k ≤ l.length ∧ i = .int .i64 k ∧ Below w.heap.size w wr ∧ Hid (l.take k = m.take k)) (fun i _ => l.length - (intOf i).toNat)
    case atStart => exact ⟨0, Nat.zero_le _, rfl, Below.refl _ _, Lib.hid rfl⟩
    case round =>
      obtain ⟨k, hk, rfl, hb, ht⟩ := hrel
      by_cases hlt : k < l.length
      · have hlt2 : k < m.length := by rw [← HL.out]; exact hlt
        obtain ⟨hp1, lo, lc, hi, c9⟩ := (HB.out k hlt).nine (HS.out.bel hb)
        obtain ⟨hp2, lo2, lc2, hi2, d9⟩ := (HB2.out k hlt2).nine (HS.out.bel hb)
        obtain rfl := HA.out (by omega)
        obtain rfl := HA2.out (by omega)
        obtain ⟨c0, c1, c2, c3, c4, c5, c6, c7, c8⟩ := c9
        obtain ⟨d0, d1, d2, d3, d4, d5, d6, d7, d8⟩ := d9
        have hbl : b < wr.heap.size := World.block_lt_of_cell? wr _ c0
        have hbl2 : b2 < wr.heap.size := World.block_lt_of_cell? wr _ d0
        have HI := Lib.hid (And.intro hi hi2)
        have HE : Hid (l[k] = m[k] → l.take (k + 1) = m.take (k + 1)) := Lib.hid (take_step hlt hlt2 ht.out)
        have HN : Hid (l[k] ≠ m[k] → decide (l = m) = false) := Lib.hid (fun e => decide_eq_false (ne_of_get hlt hlt2 e))
        have hk0 : (0 : Int) ≤ k := by omega
        have hk1 : (k : Int) < l.length := by omega
        clear ht hi hi2 hp1 hp2
        generalize l[k] = x at *
        generalize m[k] = y at *
        have HC : Hid (∀ W, Sees mem W → Calls Tryz.prog 99 #[.agg (blkCells x (.slice lo x.lab.after.length lc)), .agg (blkCells y (.slice lo2 y.lab.after.length lc2))] W fun e w' => e = .returned (.bool (decide (x = y))) ∧ Below W.heap.size W w') :=
          Lib.hid (fun W hW => same_any x y _ _ HI.out.1 HI.out.2 W hW)
        have HC9 : Hid (decide (x = y) = true → x = y) := Lib.hid of_decide_eq_true
        have HC8 : Hid (decide (x = y) = false → x ≠ y) := Lib.hid of_decide_eq_false
        generalize hq : decide (x = y) = q at *
        clear hq HI
        go_wp2_with fail
        obtain ⟨W2, HW2⟩ := named ((wr.alloc (.cells (blkCells x (.slice lo x.lab.after.length lc)) 56)).alloc (.cells (blkCells y (.slice lo2 y.lab.after.length lc2)) 56))
        rw [← HW2.out]
        have hb2 : Below w.heap.size w W2 := by rw [HW2.out]; exact (hb.alloc hb.size _).alloc (by have := hb.size; simp; omega) _
        refine (HC.out W2 (HS.out.bel hb2)).mono ?_
        rintro e w3 ⟨rfl, hb3⟩
        have hB3 : Below w.heap.size w w3 := hb2.trans (hb3.mono hb2.size)
        clear hb3 hb2 c0 c1 c2 c3 c4 c5 c6 c7 c8 d0 d1 d2 d3 d4 d5 d6 d7 d8
        cases q with
        | true =>
          have HE2 := Lib.hid (HE.out (HC9.out rfl))
          clear HE HN HC9 HC8
          go_wp2_with fail
          go_roundw
          case rel => exact ⟨k + 1, by omega, by go_num, hB3, HE2⟩
          case measure => simp [intOf]; omega
        | false =>
          have HN2 := Lib.hid (HN.out (HC8.out rfl))
          clear HE HN HC9 HC8
          go_wp2_with fail
          go_ret
          exact ⟨ret_false HN2.out, hB3⟩
      · have e : k = l.length := by omega
        subst e
        have HF : Hid (decide (l = m) = true) := Lib.hid (decide_eq_true (eq_full HL.out ht.out))
        go_wp2_with fail
        go_ret
        exact ⟨ret_true HF.out, hb⟩
  · have HNE : Hid (decide (l = m) = false) := Lib.hid (decide_eq_false (fun e => hl (by rw [e])))
    have hne : decide (l.length = m.length) = false := decide_eq_false hl
    go_enter Tryz.func98, Tryz.ntmps98
    go_wp2_with fail
    all_goals first
      | (go_ret
         exact ⟨ret_false HNE.out, Below.refl _ _⟩)
      | (exfalso; simp_all; done)

theorem sameList_any {mem : Addr → Option Value} {v u : Value} {l m : List Blk} (h1 : BlksM mem v l) (h2 : BlksM mem u m) (w : World) (hs : Sees mem w) :
    Calls Tryz.prog 82 #[v, u] w fun e w' => e = .returned (.bool (decide (l = m))) ∧ Below w.heap.size w w' := by
  have HC := Lib.hid (equalFunc_any h1 h2 w hs)
  obtain ⟨ao, cap, rfl⟩ := h1.slice
  obtain ⟨ao2, cap2, rfl⟩ := h2.slice
  clear h1 h2 hs
  go_enter Tryz.func82, Tryz.ntmps82
  go_wp2_with fail
  refine HC.out.mono ?_
  rintro e w1 ⟨rfl, hb⟩
  go_wp2_with fail
  go_ret
  exact ⟨rfl, hb⟩

set_option maxRecDepth 10000 in
set_option maxHeartbeats 4000000 in
theorem sameListR_any {mem : Addr → Option Value} {v u : Value} {l m : List Blk} (h1 : BlksM mem v l) (h2 : BlksM mem u m) (w : World) (hs : Sees mem w) :
    Calls Tryz.prog 56 #[v, u] w fun e w' => e = .returned (.bool (decide (l = m))) ∧ Below w.heap.size w w' := by
  obtain ⟨ao, cap, b, o, rfl, hcap, hm, hao, hblks⟩ := h1.open_
  obtain ⟨ao2, cap2, b2, o2, rfl, hcap2, hm2, hao2, hblks2⟩ := h2.open_
  have HA := Lib.hid hao
  have HA2 := Lib.hid hao2
  have HB := Lib.hid hblks
  have HB2 := Lib.hid hblks2
  have HS := Lib.hid hs
  have hlen : (l.length : Int) ≤ 9223372036854775807 := by unfold maxLen at hm; omega
  have hlen2 : (m.length : Int) ≤ 9223372036854775807 := by unfold maxLen at hm2; omega
  clear h1 h2 hao hao2 hblks hblks2 hs hcap hcap2 hm hm2
  by_cases hl : l.length = m.length
  · have HL := Lib.hid hl
    rw [← hl]
    clear hl
    go_enter Tryz.func56, Tryz.ntmps56
    go_wp2_with fail
    go_loopw [5] (fun i wr => ∃ k : Nat, k ≤ l.length ∧ i = .int .i64 k ∧ Below w.heap.size w wr ∧ Hid (l.take k = m.take k)) (fun i _ => l.length - (intOf i).toNat)
    case atStart => exact ⟨0, Nat.zero_le _, rfl, Below.refl _ _, Lib.hid rfl⟩
    case round =>
      obtain ⟨k, hk, rfl, hb, ht⟩ := hrel
      by_cases hlt : k < l.length
      · have hlt2 : k < m.length := by rw [← HL.out]; exact hlt
        obtain ⟨hp1, lo, lc, hi, c9⟩ := (HB.out k hlt).nine (HS.out.bel hb)
        obtain ⟨hp2, lo2, lc2, hi2, d9⟩ := (HB2.out k hlt2).nine (HS.out.bel hb)
        obtain rfl := HA.out (by omega)
        obtain rfl := HA2.out (by omega)
        obtain ⟨c0, c1, c2, c3, c4, c5, c6, c7, c8⟩ := c9
        obtain ⟨d0, d1, d2, d3, d4, d5, d6, d7, d8⟩ := d9
        have hbl : b < wr.heap.size := World.block_lt_of_cell? wr _ c0
        have hbl2 : b2 < wr.heap.size := World.block_lt_of_cell? wr _ d0
        have HI := Lib.hid (And.intro hi hi2)
        have HE : Hid (l[k] = m[k] → l.take (k + 1) = m.take (k + 1)) := Lib.hid (take_step hlt hlt2 ht.out)
        have HN : Hid (l[k] ≠ m[k] → decide (l = m) = false) := Lib.hid (fun e => decide_eq_false (ne_of_get hlt hlt2 e))
        have hk0 : (0 : Int) ≤ k := by omega
        have hk1 : (k : Int) < l.length := by omega
        clear ht hi hi2 hp1 hp2
        generalize l[k] = x at *
        generalize m[k] = y at *
        have HC : Hid (∀ W, Sees mem W → Calls Tryz.prog 77 #[.agg (blkCells x (.slice lo x.lab.after.length lc)), .agg (blkCells y (.slice lo2 y.lab.after.length lc2))] W fun e w' => e = .returned (.bool (decide (x = y))) ∧ Below W.heap.size W w') :=
          Lib.hid (fun W hW => sameR_any x y _ _ HI.out.1 HI.out.2 W hW)
        have HC9 : Hid (decide (x = y) = true → x = y) := Lib.hid of_decide_eq_true
        have HC8 : Hid (decide (x = y) = false → x ≠ y) := Lib.hid of_decide_eq_false
        generalize hq : decide (x = y) = q at *
        clear hq HI
        go_wp2_with fail
        refine wp_tail 8 (by kernel_rfl) (by kernel_rfl) ?_
        simp only [List.take_succ_cons, List.take_zero, List.drop_succ_cons, List.drop_zero]
        repeat still_step
        refine wpStill_nil ?_
        go_wp2_with fail
        refine (HC.out _ (HS.out.bel hb).drew).mono ?_
        rintro e w3 ⟨rfl, hb3⟩
        have hB3 : Below w.heap.size w w3 := hb.drew.trans (hb3.mono hb.size)
        clear hb3 c0 c1 c2 c3 c4 c5 c6 c7 c8 d0 d1 d2 d3 d4 d5 d6 d7 d8
        cases q with
        | true =>
          have HE2 := Lib.hid (HE.out (HC9.out rfl))
          clear HE HN HC9 HC8
          go_wp2_with fail
          go_roundw
          case rel => exact ⟨k + 1, by omega, by go_num, hB3, HE2⟩
          case measure => simp [intOf]; omega
        | false =>
          have HN2 := Lib.hid (HN.out (HC8.out rfl))
          clear HE HN HC9 HC8
          go_wp2_with fail
          go_ret
          exact ⟨ret_false HN2.out, hB3⟩
      · have e : k = l.length := by omega
        subst e
        have HF : Hid (decide (l = m) = true) := Lib.hid (decide_eq_true (eq_full HL.out ht.out))
        go_wp2_with fail
        go_ret
        exact ⟨ret_true HF.out, hb⟩
  · have HNE : Hid (decide (l = m) = false) := Lib.hid (decide_eq_false (fun e => hl (by rw [e])))
    have hne : decide (l.length = m.length) = false := decide_eq_false hl
    go_enter Tryz.func56, Tryz.ntmps56
    go_wp2_with fail
    all_goals first
      | (go_ret
         exact ⟨ret_false HNE.out, Below.refl _ _⟩)
      | (exfalso; simp_all; done)
end Go.Proofs.YtgbihmafmmeicaaGreatDoor
namespace Go.Proofs.YtgbihmafmmeicaaGreatDoor
open Go.RowKit Mg Go.Shelf

set_option maxHeartbeats 1000000 in
theorem equalS_any {mem : Addr → Option Value} (v u : Value) (l m : List ByteArray) (h1 : StrsM mem v l) (h2 : StrsM mem u m) (w : World) (hs : Sees mem w) :
    Calls Tryz.prog 81 #[v, u] w fun e w' => e = .returned (.bool (decide (l = m))) ∧ Below w.heap.size w w' := by
  obtain ⟨ao, cap, b, o, rfl, hcap, hm, hao, _, hcells⟩ := h1.open_ hs
  obtain ⟨ao2, cap2, b2, o2, rfl, hcap2, hm2, hao2, _, hcells2⟩ := h2.open_ hs
  have HA := Lib.hid hao
  have HA2 := Lib.hid hao2
  have HC := Lib.hid hcells
  have HC2 := Lib.hid hcells2
  have hlen : (l.length : Int) ≤ 9223372036854775807 := by unfold maxLen at hm; omega
  have hlen2 : (m.length : Int) ≤ 9223372036854775807 := by unfold maxLen at hm2; omega
  clear hao hao2 hcells hcells2 hs h1 h2 hcap hcap2 hm hm2
  by_cases hl : l.length = m.length
  · have HL := Lib.hid hl
    rw [← hl]
    clear hl
    go_enter Tryz.func81, Tryz.ntmps81
    go_wp2_with fail
    go_loopw [13] (fun i wr => ∃ k : Nat, k ≤ l.length ∧ i = .int .i64 k ∧ Below w.heap.size w wr ∧ Hid (l.take k = m.take k)) (fun i _ => l.length - (intOf i).toNat)
    case atStart => exact ⟨0, Nat.zero_le _, rfl, Below.refl _ _, Lib.hid rfl⟩
    case round =>
      obtain ⟨k, hk, rfl, hb, ht⟩ := hrel
      by_cases hlt : k < l.length
      · have hlt2 : k < m.length := by rw [← HL.out]; exact hlt
        have c1 := HC.out k hlt
        have c2 := HC2.out k hlt2
        obtain rfl := HA.out (by omega)
        obtain rfl := HA2.out (by omega)
        replace c1 := (hb.cell (p := ⟨b, o + k, none⟩) (World.block_lt_of_cell? w _ c1)).trans c1
        replace c2 := (hb.cell (p := ⟨b2, o2 + k, none⟩) (World.block_lt_of_cell? w _ c2)).trans c2
        have HE : Hid (l[k] = m[k] → l.take (k + 1) = m.take (k + 1)) := Lib.hid (take_step hlt hlt2 ht.out)
        have HN : Hid (l[k] ≠ m[k] → l ≠ m) := Lib.hid (ne_of_get hlt hlt2)
        generalize l[k] = x at *
        generalize m[k] = y at *
        have hk0 : (0 : Int) ≤ k := by omega
        have hk1 : (k : Int) < l.length := by omega
        clear ht hlt2
        by_cases hxy : x = y
        · subst hxy
          have HE2 := Lib.hid (HE.out rfl)
          clear HE
          go_wp2_with fail
          go_quiet (fail)
          go_wp2_with fail
          go_roundw
          case rel => exact ⟨k + 1, by omega, by go_num, below_drewN hb _, HE2⟩
          case measure => simp [intOf]; omega
        · have hne : (x.toList != y.toList) = true := by
            rw [bne_iff_ne]
            intro e
            exact hxy (str_ext (by simpa [ByteArray.toList_eq] using e))
          have hne2 : (x.toList == y.toList) = false := by
            rw [beq_eq_false_iff_ne]
            intro e
            exact hxy (str_ext (by simpa [ByteArray.toList_eq] using e))
          have HNE := Lib.hid hxy
          clear hxy
          go_wp2_with fail
          go_quiet (fail)
          go_wp2_with fail
          go_ret
          exact ⟨ret_bool (by symm; exact decide_eq_false (HN.out HNE.out)), below_drewN hb _⟩
      · have e : k = l.length := by omega
        subst e
        have HF : Hid (l = m) := Lib.hid (eq_full HL.out ht.out)
        go_wp2_with fail
        go_ret
        exact ⟨ret_bool (by symm; exact decide_eq_true HF.out), hb⟩
  · have hne : decide (l.length = m.length) = false := decide_eq_false hl
    have HNE : Hid (l ≠ m) := Lib.hid (fun e => hl (by rw [e]))
    go_enter Tryz.func81, Tryz.ntmps81
    go_wp2_with fail
    all_goals first
      | (go_ret
         exact ⟨ret_bool (by symm; exact decide_eq_false HNE.out), Below.refl _ _⟩)
      | (exfalso; simp_all; done)
theorem heap_new1 (w : World) (A B : Obj) : ((w.alloc A).alloc B).heap[w.heap.size]? = some A := (Below.heap_alloc _ _ _ (by simp)).trans (World.alloc_heap_new w _)
set_option maxRecDepth 100000 in
set_option maxHeartbeats 2000000 in
theorem fsame_any {mem : Addr → Option Value} (f : Fct) {ta tc ba bc aa ac ta2 tc2 ba2 bc2 aa2 ac2} (hp : Parts mem f (.slice ta f.topics.length tc) (.slice ba f.blocks.length bc) (.slice aa f.lab.after.length ac)) (hq : Parts mem f (.slice ta2 f.topics.length tc2) (.slice ba2 f.blocks.length bc2) (.slice aa2 f.lab.after.length ac2)) (w : World) (hs : Sees mem w) :
    Calls Tryz.prog 67 #[.agg (fctCells f (.slice ta f.topics.length tc) (.slice ba f.blocks.length bc) (.slice aa f.lab.after.length ac)), .agg (fctCells f (.slice ta2 f.topics.length tc2) (.slice ba2 f.blocks.length bc2) (.slice aa2 f.lab.after.length ac2))] w fun e w' => e = .returned (.bool true) ∧ Below w.heap.size w w' := by
  have H1 : Hid (∀ W, Sees mem W → Calls Tryz.prog 81 #[.slice ta f.topics.length tc, .slice ta2 f.topics.length tc2] W fun e w' => e = .returned (.bool true) ∧ Below W.heap.size W w') := Lib.hid fun W hW => by
    have h := equalS_any _ _ _ _ hp.1 hq.1 W hW
    rwa [decide_eq_true rfl] at h
  have H2 : Hid (∀ W, Sees mem W → Calls Tryz.prog 82 #[.slice ba f.blocks.length bc, .slice ba2 f.blocks.length bc2] W fun e w' => e = .returned (.bool true) ∧ Below W.heap.size W w') := Lib.hid fun W hW => by
    have h := sameList_any hp.2.1 hq.2.1 W hW
    rwa [decide_eq_true rfl] at h
  have H3 : Hid (∀ W, Sees mem W → Calls Tryz.prog 83 #[.agg (labCells f.lab (.slice aa f.lab.after.length ac)), .agg (labCells f.lab (.slice aa2 f.lab.after.length ac2))] W fun e w' => e = .returned (.bool true) ∧ Below W.heap.size W w') := Lib.hid fun W hW => by
    have h := labSame_any f.lab f.lab _ _ hp.2.2 hq.2.2 W hW
    rwa [decide_eq_true rfl] at h
  have HS := Lib.hid hs
  clear hp hq hs
  obtain ⟨x0, x1, x2, x3, x4, x5, x6, x7, x8, x9, x10, ⟨y1, y2, y3, y4⟩, x12, x13, x14, x15, x16, x17, x18, x19⟩ := f
  simp only [labCells, fctCells] at *
  generalize x9.length = n9 at *
  generalize x10.length = n10 at *
  generalize y2.length = n11 at *
  have HB := Lib.hid (fun o o' => ((Below.refl w.heap.size w).alloc (Nat.le_refl _) o).alloc (by simp) o')
  have HN1 := Lib.hid (heap_new1 w)
  have HN2 := Lib.hid (heap_new2 w)
  go_enter Tryz.func67, Tryz.ntmps67
  go_wp2_with fail
  refine (H1.out _ (HS.out.bel (HB.out _ _))).mono ?_
  rintro e w1 ⟨rfl, hb⟩
  have hz := hb.size
  simp at hz
  have g1 := (hb.block w.heap.size (by simp <;> omega)).trans (HN1.out _ _)
  have g2 := (hb.block (w.heap.size + 1) (by simp)).trans (HN2.out _ _)
  have hb1 := (HB.out _ _).trans (hb.mono (by simp <;> omega))
  clear hb
  have d10 := blk_cell g1 10
  have k10 := blk_cell g2 10
  simp only [List.getElem?_toArray, List.getElem?_cons_zero, List.getElem?_cons_succ] at d10 k10
  replace g1 := Lib.hid g1
  replace g2 := Lib.hid g2
  go_wp2_with fail
  refine (H2.out _ (HS.out.bel hb1)).mono ?_
  clear d10 k10
  rintro e w2 ⟨rfl, hb⟩
  replace g1 := (hb.block w.heap.size (by omega)).trans g1.out
  replace g2 := (hb.block (w.heap.size + 1) (by omega)).trans g2.out
  have hb2 := hb1.trans (hb.mono (by omega))
  replace hz := Nat.le_trans hz hb.size
  clear hb hb1
  have d11 := blk_cell g1 11
  have d12 := blk_cell g1 12
  have d13 := blk_cell g1 13
  have d14 := blk_cell g1 14
  have k11 := blk_cell g2 11
  have k12 := blk_cell g2 12
  have k13 := blk_cell g2 13
  have k14 := blk_cell g2 14
  simp only [List.getElem?_toArray, List.getElem?_cons_zero, List.getElem?_cons_succ] at d11 d12 d13 d14 k11 k12 k13 k14
  replace g1 := Lib.hid g1
  replace g2 := Lib.hid g2
  go_wp2_with fail
  refine (H3.out _ (HS.out.bel hb2)).mono ?_
  clear d11 d12 d13 d14 k11 k12 k13 k14
  rintro e w3 ⟨rfl, hb⟩
  replace g1 := (hb.block w.heap.size (by omega)).trans g1.out
  replace g2 := (hb.block (w.heap.size + 1) (by omega)).trans g2.out
  have hb3 := Lib.hid (hb2.trans (hb.mono (by omega)))
  clear hb hb2 hz H1 H2 H3 HS HB HN1 HN2
  have d15 := blk_cell g1 15
  have k15 := blk_cell g2 15
  have d16 := blk_cell g1 16
  have k16 := blk_cell g2 16
  have d17 := blk_cell g1 17
  have k17 := blk_cell g2 17
  have d18 := blk_cell g1 18
  have k18 := blk_cell g2 18
  have d19 := blk_cell g1 19
  have k19 := blk_cell g2 19
  have d20 := blk_cell g1 20
  have k20 := blk_cell g2 20
  have d21 := blk_cell g1 21
  have k21 := blk_cell g2 21
  have d22 := blk_cell g1 22
  have k22 := blk_cell g2 22
  simp only [List.getElem?_toArray, List.getElem?_cons_zero, List.getElem?_cons_succ] at d15 k15 d16 k16 d17 k17 d18 k18 d19 k19 d20 k20 d21 k21 d22 k22
  clear g1 g2
  go_wp2_with fail
  go_ret
  exact ⟨rfl, hb3.out⟩
end Go.Proofs.YtgbihmafmmeicaaGreatDoor
namespace Go.Proofs.YtgbihmafmmeicaaGreatDoor
open Go.RowKit Mg Go.Shelf

structure FW (w : World) (A Z U : Array Value) (W : World) : Prop where
  a : W.heap[w.heap.size]? = some (.cells A 45 (0, 0))
  z : W.heap[w.heap.size + 1]? = some (.cells Z 45 (0, 0))
  u : W.heap[w.heap.size + 1 + 1]? = some (.cells U 45 (0, 0))
  b : Below w.heap.size w W
theorem FW.new (w : World) (A Z U : Array Value) : FW w A Z U (((w.alloc (.cells A 45)).alloc (.cells Z 45)).alloc (.cells U 45)) :=
  ⟨(Below.heap_alloc _ _ _ (by simp <;> omega)).trans (heap_new1 w _ _), (Below.heap_alloc _ _ _ (by simp)).trans (heap_new2 w _ _), by have h := World.alloc_heap_new ((w.alloc (.cells A 45)).alloc (.cells Z 45)) (.cells U 45); simpa using h,
    (((Below.refl _ w).alloc (Nat.le_refl _) _).alloc (by simp) _).alloc (by simp <;> omega) _⟩
section
variable {w W W' : World} {A Z U : Array Value}
theorem FW.drew (h : FW w A Z U W) : FW w A Z U W.drew := ⟨h.a, h.z, h.u, h.b.drew⟩
theorem FW.lt (h : FW w A Z U W) : w.heap.size + 1 + 1 < W.heap.size := (Array.getElem?_eq_some_iff.1 h.u).1
theorem FW.bel (h : FW w A Z U W) (hb : Below W.heap.size W W') : FW w A Z U W' :=
  ⟨(hb.block _ (by have := h.lt; omega)).trans h.a, (hb.block _ (by have := h.lt; omega)).trans h.z, (hb.block _ h.lt).trans h.u, h.b.trans (hb.mono h.b.size)⟩
theorem FW.setZ (h : FW w A Z U W) (cs : Array Value) : FW w A cs U (W.setRow (w.heap.size + 1) cs) :=
  ⟨(setRow_other _ _ _ _ (by omega)).trans h.a, setRow_heap _ _ _ _ _ _ h.z, (setRow_other _ _ _ _ (by omega)).trans h.u, below_setRow h.b (by omega) _⟩
theorem FW.setU (h : FW w A Z U W) (j : Nat) (v : Value) : FW w A Z (U.setIfInBounds j v) (W.setCell ⟨w.heap.size + 1 + 1, j, none⟩ v) := by
  rw [setCell_eq_setRow W _ j U 45 (0, 0) v h.u]
  exact ⟨(setRow_other _ _ _ _ (by omega)).trans h.a, (setRow_other _ _ _ _ (by omega)).trans h.z, setRow_heap _ _ _ _ _ _ h.u, below_setRow h.b (by omega) _⟩
theorem FW.ca (h : FW w A Z U W) (j : Nat) : W.cell? ⟨w.heap.size, j, none⟩ = A[j]? := blk_cell h.a j
theorem FW.cu (h : FW w A Z U W) (j : Nat) : W.cell? ⟨w.heap.size + 1 + 1, j, none⟩ = U[j]? := blk_cell h.u j
theorem FW.fu (h : FW w A Z U W) (j : Nat) : W.frozen? ⟨w.heap.size + 1 + 1, j, none⟩ = false := blk_free h.u j
theorem exec_fct_load {o : Oper} {a : Act} {W : World} {g : Nat} (x : Operand) (ho : o.op = .load 45 x) (hx : a.eval x = .pointer (some ⟨g, 0, none⟩)) {cs : Array Value} (hg : W.heap[g]? = some (.cells cs 45 (0, 0))) (hs : cs.size = 23) :
    (execOp a.eval o).run Tryz.prog W = .ok (.value (.agg cs)) W := by
  obtain ⟨fs, hu⟩ := fct_under
  unfold execOp
  simp only [ho, hx, Instr.loadAt, Instr.sureAddr, Sem.run_bind, Sem.run_pure, Result.andThen_ok, run_loadVar_row (P := Tryz.prog) W g 45 45 cs (0, 0) _ hg hu rfl (by rw [fct_size, hs])]
theorem wp_fct_load {o : Oper} {a : Act} {W : World} {g : Nat} {K : Act → World → Prop} {Q : Exit → Act → World → Prop} (x : Operand) (ho : o.op = .load 45 x) (hx : a.eval x = .pointer (some ⟨g, 0, none⟩)) {cs : Array Value} (hg : W.heap[g]? = some (.cells cs 45 (0, 0))) (hs : cs.size = 23)
    (h : K (a.put o.dst (.agg cs)) W) : o.wp Tryz.prog a W K Q := by
  obtain ⟨fs, hu⟩ := fct_under
  exact wp_load_row _ x ho g hx _ cs _ _ hg hu rfl (by rw [fct_size, hs]) h
theorem wp_fct_store {o : Oper} {a : Act} {W : World} {g : Nat} {K : Act → World → Prop} {Q : Exit → Act → World → Prop} (x y : Operand) (ho : o.op = .store 45 x y) (hx : a.eval x = .pointer (some ⟨g, 0, none⟩)) {cs old : Array Value} (hy : a.eval y = .agg cs) (hg : W.heap[g]? = some (.cells old 45 (0, 0))) (ho2 : old.size = 23) (hs : cs.size = 23) (h1 : cs.all (·.oneCell') = true)
    (h : K (a.put o.dst undef) (W.setRow g cs)) : o.wp Tryz.prog a W K Q :=
  wp_store_row _ x y ho g cs hx hy _ old hg (by rw [fct_size, hs]) (by omega) h1 h
theorem used_results (h : FW w A Z U W) (hz : Z.size = 23) {t : Array Value} {q : Bool} (h2 : t[2]? = some (.pointer (some ⟨w.heap.size + 1, 0, none⟩))) (h3 : t[3]? = some (.bool q)) :
    (results Tryz.f85 t).run Tryz.prog W = .ok (.tuple #[.agg Z, .bool q]) W := by
  obtain ⟨fs, hu⟩ := fct_under
  have hl := run_loadVar_row (P := Tryz.prog) W (w.heap.size + 1) 45 45 Z (0, 0) _ h.z hu rfl (by rw [fct_size, hz])
  simp [results, h2, h3, hl, asAddr]
end
theorem wpList_fct_loadG {ops : Array Oper} {rest : List Oper} {o : Oper} {a : Act} {W : World} {Q : Exit → Act → World → Prop} (hw : Region.wanted o (yielded ops a.tmps) = true) (x : Operand) (ho : o.op = .load 45 x) (g : Nat) (hx : a.eval x = .pointer (some ⟨g, 0, none⟩)) {cs : Array Value} (hg : W.heap[g]? = some (.cells cs 45 (0, 0))) (hs : cs.size = 23)
    (h : wpList Tryz.prog ops Q rest (a.put o.dst (.agg cs)) W) : wpList Tryz.prog ops Q (o :: rest) a W :=
  wpList_step fun K hK => by
    rw [if_pos hw]
    exact wp_fct_load x ho hx hg hs (hK _ _ h)
def Stand (p : Prop) : Prop := p
section
variable {ops : Array Oper} {rest : List Oper} {o : Oper} {a : Act} {w : World} {Q : Exit → Act → World → Prop}
theorem at_fload_stand (x : Operand) (_ : o.op = .load 45 x) (h : Stand (wpList Tryz.prog ops Q (o :: rest) a w)) : wpList Tryz.prog ops Q (o :: rest) a w := h
end
def UsedPost (mem : Addr → Option Value) (f : Fct) (w : World) (e : Ending) (w' : World) : Prop :=
  ∃ ta tc ba bc aa ac, e = .returned (.tuple #[.agg (fctCells f (.slice ta f.topics.length tc) (.slice ba f.blocks.length bc) (.slice aa f.lab.after.length ac)), .bool (fieldsOK f)]) ∧ Parts mem f (.slice ta f.topics.length tc) (.slice ba f.blocks.length bc) (.slice aa f.lab.after.length ac) ∧ Below w.heap.size w w'
theorem Parts.none (mem : Addr → Option Value) {f : Fct} (h1 : f.topics = []) (h2 : f.blocks = []) (h3 : f.lab.after = []) : Parts mem f (.slice none 0 0) (.slice none 0 0) (.slice none 0 0) := by
  unfold Parts
  rw [h1, h2, h3]
  exact ⟨StrsM.nil _, BlksM.nil _, IntsM.nil _⟩
abbrev zeroFct : Array Value := #[.int .i64 0, .int .i64 0, .int .i64 0, .int .i64 0, .string .empty, .int .i64 0, .int .i64 0, .string .empty, .string .empty, .slice none 0 0, .slice none 0 0, .int .i64 0, .slice none 0 0, .int .i64 0, .int .i64 0, .int .i64 0, .int .i64 0, .int .i64 0, .string .empty, .string .empty, .int .i64 0, .int .i64 0, .int .i64 0]

end Go.Proofs.YtgbihmafmmeicaaGreatDoor
namespace Go.Proofs.YtgbihmafmmeicaaGreatDoor
open Go.RowKit Mg Go.Shelf

set_option maxRecDepth 100000 in
set_option maxHeartbeats 2000000 in
theorem used6_any {mem : Addr → Option Value} (f : Fct) (hok : FOK f) (hk : f.kind = 6) (hf : f = usedF f) {ta tc ba bc aa ac} (hp : Parts mem f (.slice ta f.topics.length tc) (.slice ba f.blocks.length bc) (.slice aa f.lab.after.length ac)) (w : World) (hs : Sees mem w) :
    Calls Tryz.prog 85 #[.agg (fctCells f (.slice ta f.topics.length tc) (.slice ba f.blocks.length bc) (.slice aa f.lab.after.length ac))] w (UsedPost mem f w) := by
  obtain ⟨x0, x1, x2, x3, x4, x5, x6, x7, x8, x9, x10, ⟨y1, y2, y3, y4⟩, x12, x13, x14, x15, x16, x17, x18, x19⟩ := f
  dsimp only at hk
  subst hk
  simp [usedF, bare, lab0] at hf
  obtain ⟨rfl, rfl, rfl, rfl, rfl, rfl, rfl, ⟨rfl, rfl, rfl, rfl⟩, rfl, rfl, rfl, rfl, rfl, rfl, rfl, rfl⟩ := hf
  have c1 := fun W => fwithin_any x3 1 64 W
  have c2 : ∀ W, Calls Tryz.prog 84 #[.int .i64 0, .int .i64 1, .int .i64 8] W fun e w' => e = .returned (.bool false) ∧ W = w' := fun W => fwithin_any 0 1 8 W
  have HR : Hid (∀ g : Fct, g.kind = 6 → g.story = x3 → fieldsOK g = inR x3 1 64) := Lib.hid (fun g h1 h2 => by unfold fieldsOK storyOK; simp [h1, h2])
  generalize inR x3 1 64 = q1 at *
  have HP := Lib.hid hp
  have HS := Lib.hid hs
  clear hp hs hok
  dsimp only [List.length_nil] at *
  go_enter Tryz.func85, Tryz.ntmps85
  go_wp2_with (first
    | ((with_reducible refine at_fbuild _ rfl ?_); go_must (refine wpList_fct_build4 rfl _ rfl x0 x1 6 x3 (by simp [Act.eval]) ?_))
    | ((with_reducible refine at_fstore _ _ rfl ?_); go_must (refine wpList_fct_new rfl _ _ rfl rfl _ _ _ (by simp [Act.eval]) (by simp [Act.eval]; rfl) (by rfl) (by rfl) (by simp [Value.oneCell']) ?_)))
  generalize hW : World.alloc (World.alloc (World.alloc w _) _) _ = W1
  have h0 : Hid (FW w _ zeroFct #[.int .i64 x0, .int .i64 x1, .int .i64 6, .int .i64 x3, .string .empty, .int .i64 0, .int .i64 0, .string .empty, .string .empty, .slice none 0 0, .slice none 0 0, .int .i64 0, .slice none 0 0, .int .i64 0, .int .i64 0, .int .i64 0, .int .i64 0, .int .i64 0, .string .empty, .string .empty, .int .i64 0, .int .i64 0, .int .i64 0] W1) := Lib.hid (by rw [← hW]; exact FW.new w _ _ _)
  clear hW
  have d2 := h0.out.ca 2
  have d20 := h0.out.ca 20
  simp only [fctCells, List.getElem?_toArray, List.getElem?_cons_zero, List.getElem?_cons_succ] at d2 d20
  refine (c1 _).mono ?_
  rintro e w' ⟨rfl, rfl⟩
  clear c1
  go_wp2_with fail
  refine (c2 _).mono ?_
  rintro e w' ⟨rfl, rfl⟩
  clear c2
  go_wp2_with (first
    | ((with_reducible refine at_fload _ rfl ?_); go_must (refine wpList_fct_load rfl _ rfl (w.heap.size + 1 + 1) (by simp [Act.eval]) _ h0.out.u (by rfl) ?_))
    | ((with_reducible refine at_fstore _ _ rfl ?_); go_must (refine wpList_store_rowTo rfl 45 _ _ rfl rfl (w.heap.size + 1) _ (by simp [Act.eval]) (by simp [Act.eval]; rfl) 45 _ h0.out.z (by rw [fct_size]; rfl) (by rfl) (by simp [Value.oneCell']) ?_)))
  refine bodyPost_ret (used_results (q := q1) (h0.out.setZ _) (by rfl) (by simp) (by simp)) rfl ?_
  exact ⟨none, 0, none, 0, none, 0, by rw [HR.out _ rfl rfl]; rfl, Parts.none mem rfl rfl rfl, (h0.out.setZ _).b⟩

set_option maxRecDepth 100000 in
set_option maxHeartbeats 2000000 in
theorem used10_any {mem : Addr → Option Value} (f : Fct) (hok : FOK f) (hk : f.kind = 10) (hf : f = usedF f) {ta tc ba bc aa ac} (hp : Parts mem f (.slice ta f.topics.length tc) (.slice ba f.blocks.length bc) (.slice aa f.lab.after.length ac)) (w : World) (hs : Sees mem w) :
    Calls Tryz.prog 85 #[.agg (fctCells f (.slice ta f.topics.length tc) (.slice ba f.blocks.length bc) (.slice aa f.lab.after.length ac))] w (UsedPost mem f w) := by
  obtain ⟨x0, x1, x2, x3, x4, x5, x6, x7, x8, x9, x10, ⟨y1, y2, y3, y4⟩, x12, x13, x14, x15, x16, x17, x18, x19⟩ := f
  dsimp only at hk
  subst hk
  simp [usedF, bare, lab0] at hf
  obtain ⟨rfl, rfl, rfl, rfl, rfl, rfl, rfl, ⟨rfl, rfl, rfl, rfl⟩, rfl, rfl, rfl, rfl, rfl, rfl, rfl, rfl⟩ := hf
  have c1 := fun W => fwithin_any x3 1 64 W
  have c2 : ∀ W, Calls Tryz.prog 84 #[.int .i64 0, .int .i64 1, .int .i64 8] W fun e w' => e = .returned (.bool false) ∧ W = w' := fun W => fwithin_any 0 1 8 W
  have HR : Hid (∀ g : Fct, g.kind = 10 → g.story = x3 → fieldsOK g = inR x3 1 64) := Lib.hid (fun g h1 h2 => by unfold fieldsOK storyOK; simp [h1, h2])
  generalize inR x3 1 64 = q1 at *
  have HP := Lib.hid hp
  have HS := Lib.hid hs
  clear hp hs hok
  dsimp only [List.length_nil] at *
  go_enter Tryz.func85, Tryz.ntmps85
  go_wp2_with (first
    | ((with_reducible refine at_fbuild _ rfl ?_); go_must (refine wpList_fct_build4 rfl _ rfl x0 x1 10 x3 (by simp [Act.eval]) ?_))
    | ((with_reducible refine at_fstore _ _ rfl ?_); go_must (refine wpList_fct_new rfl _ _ rfl rfl _ _ _ (by simp [Act.eval]) (by simp [Act.eval]; rfl) (by rfl) (by rfl) (by simp [Value.oneCell']) ?_)))
  generalize hW : World.alloc (World.alloc (World.alloc w _) _) _ = W1
  have h0 : Hid (FW w _ zeroFct #[.int .i64 x0, .int .i64 x1, .int .i64 10, .int .i64 x3, .string .empty, .int .i64 0, .int .i64 0, .string .empty, .string .empty, .slice none 0 0, .slice none 0 0, .int .i64 0, .slice none 0 0, .int .i64 0, .int .i64 0, .int .i64 0, .int .i64 0, .int .i64 0, .string .empty, .string .empty, .int .i64 0, .int .i64 0, .int .i64 0] W1) := Lib.hid (by rw [← hW]; exact FW.new w _ _ _)
  clear hW
  have d2 := h0.out.ca 2
  have d20 := h0.out.ca 20
  simp only [fctCells, List.getElem?_toArray, List.getElem?_cons_zero, List.getElem?_cons_succ] at d2 d20
  refine (c1 _).mono ?_
  rintro e w' ⟨rfl, rfl⟩
  clear c1
  go_wp2_with fail
  refine (c2 _).mono ?_
  rintro e w' ⟨rfl, rfl⟩
  clear c2
  go_wp2_with (first
    | ((with_reducible refine at_fload _ rfl ?_); go_must (refine wpList_fct_load rfl _ rfl (w.heap.size + 1 + 1) (by simp [Act.eval]) _ h0.out.u (by rfl) ?_))
    | ((with_reducible refine at_fstore _ _ rfl ?_); go_must (refine wpList_store_rowTo rfl 45 _ _ rfl rfl (w.heap.size + 1) _ (by simp [Act.eval]) (by simp [Act.eval]; rfl) 45 _ h0.out.z (by rw [fct_size]; rfl) (by rfl) (by simp [Value.oneCell']) ?_)))
  refine bodyPost_ret (used_results (q := q1) (h0.out.setZ _) (by rfl) (by simp) (by simp)) rfl ?_
  exact ⟨none, 0, none, 0, none, 0, by rw [HR.out _ rfl rfl]; rfl, Parts.none mem rfl rfl rfl, (h0.out.setZ _).b⟩

set_option maxRecDepth 100000 in
set_option maxHeartbeats 2000000 in
theorem used3_any {mem : Addr → Option Value} (f : Fct) (hok : FOK f) (hk : f.kind = 3) (hf : f = usedF f) {ta tc ba bc aa ac} (hp : Parts mem f (.slice ta f.topics.length tc) (.slice ba f.blocks.length bc) (.slice aa f.lab.after.length ac)) (w : World) (hs : Sees mem w) :
    Calls Tryz.prog 85 #[.agg (fctCells f (.slice ta f.topics.length tc) (.slice ba f.blocks.length bc) (.slice aa f.lab.after.length ac))] w (UsedPost mem f w) := by
  obtain ⟨x0, x1, x2, x3, x4, x5, x6, x7, x8, x9, x10, ⟨y1, y2, y3, y4⟩, x12, x13, x14, x15, x16, x17, x18, x19⟩ := f
  dsimp only at hk
  subst hk
  simp [usedF, bare, lab0] at hf
  obtain ⟨rfl, rfl, rfl, rfl, rfl, rfl, rfl, rfl, rfl, rfl, rfl, rfl, rfl, rfl, rfl⟩ := hf
  have c1 := fun W => fwithin_any x3 1 64 W
  have c2 : ∀ W, Calls Tryz.prog 84 #[.int .i64 0, .int .i64 1, .int .i64 8] W fun e w' => e = .returned (.bool false) ∧ W = w' := fun W => fwithin_any 0 1 8 W
  have HR : Hid (∀ g : Fct, g.kind = 3 → g.story = x3 → g.lab = ⟨y1, y2, y3, y4⟩ → fieldsOK g = (inR x3 1 64 && validLab ⟨y1, y2, y3, y4⟩)) := Lib.hid (fun g h1 h2 h3 => by unfold fieldsOK storyOK; simp [h1, h2, h3])
  have c4 := fun W hW => labValid_any ⟨y1, y2, y3, y4⟩ _ hp.2.2 W hW
  generalize inR x3 1 64 = q1 at *
  generalize validLab ⟨y1, y2, y3, y4⟩ = q4 at *
  have HP := Lib.hid hp
  have HS := Lib.hid hs
  clear hp hs hok
  dsimp only [List.length_nil] at *
  go_enter Tryz.func85, Tryz.ntmps85
  go_wp2_with (first
    | ((with_reducible refine at_fbuild _ rfl ?_); go_must (refine wpList_fct_build4 rfl _ rfl x0 x1 3 x3 (by simp [Act.eval]) ?_))
    | ((with_reducible refine at_fstore _ _ rfl ?_); go_must (refine wpList_fct_new rfl _ _ rfl rfl _ _ _ (by simp [Act.eval]) (by simp [Act.eval]; rfl) (by rfl) (by rfl) (by simp [Value.oneCell']) ?_)))
  generalize hW : World.alloc (World.alloc (World.alloc w _) _) _ = W1
  have h0 : Hid (FW w _ zeroFct #[.int .i64 x0, .int .i64 x1, .int .i64 3, .int .i64 x3, .string .empty, .int .i64 0, .int .i64 0, .string .empty, .string .empty, .slice none 0 0, .slice none 0 0, .int .i64 0, .slice none 0 0, .int .i64 0, .int .i64 0, .int .i64 0, .int .i64 0, .int .i64 0, .string .empty, .string .empty, .int .i64 0, .int .i64 0, .int .i64 0] W1) := Lib.hid (by rw [← hW]; exact FW.new w _ _ _)
  clear hW
  have d2 := h0.out.ca 2
  have d11 := h0.out.ca 11
  have d12 := h0.out.ca 12
  have d13 := h0.out.ca 13
  have d14 := h0.out.ca 14
  have d20 := h0.out.ca 20
  simp only [fctCells, List.getElem?_toArray, List.getElem?_cons_zero, List.getElem?_cons_succ] at d2 d11 d12 d13 d14 d20
  have e11 := h0.out.cu 11
  have g11 := h0.out.fu 11
  have e12 := h0.out.cu 12
  have g12 := h0.out.fu 12
  have e13 := h0.out.cu 13
  have g13 := h0.out.fu 13
  have e14 := h0.out.cu 14
  have g14 := h0.out.fu 14
  simp only [List.getElem?_toArray, List.getElem?_cons_zero, List.getElem?_cons_succ] at e11 e12 e13 e14
  refine (c1 _).mono ?_
  rintro e w' ⟨rfl, rfl⟩
  clear c1
  go_wp2_with fail
  refine (c2 _).mono ?_
  rintro e w' ⟨rfl, rfl⟩
  clear c2
  go_wp2_with fail
  generalize hW2 : (World.setCell (World.setCell (World.setCell (World.setCell W1 _ _) _ _) _ _) _ _) = W2
  have h1 : Hid (FW w _ zeroFct #[.int .i64 x0, .int .i64 x1, .int .i64 3, .int .i64 x3, .string .empty, .int .i64 0, .int .i64 0, .string .empty, .string .empty, .slice none 0 0, .slice none 0 0, .int .i64 y1, .slice aa y2.length ac, .int .i64 y3, .int .i64 y4, .int .i64 0, .int .i64 0, .int .i64 0, .string .empty, .string .empty, .int .i64 0, .int .i64 0, .int .i64 0] W2) := Lib.hid (by rw [← hW2]; exact ((((h0.out).setU 11 _).setU 12 _).setU 13 _).setU 14 _)
  clear hW2 e11 g11 e12 g12 e13 g13 e14 g14
  clear d2 d11 d12 d13 d14 d20
  obtain ⟨U, HU⟩ : ∃ U : Array Value, Hid (U = #[.int .i64 x0, .int .i64 x1, .int .i64 3, .int .i64 x3, .string .empty, .int .i64 0, .int .i64 0, .string .empty, .string .empty, .slice none 0 0, .slice none 0 0, .int .i64 y1, .slice aa y2.length ac, .int .i64 y3, .int .i64 y4, .int .i64 0, .int .i64 0, .int .i64 0, .string .empty, .string .empty, .int .i64 0, .int .i64 0, .int .i64 0]) := ⟨_, Lib.hid rfl⟩
  have h2 : Hid (FW w _ zeroFct U W2) := Lib.hid (by rw [HU.out]; exact h1.out)
  clear h0 h1
  have hz : Hid (U.size = 23) := Lib.hid (by rw [HU.out]; rfl)
  have hone : Hid (U.all (·.oneCell') = true) := Lib.hid (by rw [HU.out]; simp [Value.oneCell'])
  refine wp_mix [mT, mF, mF, mF, mF, mF, mT, mF, mF] 1000 (fun W' => W'.heap[w.heap.size + 1 + 1]? = some (.cells U 45 (0, 0))) (by kernel_rfl) (by kernel_rfl) h2.out.drew.u ?_
  refine wpMix_take (.agg U) (fun _ _ _ _ h => h) h2.out.drew.u (by rfl) (fun W hW => exec_fct_load _ rfl (by simp [Act.eval]) hW hz.out) ?_
  simp only [Act.put, List.setIfInBounds_toArray, List.set_cons_zero, List.set_cons_succ]
  have hSd := Lib.hid h2.out.drew
  cases q1
  · iterate 5 (refine wpMix_step (fun K hK => ?_); go_simp; refine hK _ _ hSd.out.u ?_; clear hK K)
    refine wpMix_take (.bool false) (fun _ _ _ _ h => h) hSd.out.u (by rfl) (fun W hW => by go_simp) ?_
    refine wpMix_step (fun K hK => ?_)
    rw [if_pos (by rfl)]
    refine wp_fct_store _ _ rfl (by simp [Act.eval, Act.put]) (by simp [Act.eval, Act.put]) hSd.out.z (by rfl) hz.out hone.out ?_
    refine hK _ _ (hSd.out.setZ _).u ?_
    clear hK K
    refine wpMix_step (fun K hK => ?_); go_simp; refine hK _ _ (hSd.out.setZ _).u ?_; clear hK K
    refine wpMix_nil ?_
    go_wp2_with fail
    refine bodyPost_ret (used_results (q := false) (hSd.out.setZ _) hz.out (by simp) (by simp)) rfl ?_
    exact ⟨none, 0, none, 0, aa, ac, by rw [HR.out _ rfl rfl rfl, HU.out]; rfl, ⟨StrsM.nil _, BlksM.nil _, HP.out.2.2⟩, (hSd.out.setZ _).b⟩
  · have d11 := h2.out.ca 11
    have d12 := h2.out.ca 12
    have d13 := h2.out.ca 13
    have d14 := h2.out.ca 14
    simp only [fctCells, List.getElem?_toArray, List.getElem?_cons_zero, List.getElem?_cons_succ] at d11 d12 d13 d14
    iterate 4 (refine wpMix_step (fun K hK => ?_); go_simp; refine hK _ _ hSd.out.u ?_; clear hK K)
    clear d11 d12 d13 d14
    refine wpMix_step (fun K hK => ?_)
    go_simp
    refine (c4 _ (HS.out.bel hSd.out.b)).mono ?_
    rintro e w' ⟨rfl, hb⟩
    have h3 := Lib.hid (hSd.out.bel hb)
    clear hb
    dsimp only
    refine hK _ _ h3.out.u ?_
    clear hK K
    refine wpMix_take (.bool q4) (fun _ _ _ _ h => h) h3.out.u (by rfl) (fun W hW => by go_simp) ?_
    refine wpMix_step (fun K hK => ?_)
    rw [if_pos (by rfl)]
    refine wp_fct_store _ _ rfl (by simp [Act.eval, Act.put]) (by simp [Act.eval, Act.put]) h3.out.z (by rfl) hz.out hone.out ?_
    refine hK _ _ (h3.out.setZ _).u ?_
    clear hK K
    refine wpMix_step (fun K hK => ?_); go_simp; refine hK _ _ (h3.out.setZ _).u ?_; clear hK K
    refine wpMix_nil ?_
    go_wp2_with fail
    refine bodyPost_ret (used_results (q := q4) (h3.out.setZ _) hz.out (by simp) (by simp)) rfl ?_
    exact ⟨none, 0, none, 0, aa, ac, by rw [HR.out _ rfl rfl rfl, HU.out]; rfl, ⟨StrsM.nil _, BlksM.nil _, HP.out.2.2⟩, (h3.out.setZ _).b⟩

set_option maxRecDepth 100000 in
set_option maxHeartbeats 2000000 in
theorem used2_any {mem : Addr → Option Value} (f : Fct) (hok : FOK f) (hk : f.kind = 2) (hf : f = usedF f) {ta tc ba bc aa ac} (hp : Parts mem f (.slice ta f.topics.length tc) (.slice ba f.blocks.length bc) (.slice aa f.lab.after.length ac)) (w : World) (hs : Sees mem w) :
    Calls Tryz.prog 85 #[.agg (fctCells f (.slice ta f.topics.length tc) (.slice ba f.blocks.length bc) (.slice aa f.lab.after.length ac))] w (UsedPost mem f w) := by
  obtain ⟨x0, x1, x2, x3, x4, x5, x6, x7, x8, x9, x10, ⟨y1, y2, y3, y4⟩, x12, x13, x14, x15, x16, x17, x18, x19⟩ := f
  dsimp only at hk
  subst hk
  simp [usedF, bare, lab0] at hf
  obtain ⟨rfl, rfl, rfl, rfl, rfl, rfl, rfl, ⟨rfl, rfl, rfl, rfl⟩, rfl, rfl, rfl, rfl, rfl, rfl, rfl⟩ := hf
  have c1 := fun W => fwithin_any x3 1 64 W
  have c2 : ∀ W, Calls Tryz.prog 84 #[.int .i64 0, .int .i64 1, .int .i64 8] W fun e w' => e = .returned (.bool false) ∧ W = w' := fun W => fwithin_any 0 1 8 W
  have HR : Hid (∀ g : Fct, g.kind = 2 → g.story = x3 → g.editor = x12 → fieldsOK g = (inR x3 1 64 && inR x12 1 5)) := Lib.hid (fun g h1 h2 h3 => by unfold fieldsOK storyOK; simp [h1, h2, h3])
  have c4 := fun W => fwithin_any x12 1 5 W
  generalize inR x3 1 64 = q1 at *
  generalize inR x12 1 5 = q4 at *
  have HP := Lib.hid hp
  have HS := Lib.hid hs
  clear hp hs hok
  dsimp only [List.length_nil] at *
  go_enter Tryz.func85, Tryz.ntmps85
  go_wp2_with (first
    | ((with_reducible refine at_fbuild _ rfl ?_); go_must (refine wpList_fct_build4 rfl _ rfl x0 x1 2 x3 (by simp [Act.eval]) ?_))
    | ((with_reducible refine at_fstore _ _ rfl ?_); go_must (refine wpList_fct_new rfl _ _ rfl rfl _ _ _ (by simp [Act.eval]) (by simp [Act.eval]; rfl) (by rfl) (by rfl) (by simp [Value.oneCell']) ?_)))
  generalize hW : World.alloc (World.alloc (World.alloc w _) _) _ = W1
  have h0 : Hid (FW w _ zeroFct #[.int .i64 x0, .int .i64 x1, .int .i64 2, .int .i64 x3, .string .empty, .int .i64 0, .int .i64 0, .string .empty, .string .empty, .slice none 0 0, .slice none 0 0, .int .i64 0, .slice none 0 0, .int .i64 0, .int .i64 0, .int .i64 0, .int .i64 0, .int .i64 0, .string .empty, .string .empty, .int .i64 0, .int .i64 0, .int .i64 0] W1) := Lib.hid (by rw [← hW]; exact FW.new w _ _ _)
  clear hW
  have d2 := h0.out.ca 2
  have d15 := h0.out.ca 15
  have d20 := h0.out.ca 20
  simp only [fctCells, List.getElem?_toArray, List.getElem?_cons_zero, List.getElem?_cons_succ] at d2 d15 d20
  have e15 := h0.out.cu 15
  have g15 := h0.out.fu 15
  simp only [List.getElem?_toArray, List.getElem?_cons_zero, List.getElem?_cons_succ] at e15
  refine (c1 _).mono ?_
  rintro e w' ⟨rfl, rfl⟩
  clear c1
  go_wp2_with fail
  refine (c2 _).mono ?_
  rintro e w' ⟨rfl, rfl⟩
  clear c2
  go_wp2_with fail
  generalize hW2 : (World.setCell W1 _ _) = W2
  have h1 : Hid (FW w _ zeroFct #[.int .i64 x0, .int .i64 x1, .int .i64 2, .int .i64 x3, .string .empty, .int .i64 0, .int .i64 0, .string .empty, .string .empty, .slice none 0 0, .slice none 0 0, .int .i64 0, .slice none 0 0, .int .i64 0, .int .i64 0, .int .i64 x12, .int .i64 0, .int .i64 0, .string .empty, .string .empty, .int .i64 0, .int .i64 0, .int .i64 0] W2) := Lib.hid (by rw [← hW2]; exact (h0.out).setU 15 _)
  clear hW2 e15 g15
  clear d2 d15 d20
  obtain ⟨U, HU⟩ : ∃ U : Array Value, Hid (U = #[.int .i64 x0, .int .i64 x1, .int .i64 2, .int .i64 x3, .string .empty, .int .i64 0, .int .i64 0, .string .empty, .string .empty, .slice none 0 0, .slice none 0 0, .int .i64 0, .slice none 0 0, .int .i64 0, .int .i64 0, .int .i64 x12, .int .i64 0, .int .i64 0, .string .empty, .string .empty, .int .i64 0, .int .i64 0, .int .i64 0]) := ⟨_, Lib.hid rfl⟩
  have h2 : Hid (FW w _ zeroFct U W2) := Lib.hid (by rw [HU.out]; exact h1.out)
  clear h0 h1
  have hz : Hid (U.size = 23) := Lib.hid (by rw [HU.out]; rfl)
  have hone : Hid (U.all (·.oneCell') = true) := Lib.hid (by rw [HU.out]; simp [Value.oneCell'])
  refine wp_mix [mT, mF, mF, mF, mF, mF, mT, mF, mF] 1000 (fun W' => W'.heap[w.heap.size + 1 + 1]? = some (.cells U 45 (0, 0))) (by kernel_rfl) (by kernel_rfl) h2.out.drew.u ?_
  refine wpMix_take (.agg U) (fun _ _ _ _ h => h) h2.out.drew.u (by rfl) (fun W hW => exec_fct_load _ rfl (by simp [Act.eval]) hW hz.out) ?_
  simp only [Act.put, List.setIfInBounds_toArray, List.set_cons_zero, List.set_cons_succ]
  have hSd := Lib.hid h2.out.drew
  cases q1
  · iterate 5 (refine wpMix_step (fun K hK => ?_); go_simp; refine hK _ _ hSd.out.u ?_; clear hK K)
    refine wpMix_take (.bool false) (fun _ _ _ _ h => h) hSd.out.u (by rfl) (fun W hW => by go_simp) ?_
    refine wpMix_step (fun K hK => ?_)
    rw [if_pos (by rfl)]
    refine wp_fct_store _ _ rfl (by simp [Act.eval, Act.put]) (by simp [Act.eval, Act.put]) hSd.out.z (by rfl) hz.out hone.out ?_
    refine hK _ _ (hSd.out.setZ _).u ?_
    clear hK K
    refine wpMix_step (fun K hK => ?_); go_simp; refine hK _ _ (hSd.out.setZ _).u ?_; clear hK K
    refine wpMix_nil ?_
    go_wp2_with fail
    refine bodyPost_ret (used_results (q := false) (hSd.out.setZ _) hz.out (by simp) (by simp)) rfl ?_
    exact ⟨none, 0, none, 0, none, 0, by rw [HR.out _ rfl rfl rfl, HU.out]; rfl, Parts.none mem rfl rfl rfl, (hSd.out.setZ _).b⟩
  · have d15 := h2.out.ca 15
    simp only [fctCells, List.getElem?_toArray, List.getElem?_cons_zero, List.getElem?_cons_succ] at d15
    iterate 4 (refine wpMix_step (fun K hK => ?_); go_simp; refine hK _ _ hSd.out.u ?_; clear hK K)
    clear d15
    refine wpMix_step (fun K hK => ?_)
    go_simp
    refine (c4 _).mono ?_
    rintro e w' ⟨rfl, rfl⟩
    dsimp only
    refine hK _ _ hSd.out.u ?_
    clear hK K
    refine wpMix_take (.bool q4) (fun _ _ _ _ h => h) hSd.out.u (by rfl) (fun W hW => by go_simp) ?_
    refine wpMix_step (fun K hK => ?_)
    rw [if_pos (by rfl)]
    refine wp_fct_store _ _ rfl (by simp [Act.eval, Act.put]) (by simp [Act.eval, Act.put]) hSd.out.z (by rfl) hz.out hone.out ?_
    refine hK _ _ (hSd.out.setZ _).u ?_
    clear hK K
    refine wpMix_step (fun K hK => ?_); go_simp; refine hK _ _ (hSd.out.setZ _).u ?_; clear hK K
    refine wpMix_nil ?_
    go_wp2_with fail
    refine bodyPost_ret (used_results (q := q4) (hSd.out.setZ _) hz.out (by simp) (by simp)) rfl ?_
    exact ⟨none, 0, none, 0, none, 0, by rw [HR.out _ rfl rfl rfl, HU.out]; rfl, Parts.none mem rfl rfl rfl, (hSd.out.setZ _).b⟩

set_option maxRecDepth 100000 in
set_option maxHeartbeats 2000000 in
theorem used5_any {mem : Addr → Option Value} (f : Fct) (hok : FOK f) (hk : f.kind = 5) (hf : f = usedF f) {ta tc ba bc aa ac} (hp : Parts mem f (.slice ta f.topics.length tc) (.slice ba f.blocks.length bc) (.slice aa f.lab.after.length ac)) (w : World) (hs : Sees mem w) :
    Calls Tryz.prog 85 #[.agg (fctCells f (.slice ta f.topics.length tc) (.slice ba f.blocks.length bc) (.slice aa f.lab.after.length ac))] w (UsedPost mem f w) := by
  obtain ⟨x0, x1, x2, x3, x4, x5, x6, x7, x8, x9, x10, ⟨y1, y2, y3, y4⟩, x12, x13, x14, x15, x16, x17, x18, x19⟩ := f
  dsimp only at hk
  subst hk
  simp [usedF, bare, lab0] at hf
  obtain ⟨rfl, rfl, rfl, rfl, rfl, rfl, rfl, ⟨rfl, rfl, rfl, rfl⟩, rfl, rfl, rfl, rfl, rfl, rfl, rfl⟩ := hf
  have c1 := fun W => fwithin_any x3 1 64 W
  have c2 : ∀ W, Calls Tryz.prog 84 #[.int .i64 0, .int .i64 1, .int .i64 8] W fun e w' => e = .returned (.bool false) ∧ W = w' := fun W => fwithin_any 0 1 8 W
  have HR : Hid (∀ g : Fct, g.kind = 5 → g.story = x3 → g.text = x15 → fieldsOK g = (inR x3 1 64 && fullOK x15)) := Lib.hid (fun g h1 h2 h3 => by unfold fieldsOK storyOK; simp [h1, h2, h3])
  have c4 := fun W => fisText_any x15 W hok.s18
  generalize inR x3 1 64 = q1 at *
  generalize fullOK x15 = q4 at *
  have HP := Lib.hid hp
  have HS := Lib.hid hs
  clear hp hs hok
  dsimp only [List.length_nil] at *
  go_enter Tryz.func85, Tryz.ntmps85
  go_wp2_with (first
    | ((with_reducible refine at_fbuild _ rfl ?_); go_must (refine wpList_fct_build4 rfl _ rfl x0 x1 5 x3 (by simp [Act.eval]) ?_))
    | ((with_reducible refine at_fstore _ _ rfl ?_); go_must (refine wpList_fct_new rfl _ _ rfl rfl _ _ _ (by simp [Act.eval]) (by simp [Act.eval]; rfl) (by rfl) (by rfl) (by simp [Value.oneCell']) ?_)))
  generalize hW : World.alloc (World.alloc (World.alloc w _) _) _ = W1
  have h0 : Hid (FW w _ zeroFct #[.int .i64 x0, .int .i64 x1, .int .i64 5, .int .i64 x3, .string .empty, .int .i64 0, .int .i64 0, .string .empty, .string .empty, .slice none 0 0, .slice none 0 0, .int .i64 0, .slice none 0 0, .int .i64 0, .int .i64 0, .int .i64 0, .int .i64 0, .int .i64 0, .string .empty, .string .empty, .int .i64 0, .int .i64 0, .int .i64 0] W1) := Lib.hid (by rw [← hW]; exact FW.new w _ _ _)
  clear hW
  have d2 := h0.out.ca 2
  have d18 := h0.out.ca 18
  have d20 := h0.out.ca 20
  simp only [fctCells, List.getElem?_toArray, List.getElem?_cons_zero, List.getElem?_cons_succ] at d2 d18 d20
  have e18 := h0.out.cu 18
  have g18 := h0.out.fu 18
  simp only [List.getElem?_toArray, List.getElem?_cons_zero, List.getElem?_cons_succ] at e18
  refine (c1 _).mono ?_
  rintro e w' ⟨rfl, rfl⟩
  clear c1
  go_wp2_with fail
  refine (c2 _).mono ?_
  rintro e w' ⟨rfl, rfl⟩
  clear c2
  go_wp2_with fail
  generalize hW2 : (World.setCell W1 _ _) = W2
  have h1 : Hid (FW w _ zeroFct #[.int .i64 x0, .int .i64 x1, .int .i64 5, .int .i64 x3, .string .empty, .int .i64 0, .int .i64 0, .string .empty, .string .empty, .slice none 0 0, .slice none 0 0, .int .i64 0, .slice none 0 0, .int .i64 0, .int .i64 0, .int .i64 0, .int .i64 0, .int .i64 0, .string x15, .string .empty, .int .i64 0, .int .i64 0, .int .i64 0] W2) := Lib.hid (by rw [← hW2]; exact (h0.out).setU 18 _)
  clear hW2 e18 g18
  clear d2 d18 d20
  obtain ⟨U, HU⟩ : ∃ U : Array Value, Hid (U = #[.int .i64 x0, .int .i64 x1, .int .i64 5, .int .i64 x3, .string .empty, .int .i64 0, .int .i64 0, .string .empty, .string .empty, .slice none 0 0, .slice none 0 0, .int .i64 0, .slice none 0 0, .int .i64 0, .int .i64 0, .int .i64 0, .int .i64 0, .int .i64 0, .string x15, .string .empty, .int .i64 0, .int .i64 0, .int .i64 0]) := ⟨_, Lib.hid rfl⟩
  have h2 : Hid (FW w _ zeroFct U W2) := Lib.hid (by rw [HU.out]; exact h1.out)
  clear h0 h1
  have hz : Hid (U.size = 23) := Lib.hid (by rw [HU.out]; rfl)
  have hone : Hid (U.all (·.oneCell') = true) := Lib.hid (by rw [HU.out]; simp [Value.oneCell'])
  refine wp_mix [mT, mF, mF, mF, mF, mF, mT, mF, mF] 1000 (fun W' => W'.heap[w.heap.size + 1 + 1]? = some (.cells U 45 (0, 0))) (by kernel_rfl) (by kernel_rfl) h2.out.drew.u ?_
  refine wpMix_take (.agg U) (fun _ _ _ _ h => h) h2.out.drew.u (by rfl) (fun W hW => exec_fct_load _ rfl (by simp [Act.eval]) hW hz.out) ?_
  simp only [Act.put, List.setIfInBounds_toArray, List.set_cons_zero, List.set_cons_succ]
  have hSd := Lib.hid h2.out.drew
  cases q1
  · iterate 5 (refine wpMix_step (fun K hK => ?_); go_simp; refine hK _ _ hSd.out.u ?_; clear hK K)
    refine wpMix_take (.bool false) (fun _ _ _ _ h => h) hSd.out.u (by rfl) (fun W hW => by go_simp) ?_
    refine wpMix_step (fun K hK => ?_)
    rw [if_pos (by rfl)]
    refine wp_fct_store _ _ rfl (by simp [Act.eval, Act.put]) (by simp [Act.eval, Act.put]) hSd.out.z (by rfl) hz.out hone.out ?_
    refine hK _ _ (hSd.out.setZ _).u ?_
    clear hK K
    refine wpMix_step (fun K hK => ?_); go_simp; refine hK _ _ (hSd.out.setZ _).u ?_; clear hK K
    refine wpMix_nil ?_
    go_wp2_with fail
    refine bodyPost_ret (used_results (q := false) (hSd.out.setZ _) hz.out (by simp) (by simp)) rfl ?_
    exact ⟨none, 0, none, 0, none, 0, by rw [HR.out _ rfl rfl rfl, HU.out]; rfl, Parts.none mem rfl rfl rfl, (hSd.out.setZ _).b⟩
  · have d18 := h2.out.ca 18
    simp only [fctCells, List.getElem?_toArray, List.getElem?_cons_zero, List.getElem?_cons_succ] at d18
    iterate 4 (refine wpMix_step (fun K hK => ?_); go_simp; refine hK _ _ hSd.out.u ?_; clear hK K)
    clear d18
    refine wpMix_step (fun K hK => ?_)
    go_simp
    refine (c4 _).mono ?_
    rintro e w' ⟨rfl, rfl⟩
    dsimp only
    refine hK _ _ hSd.out.u ?_
    clear hK K
    refine wpMix_take (.bool q4) (fun _ _ _ _ h => h) hSd.out.u (by rfl) (fun W hW => by go_simp) ?_
    refine wpMix_step (fun K hK => ?_)
    rw [if_pos (by rfl)]
    refine wp_fct_store _ _ rfl (by simp [Act.eval, Act.put]) (by simp [Act.eval, Act.put]) hSd.out.z (by rfl) hz.out hone.out ?_
    refine hK _ _ (hSd.out.setZ _).u ?_
    clear hK K
    refine wpMix_step (fun K hK => ?_); go_simp; refine hK _ _ (hSd.out.setZ _).u ?_; clear hK K
    refine wpMix_nil ?_
    go_wp2_with fail
    refine bodyPost_ret (used_results (q := q4) (hSd.out.setZ _) hz.out (by simp) (by simp)) rfl ?_
    exact ⟨none, 0, none, 0, none, 0, by rw [HR.out _ rfl rfl rfl, HU.out]; rfl, Parts.none mem rfl rfl rfl, (hSd.out.setZ _).b⟩

end Go.Proofs.YtgbihmafmmeicaaGreatDoor
namespace Go.Proofs.YtgbihmafmmeicaaGreatDoor
open Go.RowKit Mg Go.Shelf

set_option maxRecDepth 100000 in
set_option maxHeartbeats 2000000 in
theorem used7_any {mem : Addr → Option Value} (f : Fct) (hok : FOK f) (hk : f.kind = 7) (hf : f = usedF f) {ta tc ba bc aa ac} (hp : Parts mem f (.slice ta f.topics.length tc) (.slice ba f.blocks.length bc) (.slice aa f.lab.after.length ac)) (w : World) (hs : Sees mem w) :
    Calls Tryz.prog 85 #[.agg (fctCells f (.slice ta f.topics.length tc) (.slice ba f.blocks.length bc) (.slice aa f.lab.after.length ac))] w (UsedPost mem f w) := by
  obtain ⟨x0, x1, x2, x3, x4, x5, x6, x7, x8, x9, x10, ⟨y1, y2, y3, y4⟩, x12, x13, x14, x15, x16, x17, x18, x19⟩ := f
  dsimp only at hk
  subst hk
  simp [usedF, bare, lab0] at hf
  obtain ⟨rfl, rfl, rfl, rfl, rfl, rfl, rfl, rfl, ⟨rfl, rfl, rfl, rfl⟩, rfl, rfl, rfl, rfl, rfl, rfl⟩ := hf
  have c1 : ∀ W, Calls Tryz.prog 84 #[.int .i64 0, .int .i64 1, .int .i64 64] W fun e w' => e = .returned (.bool false) ∧ W = w' := fun W => fwithin_any 0 1 64 W
  have c2 : ∀ W, Calls Tryz.prog 84 #[.int .i64 0, .int .i64 1, .int .i64 8] W fun e w' => e = .returned (.bool false) ∧ W = w' := fun W => fwithin_any 0 1 8 W
  have HR : Hid (∀ g : Fct, g.kind = 7 → g.name = x16 → g.text = x15 → fieldsOK g = (nameOK x16 && srcOK x15)) := Lib.hid (fun g h1 h2 h3 => by unfold fieldsOK; simp [h1, h2, h3])
  have c4 := fun W => fisName_any x16 W hok.s19
  have c5 := fun W => fisSource_any x15 W hok.s18
  generalize nameOK x16 = q1 at *
  generalize srcOK x15 = q4 at *
  have HP := Lib.hid hp
  have HS := Lib.hid hs
  clear hp hs hok
  dsimp only [List.length_nil] at *
  go_enter Tryz.func85, Tryz.ntmps85
  go_wp2_with (first
    | ((with_reducible refine at_fbuild _ rfl ?_); go_must (refine wpList_fct_build4 rfl _ rfl x0 x1 7 0 (by simp [Act.eval]) ?_))
    | ((with_reducible refine at_fstore _ _ rfl ?_); go_must (refine wpList_fct_new rfl _ _ rfl rfl _ _ _ (by simp [Act.eval]) (by simp [Act.eval]; rfl) (by rfl) (by rfl) (by simp [Value.oneCell']) ?_)))
  generalize hW : World.alloc (World.alloc (World.alloc w _) _) _ = W1
  have h0 : Hid (FW w _ zeroFct #[.int .i64 x0, .int .i64 x1, .int .i64 7, .int .i64 0, .string .empty, .int .i64 0, .int .i64 0, .string .empty, .string .empty, .slice none 0 0, .slice none 0 0, .int .i64 0, .slice none 0 0, .int .i64 0, .int .i64 0, .int .i64 0, .int .i64 0, .int .i64 0, .string .empty, .string .empty, .int .i64 0, .int .i64 0, .int .i64 0] W1) := Lib.hid (by rw [← hW]; exact FW.new w _ _ _)
  clear hW
  have d2 := h0.out.ca 2
  have d20 := h0.out.ca 20
  simp only [fctCells, List.getElem?_toArray, List.getElem?_cons_zero, List.getElem?_cons_succ] at d2 d20
  refine (c1 _).mono ?_
  rintro e w' ⟨rfl, rfl⟩
  clear c1
  go_wp2_with fail
  refine (c2 _).mono ?_
  rintro e w' ⟨rfl, rfl⟩
  clear c2
  go_wp2_with fail
  clear d2 d20
  refine wp_mix [mT, mT, mT, mT, mF, mF, mF, mF, mF, mF] 1000 (fun W' => W'.heap[w.heap.size]? = some (.cells _ 45 (0, 0))) (by kernel_rfl) (by kernel_rfl) h0.out.drew.a ?_
  refine wpMix_take (.pointer (some ⟨w.heap.size, 19, none⟩)) (fun _ _ _ _ h => h) h0.out.drew.a (by rfl) (fun W hW => by go_simp) ?_
  simp only [Act.put, List.setIfInBounds_toArray, List.set_cons_zero, List.set_cons_succ]
  refine wpMix_take (.string x16) (fun _ _ _ _ h => h) h0.out.drew.a (by rfl) (fun W hW => by
    have k19 := blk_cell hW 19
    simp only [fctCells, List.getElem?_toArray, List.getElem?_cons_zero, List.getElem?_cons_succ] at k19
    go_simp) ?_
  simp only [Act.put, List.setIfInBounds_toArray, List.set_cons_zero, List.set_cons_succ]
  refine wpMix_take (.pointer (some ⟨w.heap.size, 18, none⟩)) (fun _ _ _ _ h => h) h0.out.drew.a (by rfl) (fun W hW => by go_simp) ?_
  simp only [Act.put, List.setIfInBounds_toArray, List.set_cons_zero, List.set_cons_succ]
  refine wpMix_take (.string x15) (fun _ _ _ _ h => h) h0.out.drew.a (by rfl) (fun W hW => by
    have k18 := blk_cell hW 18
    simp only [fctCells, List.getElem?_toArray, List.getElem?_cons_zero, List.getElem?_cons_succ] at k18
    go_simp) ?_
  simp only [Act.put, List.setIfInBounds_toArray, List.set_cons_zero, List.set_cons_succ]
  have e3 := h0.out.cu 3
  have g3 := h0.out.fu 3
  have e19 := h0.out.cu 19
  have g19 := h0.out.fu 19
  have e18 := h0.out.cu 18
  have g18 := h0.out.fu 18
  simp only [List.getElem?_toArray, List.getElem?_cons_zero, List.getElem?_cons_succ] at e3 e19 e18
  iterate 1 (refine wpMix_step (fun K hK => ?_); go_simp; refine hK _ _ h0.out.drew.a ?_; clear hK K)
  iterate 1 (refine wpMix_step (fun K hK => ?_); go_simp; refine hK _ _ (h0.out.setU 3 (.int .i64 0)).drew.a ?_; clear hK K)
  iterate 1 (refine wpMix_step (fun K hK => ?_); go_simp; refine hK _ _ (h0.out.setU 3 (.int .i64 0)).drew.a ?_; clear hK K)
  iterate 1 (refine wpMix_step (fun K hK => ?_); go_simp; refine hK _ _ ((h0.out.setU 3 (.int .i64 0)).setU 19 (.string x16)).drew.a ?_; clear hK K)
  iterate 1 (refine wpMix_step (fun K hK => ?_); go_simp; refine hK _ _ ((h0.out.setU 3 (.int .i64 0)).setU 19 (.string x16)).drew.a ?_; clear hK K)
  iterate 1 (refine wpMix_step (fun K hK => ?_); go_simp; refine hK _ _ (((h0.out.setU 3 (.int .i64 0)).setU 19 (.string x16)).setU 18 (.string x15)).drew.a ?_; clear hK K)
  clear e3 g3 e19 g19 e18 g18
  refine wpMix_nil ?_
  go_wp2_with fail
  generalize hW2 : World.drew (World.setCell (World.setCell (World.setCell W1 _ _) _ _) _ _) = W2
  have h1 : Hid (FW w _ zeroFct #[.int .i64 x0, .int .i64 x1, .int .i64 7, .int .i64 0, .string .empty, .int .i64 0, .int .i64 0, .string .empty, .string .empty, .slice none 0 0, .slice none 0 0, .int .i64 0, .slice none 0 0, .int .i64 0, .int .i64 0, .int .i64 0, .int .i64 0, .int .i64 0, .string x15, .string x16, .int .i64 0, .int .i64 0, .int .i64 0] W2) := Lib.hid (by rw [← hW2]; exact (((h0.out.setU 3 (.int .i64 0)).setU 19 (.string x16)).setU 18 (.string x15)).drew)
  clear hW2 h0
  obtain ⟨U, HU⟩ : ∃ U : Array Value, Hid (U = #[.int .i64 x0, .int .i64 x1, .int .i64 7, .int .i64 0, .string .empty, .int .i64 0, .int .i64 0, .string .empty, .string .empty, .slice none 0 0, .slice none 0 0, .int .i64 0, .slice none 0 0, .int .i64 0, .int .i64 0, .int .i64 0, .int .i64 0, .int .i64 0, .string x15, .string x16, .int .i64 0, .int .i64 0, .int .i64 0]) := ⟨_, Lib.hid rfl⟩
  have h2 : Hid (FW w _ zeroFct U W2) := Lib.hid (by rw [HU.out]; exact h1.out)
  clear h1
  have hz : Hid (U.size = 23) := Lib.hid (by rw [HU.out]; rfl)
  have hone : Hid (U.all (·.oneCell') = true) := Lib.hid (by rw [HU.out]; simp [Value.oneCell'])
  refine wp_mix [mT, mF, mF, mF, mF, mF, mF, mF, mT, mF, mF] 1000 (fun W' => W'.heap[w.heap.size + 1 + 1]? = some (.cells U 45 (0, 0))) (by kernel_rfl) (by kernel_rfl) h2.out.drew.u ?_
  refine wpMix_take (.agg U) (fun _ _ _ _ h => h) h2.out.drew.u (by rfl) (fun W hW => exec_fct_load _ rfl (by simp [Act.eval]) hW hz.out) ?_
  simp only [Act.put, List.setIfInBounds_toArray, List.set_cons_zero, List.set_cons_succ]
  have hSd := Lib.hid h2.out.drew
  have d18 := h2.out.ca 18
  have d19 := h2.out.ca 19
  simp only [fctCells, List.getElem?_toArray, List.getElem?_cons_zero, List.getElem?_cons_succ] at d18 d19
  iterate 2 (refine wpMix_step (fun K hK => ?_); go_simp; refine hK _ _ hSd.out.u ?_; clear hK K)
  refine wpMix_step (fun K hK => ?_)
  go_simp
  refine (c4 _).mono ?_
  rintro e w' ⟨rfl, rfl⟩
  dsimp only
  refine hK _ _ hSd.out.u ?_
  clear hK K
  iterate 1 (refine wpMix_step (fun K hK => ?_); go_simp; refine hK _ _ hSd.out.u ?_; clear hK K)
  cases q1
  · iterate 3 (refine wpMix_step (fun K hK => ?_); go_simp; refine hK _ _ hSd.out.u ?_; clear hK K)
    refine wpMix_take (.bool false) (fun _ _ _ _ h => h) hSd.out.u (by rfl) (fun W hW => by go_simp) ?_
    refine wpMix_step (fun K hK => ?_)
    rw [if_pos (by rfl)]
    refine wp_fct_store _ _ rfl (by first | (simp [Act.eval]; done) | simp [Act.eval, Act.put]) (by first | (simp [Act.eval]; done) | simp [Act.eval, Act.put]) hSd.out.z (by rfl) hz.out hone.out ?_
    refine hK _ _ (hSd.out.setZ _).u ?_
    clear hK K
    refine wpMix_step (fun K hK => ?_); go_simp; refine hK _ _ (hSd.out.setZ _).u ?_; clear hK K
    refine wpMix_nil ?_
    go_wp2_with fail
    refine bodyPost_ret (used_results (q := false) (hSd.out.setZ _) hz.out (by simp) (by simp)) rfl ?_
    exact ⟨none, 0, none, 0, none, 0, by rw [HR.out _ rfl rfl rfl, HU.out]; rfl, Parts.none mem rfl rfl rfl, (hSd.out.setZ _).b⟩
  · iterate 2 (refine wpMix_step (fun K hK => ?_); go_simp; refine hK _ _ hSd.out.u ?_; clear hK K)
    clear d18 d19
    refine wpMix_step (fun K hK => ?_)
    go_simp
    refine (c5 _).mono ?_
    rintro e w' ⟨rfl, rfl⟩
    dsimp only
    refine hK _ _ hSd.out.u ?_
    clear hK K
    refine wpMix_take (.bool q4) (fun _ _ _ _ h => h) hSd.out.u (by rfl) (fun W hW => by go_simp) ?_
    refine wpMix_step (fun K hK => ?_)
    rw [if_pos (by rfl)]
    refine wp_fct_store _ _ rfl (by first | (simp [Act.eval]; done) | simp [Act.eval, Act.put]) (by first | (simp [Act.eval]; done) | simp [Act.eval, Act.put]) hSd.out.z (by rfl) hz.out hone.out ?_
    refine hK _ _ (hSd.out.setZ _).u ?_
    clear hK K
    refine wpMix_step (fun K hK => ?_); go_simp; refine hK _ _ (hSd.out.setZ _).u ?_; clear hK K
    refine wpMix_nil ?_
    go_wp2_with fail
    refine bodyPost_ret (used_results (q := q4) (hSd.out.setZ _) hz.out (by simp) (by simp)) rfl ?_
    exact ⟨none, 0, none, 0, none, 0, by rw [HR.out _ rfl rfl rfl, HU.out]; rfl, Parts.none mem rfl rfl rfl, (hSd.out.setZ _).b⟩

set_option maxRecDepth 100000 in
set_option maxHeartbeats 2000000 in
theorem used4_any {mem : Addr → Option Value} (f : Fct) (hok : FOK f) (hk : f.kind = 4) (hf : f = usedF f) {ta tc ba bc aa ac} (hp : Parts mem f (.slice ta f.topics.length tc) (.slice ba f.blocks.length bc) (.slice aa f.lab.after.length ac)) (w : World) (hs : Sees mem w) :
    Calls Tryz.prog 85 #[.agg (fctCells f (.slice ta f.topics.length tc) (.slice ba f.blocks.length bc) (.slice aa f.lab.after.length ac))] w (UsedPost mem f w) := by
  obtain ⟨x0, x1, x2, x3, x4, x5, x6, x7, x8, x9, x10, ⟨y1, y2, y3, y4⟩, x12, x13, x14, x15, x16, x17, x18, x19⟩ := f
  dsimp only at hk
  subst hk
  simp [usedF, bare, lab0] at hf
  obtain ⟨rfl, rfl, rfl, rfl, rfl, rfl, ⟨rfl, rfl, rfl, rfl⟩, rfl, rfl, rfl, rfl, rfl⟩ := hf
  have c1 := fun W => fwithin_any x3 1 64 W
  have c2 : ∀ W, Calls Tryz.prog 84 #[.int .i64 0, .int .i64 1, .int .i64 8] W fun e w' => e = .returned (.bool false) ∧ W = w' := fun W => fwithin_any 0 1 8 W
  have HR : Hid (∀ q, correctOK ⟨x0, x1, 4, x3, x4, 0, 0, str0, str0, [], [], ⟨0, [], 0, 0⟩, 0, x13, x14, x15, str0, 0, 0, 0⟩ = q → fieldsOK ⟨x0, x1, 4, x3, x4, 0, 0, str0, str0, [], [], ⟨0, [], 0, 0⟩, 0, x13, x14, x15, str0, 0, 0, 0⟩ = (inR x3 1 64 && q)) := Lib.hid (fun q e => by subst e; rfl)
  have c4 := fun W => isCorrection_any ⟨x0, x1, 4, x3, x4, 0, 0, str0, str0, [], [], ⟨0, [], 0, 0⟩, 0, x13, x14, x15, str0, 0, 0, 0⟩ hok (ta := ta) (tl := 0) (tc := tc) (ba := ba) (bl := 0) (bc := bc) (aa := aa) (al := 0) (ac := ac) W
  generalize hq4 : correctOK ⟨x0, x1, 4, x3, x4, 0, 0, str0, str0, [], [], ⟨0, [], 0, 0⟩, 0, x13, x14, x15, str0, 0, 0, 0⟩ = q4 at *
  replace HR := Lib.hid (HR.out q4 rfl)
  clear hq4
  generalize inR x3 1 64 = q1 at *
  have HP := Lib.hid hp
  have HS := Lib.hid hs
  clear hp hs hok
  dsimp only [List.length_nil] at *
  go_enter Tryz.func85, Tryz.ntmps85
  go_wp2_with (first
    | ((with_reducible refine at_fbuild _ rfl ?_); go_must (refine wpList_fct_build4 rfl _ rfl x0 x1 4 x3 (by simp [Act.eval]) ?_))
    | ((with_reducible refine at_fstore _ _ rfl ?_); go_must (refine wpList_fct_new rfl _ _ rfl rfl _ _ _ (by simp [Act.eval]) (by simp [Act.eval]; rfl) (by rfl) (by rfl) (by simp [Value.oneCell']) ?_)))
  generalize hW : World.alloc (World.alloc (World.alloc w _) _) _ = W1
  have h0 : Hid (FW w _ zeroFct #[.int .i64 x0, .int .i64 x1, .int .i64 4, .int .i64 x3, .string .empty, .int .i64 0, .int .i64 0, .string .empty, .string .empty, .slice none 0 0, .slice none 0 0, .int .i64 0, .slice none 0 0, .int .i64 0, .int .i64 0, .int .i64 0, .int .i64 0, .int .i64 0, .string .empty, .string .empty, .int .i64 0, .int .i64 0, .int .i64 0] W1) := Lib.hid (by rw [← hW]; exact FW.new w _ _ _)
  clear hW
  have d2 := h0.out.ca 2
  have d20 := h0.out.ca 20
  simp only [fctCells, List.getElem?_toArray, List.getElem?_cons_zero, List.getElem?_cons_succ] at d2 d20
  refine (c1 _).mono ?_
  rintro e w' ⟨rfl, rfl⟩
  clear c1
  go_wp2_with fail
  refine (c2 _).mono ?_
  rintro e w' ⟨rfl, rfl⟩
  clear c2
  go_wp2_with fail
  clear d2 d20
  refine wp_mix [mT, mT, mT, mT, mT, mT, mT, mT, mF, mF, mF, mF, mF, mF, mF, mF] 1000 (fun W' => W'.heap[w.heap.size]? = some (.cells _ 45 (0, 0))) (by kernel_rfl) (by kernel_rfl) h0.out.drew.a ?_
  refine wpMix_take (.pointer (some ⟨w.heap.size, 4, none⟩)) (fun _ _ _ _ h => h) h0.out.drew.a (by rfl) (fun W hW => by go_simp) ?_
  simp only [Act.put, List.setIfInBounds_toArray, List.set_cons_zero, List.set_cons_succ]
  refine wpMix_take (.string x4) (fun _ _ _ _ h => h) h0.out.drew.a (by rfl) (fun W hW => by
    have k4 := blk_cell hW 4
    simp only [fctCells, List.getElem?_toArray, List.getElem?_cons_zero, List.getElem?_cons_succ] at k4
    go_simp) ?_
  simp only [Act.put, List.setIfInBounds_toArray, List.set_cons_zero, List.set_cons_succ]
  refine wpMix_take (.pointer (some ⟨w.heap.size, 16, none⟩)) (fun _ _ _ _ h => h) h0.out.drew.a (by rfl) (fun W hW => by go_simp) ?_
  simp only [Act.put, List.setIfInBounds_toArray, List.set_cons_zero, List.set_cons_succ]
  refine wpMix_take (.int .i64 x13) (fun _ _ _ _ h => h) h0.out.drew.a (by rfl) (fun W hW => by
    have k16 := blk_cell hW 16
    simp only [fctCells, List.getElem?_toArray, List.getElem?_cons_zero, List.getElem?_cons_succ] at k16
    go_simp) ?_
  simp only [Act.put, List.setIfInBounds_toArray, List.set_cons_zero, List.set_cons_succ]
  refine wpMix_take (.pointer (some ⟨w.heap.size, 17, none⟩)) (fun _ _ _ _ h => h) h0.out.drew.a (by rfl) (fun W hW => by go_simp) ?_
  simp only [Act.put, List.setIfInBounds_toArray, List.set_cons_zero, List.set_cons_succ]
  refine wpMix_take (.int .i64 x14) (fun _ _ _ _ h => h) h0.out.drew.a (by rfl) (fun W hW => by
    have k17 := blk_cell hW 17
    simp only [fctCells, List.getElem?_toArray, List.getElem?_cons_zero, List.getElem?_cons_succ] at k17
    go_simp) ?_
  simp only [Act.put, List.setIfInBounds_toArray, List.set_cons_zero, List.set_cons_succ]
  refine wpMix_take (.pointer (some ⟨w.heap.size, 18, none⟩)) (fun _ _ _ _ h => h) h0.out.drew.a (by rfl) (fun W hW => by go_simp) ?_
  simp only [Act.put, List.setIfInBounds_toArray, List.set_cons_zero, List.set_cons_succ]
  refine wpMix_take (.string x15) (fun _ _ _ _ h => h) h0.out.drew.a (by rfl) (fun W hW => by
    have k18 := blk_cell hW 18
    simp only [fctCells, List.getElem?_toArray, List.getElem?_cons_zero, List.getElem?_cons_succ] at k18
    go_simp) ?_
  simp only [Act.put, List.setIfInBounds_toArray, List.set_cons_zero, List.set_cons_succ]
  have e4 := h0.out.cu 4
  have g4 := h0.out.fu 4
  have e16 := h0.out.cu 16
  have g16 := h0.out.fu 16
  have e17 := h0.out.cu 17
  have g17 := h0.out.fu 17
  have e18 := h0.out.cu 18
  have g18 := h0.out.fu 18
  simp only [List.getElem?_toArray, List.getElem?_cons_zero, List.getElem?_cons_succ] at e4 e16 e17 e18
  iterate 1 (refine wpMix_step (fun K hK => ?_); go_simp; refine hK _ _ h0.out.drew.a ?_; clear hK K)
  iterate 1 (refine wpMix_step (fun K hK => ?_); go_simp; refine hK _ _ (h0.out.setU 4 (.string x4)).drew.a ?_; clear hK K)
  iterate 1 (refine wpMix_step (fun K hK => ?_); go_simp; refine hK _ _ (h0.out.setU 4 (.string x4)).drew.a ?_; clear hK K)
  iterate 1 (refine wpMix_step (fun K hK => ?_); go_simp; refine hK _ _ ((h0.out.setU 4 (.string x4)).setU 16 (.int .i64 x13)).drew.a ?_; clear hK K)
  iterate 1 (refine wpMix_step (fun K hK => ?_); go_simp; refine hK _ _ ((h0.out.setU 4 (.string x4)).setU 16 (.int .i64 x13)).drew.a ?_; clear hK K)
  iterate 1 (refine wpMix_step (fun K hK => ?_); go_simp; refine hK _ _ (((h0.out.setU 4 (.string x4)).setU 16 (.int .i64 x13)).setU 17 (.int .i64 x14)).drew.a ?_; clear hK K)
  iterate 1 (refine wpMix_step (fun K hK => ?_); go_simp; refine hK _ _ (((h0.out.setU 4 (.string x4)).setU 16 (.int .i64 x13)).setU 17 (.int .i64 x14)).drew.a ?_; clear hK K)
  iterate 1 (refine wpMix_step (fun K hK => ?_); go_simp; refine hK _ _ ((((h0.out.setU 4 (.string x4)).setU 16 (.int .i64 x13)).setU 17 (.int .i64 x14)).setU 18 (.string x15)).drew.a ?_; clear hK K)
  clear e4 g4 e16 g16 e17 g17 e18 g18
  refine wpMix_nil ?_
  go_wp2_with fail
  generalize hW2 : World.drew (World.setCell (World.setCell (World.setCell (World.setCell W1 _ _) _ _) _ _) _ _) = W2
  have h1 : Hid (FW w _ zeroFct #[.int .i64 x0, .int .i64 x1, .int .i64 4, .int .i64 x3, .string x4, .int .i64 0, .int .i64 0, .string .empty, .string .empty, .slice none 0 0, .slice none 0 0, .int .i64 0, .slice none 0 0, .int .i64 0, .int .i64 0, .int .i64 0, .int .i64 x13, .int .i64 x14, .string x15, .string .empty, .int .i64 0, .int .i64 0, .int .i64 0] W2) := Lib.hid (by rw [← hW2]; exact ((((h0.out.setU 4 (.string x4)).setU 16 (.int .i64 x13)).setU 17 (.int .i64 x14)).setU 18 (.string x15)).drew)
  clear hW2 h0
  obtain ⟨U, HU⟩ : ∃ U : Array Value, Hid (U = #[.int .i64 x0, .int .i64 x1, .int .i64 4, .int .i64 x3, .string x4, .int .i64 0, .int .i64 0, .string .empty, .string .empty, .slice none 0 0, .slice none 0 0, .int .i64 0, .slice none 0 0, .int .i64 0, .int .i64 0, .int .i64 0, .int .i64 x13, .int .i64 x14, .string x15, .string .empty, .int .i64 0, .int .i64 0, .int .i64 0]) := ⟨_, Lib.hid rfl⟩
  have h2 : Hid (FW w _ zeroFct U W2) := Lib.hid (by rw [HU.out]; exact h1.out)
  clear h1
  have hz : Hid (U.size = 23) := Lib.hid (by rw [HU.out]; rfl)
  have hone : Hid (U.all (·.oneCell') = true) := Lib.hid (by rw [HU.out]; simp [Value.oneCell'])
  refine wp_mix [mT, mF, mF, mF, mF, mT, mF, mF] 1000 (fun W' => W'.heap[w.heap.size + 1 + 1]? = some (.cells U 45 (0, 0))) (by kernel_rfl) (by kernel_rfl) h2.out.drew.u ?_
  refine wpMix_take (.agg U) (fun _ _ _ _ h => h) h2.out.drew.u (by rfl) (fun W hW => exec_fct_load _ rfl (by simp [Act.eval]) hW hz.out) ?_
  simp only [Act.put, List.setIfInBounds_toArray, List.set_cons_zero, List.set_cons_succ]
  have hSd := Lib.hid h2.out.drew
  cases q1
  · iterate 4 (refine wpMix_step (fun K hK => ?_); go_simp; refine hK _ _ hSd.out.u ?_; clear hK K)
    refine wpMix_take (.bool false) (fun _ _ _ _ h => h) hSd.out.u (by rfl) (fun W hW => by go_simp) ?_
    refine wpMix_step (fun K hK => ?_)
    rw [if_pos (by rfl)]
    refine wp_fct_store _ _ rfl (by first | (simp [Act.eval]; done) | simp [Act.eval, Act.put]) (by first | (simp [Act.eval]; done) | simp [Act.eval, Act.put]) hSd.out.z (by rfl) hz.out hone.out ?_
    refine hK _ _ (hSd.out.setZ _).u ?_
    clear hK K
    refine wpMix_step (fun K hK => ?_); go_simp; refine hK _ _ (hSd.out.setZ _).u ?_; clear hK K
    refine wpMix_nil ?_
    go_wp2_with fail
    refine bodyPost_ret (used_results (q := false) (hSd.out.setZ _) hz.out (by simp) (by simp)) rfl ?_
    exact ⟨none, 0, none, 0, none, 0, by rw [HR.out, HU.out]; rfl, Parts.none mem rfl rfl rfl, (hSd.out.setZ _).b⟩
  · iterate 2 (refine wpMix_step (fun K hK => ?_); go_simp; refine hK _ _ hSd.out.u ?_; clear hK K)
    refine wpMix_step (fun K hK => ?_)
    rw [if_pos (by rfl)]
    refine wp_fct_load _ rfl (by first | (simp [Act.eval]; done) | simp [Act.eval, Act.put]) hSd.out.a (by rfl) ?_
    refine hK _ _ hSd.out.u ?_
    clear hK K
    simp only [Act.put, List.setIfInBounds_toArray, List.set_cons_zero, List.set_cons_succ]
    refine wpMix_step (fun K hK => ?_)
    go_simp
    refine (c4 _).mono ?_
    rintro e w' ⟨rfl, hb⟩
    have h3 := Lib.hid (hSd.out.bel hb)
    clear hb
    dsimp only
    refine hK _ _ h3.out.u ?_
    clear hK K
    refine wpMix_take (.bool q4) (fun _ _ _ _ h => h) h3.out.u (by rfl) (fun W hW => by go_simp) ?_
    refine wpMix_step (fun K hK => ?_)
    rw [if_pos (by rfl)]
    refine wp_fct_store _ _ rfl (by first | (simp [Act.eval]; done) | simp [Act.eval, Act.put]) (by first | (simp [Act.eval]; done) | simp [Act.eval, Act.put]) h3.out.z (by rfl) hz.out hone.out ?_
    refine hK _ _ (h3.out.setZ _).u ?_
    clear hK K
    refine wpMix_step (fun K hK => ?_); go_simp; refine hK _ _ (h3.out.setZ _).u ?_; clear hK K
    refine wpMix_nil ?_
    go_wp2_with fail
    refine bodyPost_ret (used_results (q := q4) (h3.out.setZ _) hz.out (by simp) (by simp)) rfl ?_
    exact ⟨none, 0, none, 0, none, 0, by rw [HR.out, HU.out]; rfl, Parts.none mem rfl rfl rfl, (h3.out.setZ _).b⟩

end Go.Proofs.YtgbihmafmmeicaaGreatDoor
namespace Go.Proofs.YtgbihmafmmeicaaGreatDoor
open Go.RowKit Mg Go.Shelf

set_option maxRecDepth 100000 in
set_option maxHeartbeats 2000000 in
theorem used1_any {mem : Addr → Option Value} (f : Fct) (hok : FOK f) (hk : f.kind = 1) (hf : f = usedF f) {ta tc ba bc aa ac} (hp : Parts mem f (.slice ta f.topics.length tc) (.slice ba f.blocks.length bc) (.slice aa f.lab.after.length ac)) (w : World) (hs : Sees mem w) :
    Calls Tryz.prog 85 #[.agg (fctCells f (.slice ta f.topics.length tc) (.slice ba f.blocks.length bc) (.slice aa f.lab.after.length ac))] w (UsedPost mem f w) := by
  obtain ⟨x0, x1, x2, x3, x4, x5, x6, x7, x8, x9, x10, ⟨y1, y2, y3, y4⟩, x12, x13, x14, x15, x16, x17, x18, x19⟩ := f
  dsimp only at hk
  subst hk
  simp [usedF, bare, lab0] at hf
  obtain ⟨rfl, rfl, rfl, rfl, rfl, rfl, rfl, rfl⟩ := hf
  have c1 := fun W => fwithin_any x3 1 64 W
  have c2 : ∀ W, Calls Tryz.prog 84 #[.int .i64 0, .int .i64 1, .int .i64 8] W fun e w' => e = .returned (.bool false) ∧ W = w' := fun W => fwithin_any 0 1 8 W
  have HR : Hid (∀ q, reviseOK ⟨x0, x1, 1, x3, x4, x5, x6, x7, x8, x9, x10, ⟨y1, y2, y3, y4⟩, 0, 0, 0, str0, str0, 0, 0, 0⟩ = q → fieldsOK ⟨x0, x1, 1, x3, x4, x5, x6, x7, x8, x9, x10, ⟨y1, y2, y3, y4⟩, 0, 0, 0, str0, str0, 0, 0, 0⟩ = (inR x3 1 64 && q)) := Lib.hid (fun q e => by subst e; rfl)
  have c4 := fun W hW => isRevision_any ⟨x0, x1, 1, x3, x4, x5, x6, x7, x8, x9, x10, ⟨y1, y2, y3, y4⟩, 0, 0, 0, str0, str0, 0, 0, 0⟩ hok hp W hW
  generalize hq4 : reviseOK ⟨x0, x1, 1, x3, x4, x5, x6, x7, x8, x9, x10, ⟨y1, y2, y3, y4⟩, 0, 0, 0, str0, str0, 0, 0, 0⟩ = q4 at *
  replace HR := Lib.hid (HR.out q4 rfl)
  clear hq4
  generalize inR x3 1 64 = q1 at *
  have HP := Lib.hid hp
  have HS := Lib.hid hs
  clear hp hs hok
  dsimp only [List.length_nil] at *
  go_enter Tryz.func85, Tryz.ntmps85
  go_wp2_with (first
    | ((with_reducible refine at_fbuild _ rfl ?_); go_must (refine wpList_fct_build4 rfl _ rfl x0 x1 1 x3 (by simp [Act.eval]) ?_))
    | ((with_reducible refine at_fstore _ _ rfl ?_); go_must (refine wpList_fct_new rfl _ _ rfl rfl _ _ _ (by simp [Act.eval]) (by simp [Act.eval]; rfl) (by rfl) (by rfl) (by simp [Value.oneCell']) ?_)))
  generalize hW : World.alloc (World.alloc (World.alloc w _) _) _ = W1
  have h0 : Hid (FW w _ zeroFct #[.int .i64 x0, .int .i64 x1, .int .i64 1, .int .i64 x3, .string .empty, .int .i64 0, .int .i64 0, .string .empty, .string .empty, .slice none 0 0, .slice none 0 0, .int .i64 0, .slice none 0 0, .int .i64 0, .int .i64 0, .int .i64 0, .int .i64 0, .int .i64 0, .string .empty, .string .empty, .int .i64 0, .int .i64 0, .int .i64 0] W1) := Lib.hid (by rw [← hW]; exact FW.new w _ _ _)
  clear hW
  have d2 := h0.out.ca 2
  have d20 := h0.out.ca 20
  simp only [fctCells, List.getElem?_toArray, List.getElem?_cons_zero, List.getElem?_cons_succ] at d2 d20
  refine (c1 _).mono ?_
  rintro e w' ⟨rfl, rfl⟩
  clear c1
  go_wp2_with fail
  refine (c2 _).mono ?_
  rintro e w' ⟨rfl, rfl⟩
  clear c2
  go_wp2_with fail
  clear d2 d20
  refine wp_mix [mT, mT, mT, mT, mT, mT, mT, mT, mT, mT, mF, mF, mF, mF, mF, mF, mF, mF, mF, mF] 1000 (fun W' => W'.heap[w.heap.size]? = some (.cells _ 45 (0, 0))) (by kernel_rfl) (by kernel_rfl) h0.out.drew.a ?_
  refine wpMix_take (.pointer (some ⟨w.heap.size, 4, none⟩)) (fun _ _ _ _ h => h) h0.out.drew.a (by rfl) (fun W hW => by go_simp) ?_
  simp only [Act.put, List.setIfInBounds_toArray, List.set_cons_zero, List.set_cons_succ]
  refine wpMix_take (.string x4) (fun _ _ _ _ h => h) h0.out.drew.a (by rfl) (fun W hW => by
    have k4 := blk_cell hW 4
    simp only [fctCells, List.getElem?_toArray, List.getElem?_cons_zero, List.getElem?_cons_succ] at k4
    go_simp) ?_
  simp only [Act.put, List.setIfInBounds_toArray, List.set_cons_zero, List.set_cons_succ]
  refine wpMix_take (.pointer (some ⟨w.heap.size, 5, none⟩)) (fun _ _ _ _ h => h) h0.out.drew.a (by rfl) (fun W hW => by go_simp) ?_
  simp only [Act.put, List.setIfInBounds_toArray, List.set_cons_zero, List.set_cons_succ]
  refine wpMix_take (.int .i64 x5) (fun _ _ _ _ h => h) h0.out.drew.a (by rfl) (fun W hW => by
    have k5 := blk_cell hW 5
    simp only [fctCells, List.getElem?_toArray, List.getElem?_cons_zero, List.getElem?_cons_succ] at k5
    go_simp) ?_
  simp only [Act.put, List.setIfInBounds_toArray, List.set_cons_zero, List.set_cons_succ]
  refine wpMix_take (.pointer (some ⟨w.heap.size, 6, none⟩)) (fun _ _ _ _ h => h) h0.out.drew.a (by rfl) (fun W hW => by go_simp) ?_
  simp only [Act.put, List.setIfInBounds_toArray, List.set_cons_zero, List.set_cons_succ]
  refine wpMix_take (.int .i64 x6) (fun _ _ _ _ h => h) h0.out.drew.a (by rfl) (fun W hW => by
    have k6 := blk_cell hW 6
    simp only [fctCells, List.getElem?_toArray, List.getElem?_cons_zero, List.getElem?_cons_succ] at k6
    go_simp) ?_
  simp only [Act.put, List.setIfInBounds_toArray, List.set_cons_zero, List.set_cons_succ]
  refine wpMix_take (.pointer (some ⟨w.heap.size, 7, none⟩)) (fun _ _ _ _ h => h) h0.out.drew.a (by rfl) (fun W hW => by go_simp) ?_
  simp only [Act.put, List.setIfInBounds_toArray, List.set_cons_zero, List.set_cons_succ]
  refine wpMix_take (.string x7) (fun _ _ _ _ h => h) h0.out.drew.a (by rfl) (fun W hW => by
    have k7 := blk_cell hW 7
    simp only [fctCells, List.getElem?_toArray, List.getElem?_cons_zero, List.getElem?_cons_succ] at k7
    go_simp) ?_
  simp only [Act.put, List.setIfInBounds_toArray, List.set_cons_zero, List.set_cons_succ]
  refine wpMix_take (.pointer (some ⟨w.heap.size, 8, none⟩)) (fun _ _ _ _ h => h) h0.out.drew.a (by rfl) (fun W hW => by go_simp) ?_
  simp only [Act.put, List.setIfInBounds_toArray, List.set_cons_zero, List.set_cons_succ]
  refine wpMix_take (.string x8) (fun _ _ _ _ h => h) h0.out.drew.a (by rfl) (fun W hW => by
    have k8 := blk_cell hW 8
    simp only [fctCells, List.getElem?_toArray, List.getElem?_cons_zero, List.getElem?_cons_succ] at k8
    go_simp) ?_
  simp only [Act.put, List.setIfInBounds_toArray, List.set_cons_zero, List.set_cons_succ]
  have e4 := h0.out.cu 4
  have g4 := h0.out.fu 4
  have e5 := h0.out.cu 5
  have g5 := h0.out.fu 5
  have e6 := h0.out.cu 6
  have g6 := h0.out.fu 6
  have e7 := h0.out.cu 7
  have g7 := h0.out.fu 7
  have e8 := h0.out.cu 8
  have g8 := h0.out.fu 8
  simp only [List.getElem?_toArray, List.getElem?_cons_zero, List.getElem?_cons_succ] at e4 e5 e6 e7 e8
  iterate 1 (refine wpMix_step (fun K hK => ?_); go_simp; refine hK _ _ h0.out.drew.a ?_; clear hK K)
  iterate 1 (refine wpMix_step (fun K hK => ?_); go_simp; refine hK _ _ (h0.out.setU 4 (.string x4)).drew.a ?_; clear hK K)
  iterate 1 (refine wpMix_step (fun K hK => ?_); go_simp; refine hK _ _ (h0.out.setU 4 (.string x4)).drew.a ?_; clear hK K)
  iterate 1 (refine wpMix_step (fun K hK => ?_); go_simp; refine hK _ _ ((h0.out.setU 4 (.string x4)).setU 5 (.int .i64 x5)).drew.a ?_; clear hK K)
  iterate 1 (refine wpMix_step (fun K hK => ?_); go_simp; refine hK _ _ ((h0.out.setU 4 (.string x4)).setU 5 (.int .i64 x5)).drew.a ?_; clear hK K)
  iterate 1 (refine wpMix_step (fun K hK => ?_); go_simp; refine hK _ _ (((h0.out.setU 4 (.string x4)).setU 5 (.int .i64 x5)).setU 6 (.int .i64 x6)).drew.a ?_; clear hK K)
  iterate 1 (refine wpMix_step (fun K hK => ?_); go_simp; refine hK _ _ (((h0.out.setU 4 (.string x4)).setU 5 (.int .i64 x5)).setU 6 (.int .i64 x6)).drew.a ?_; clear hK K)
  iterate 1 (refine wpMix_step (fun K hK => ?_); go_simp; refine hK _ _ ((((h0.out.setU 4 (.string x4)).setU 5 (.int .i64 x5)).setU 6 (.int .i64 x6)).setU 7 (.string x7)).drew.a ?_; clear hK K)
  iterate 1 (refine wpMix_step (fun K hK => ?_); go_simp; refine hK _ _ ((((h0.out.setU 4 (.string x4)).setU 5 (.int .i64 x5)).setU 6 (.int .i64 x6)).setU 7 (.string x7)).drew.a ?_; clear hK K)
  iterate 1 (refine wpMix_step (fun K hK => ?_); go_simp; refine hK _ _ (((((h0.out.setU 4 (.string x4)).setU 5 (.int .i64 x5)).setU 6 (.int .i64 x6)).setU 7 (.string x7)).setU 8 (.string x8)).drew.a ?_; clear hK K)
  clear e4 g4 e5 g5 e6 g6 e7 g7 e8 g8
  refine wpMix_nil ?_
  go_wp2_with fail
  generalize hW2 : World.drew (World.setCell (World.setCell (World.setCell (World.setCell (World.setCell W1 _ _) _ _) _ _) _ _) _ _) = W3
  have h3 : Hid (FW w _ zeroFct #[.int .i64 x0, .int .i64 x1, .int .i64 1, .int .i64 x3, .string x4, .int .i64 x5, .int .i64 x6, .string x7, .string x8, .slice none 0 0, .slice none 0 0, .int .i64 0, .slice none 0 0, .int .i64 0, .int .i64 0, .int .i64 0, .int .i64 0, .int .i64 0, .string .empty, .string .empty, .int .i64 0, .int .i64 0, .int .i64 0] W3) := Lib.hid (by rw [← hW2]; exact (((((h0.out.setU 4 (.string x4)).setU 5 (.int .i64 x5)).setU 6 (.int .i64 x6)).setU 7 (.string x7)).setU 8 (.string x8)).drew)
  clear hW2 h0
  refine wp_mix [mT, mT, mT, mT, mT, mT, mF, mF, mF, mF, mF, mF] 1000 (fun W' => W'.heap[w.heap.size]? = some (.cells _ 45 (0, 0))) (by kernel_rfl) (by kernel_rfl) h3.out.drew.a ?_
  refine wpMix_take (.pointer (some ⟨w.heap.size, 9, none⟩)) (fun _ _ _ _ h => h) h3.out.drew.a (by rfl) (fun W hW => by go_simp) ?_
  simp only [Act.put, List.setIfInBounds_toArray, List.set_cons_zero, List.set_cons_succ]
  refine wpMix_take (.slice ta x9.length tc) (fun _ _ _ _ h => h) h3.out.drew.a (by rfl) (fun W hW => by
    have k9 := blk_cell hW 9
    simp only [fctCells, List.getElem?_toArray, List.getElem?_cons_zero, List.getElem?_cons_succ] at k9
    go_simp) ?_
  simp only [Act.put, List.setIfInBounds_toArray, List.set_cons_zero, List.set_cons_succ]
  refine wpMix_take (.pointer (some ⟨w.heap.size, 10, none⟩)) (fun _ _ _ _ h => h) h3.out.drew.a (by rfl) (fun W hW => by go_simp) ?_
  simp only [Act.put, List.setIfInBounds_toArray, List.set_cons_zero, List.set_cons_succ]
  refine wpMix_take (.slice ba x10.length bc) (fun _ _ _ _ h => h) h3.out.drew.a (by rfl) (fun W hW => by
    have k10 := blk_cell hW 10
    simp only [fctCells, List.getElem?_toArray, List.getElem?_cons_zero, List.getElem?_cons_succ] at k10
    go_simp) ?_
  simp only [Act.put, List.setIfInBounds_toArray, List.set_cons_zero, List.set_cons_succ]
  refine wpMix_take (.pointer (some ⟨w.heap.size, 11, none⟩)) (fun _ _ _ _ h => h) h3.out.drew.a (by rfl) (fun W hW => by go_simp) ?_
  simp only [Act.put, List.setIfInBounds_toArray, List.set_cons_zero, List.set_cons_succ]
  refine wpMix_take (.agg #[.int .i64 y1, .slice aa y2.length ac, .int .i64 y3, .int .i64 y4]) (fun _ _ _ _ h => h) h3.out.drew.a (by rfl) (fun W hW => by
    have k11 := blk_cell hW 11
    have k12 := blk_cell hW 12
    have k13 := blk_cell hW 13
    have k14 := blk_cell hW 14
    simp only [fctCells, List.getElem?_toArray, List.getElem?_cons_zero, List.getElem?_cons_succ] at k11 k12 k13 k14
    go_simp) ?_
  simp only [Act.put, List.setIfInBounds_toArray, List.set_cons_zero, List.set_cons_succ]
  have e9 := h3.out.cu 9
  have g9 := h3.out.fu 9
  have e10 := h3.out.cu 10
  have g10 := h3.out.fu 10
  have e11 := h3.out.cu 11
  have g11 := h3.out.fu 11
  have e12 := h3.out.cu 12
  have g12 := h3.out.fu 12
  have e13 := h3.out.cu 13
  have g13 := h3.out.fu 13
  have e14 := h3.out.cu 14
  have g14 := h3.out.fu 14
  simp only [List.getElem?_toArray, List.getElem?_cons_zero, List.getElem?_cons_succ] at e9 e10 e11 e12 e13 e14
  iterate 1 (refine wpMix_step (fun K hK => ?_); go_simp; refine hK _ _ h3.out.drew.a ?_; clear hK K)
  iterate 1 (refine wpMix_step (fun K hK => ?_); go_simp; refine hK _ _ (h3.out.setU 9 (.slice ta x9.length tc)).drew.a ?_; clear hK K)
  iterate 1 (refine wpMix_step (fun K hK => ?_); go_simp; refine hK _ _ (h3.out.setU 9 (.slice ta x9.length tc)).drew.a ?_; clear hK K)
  iterate 1 (refine wpMix_step (fun K hK => ?_); go_simp; refine hK _ _ ((h3.out.setU 9 (.slice ta x9.length tc)).setU 10 (.slice ba x10.length bc)).drew.a ?_; clear hK K)
  iterate 1 (refine wpMix_step (fun K hK => ?_); go_simp; refine hK _ _ ((h3.out.setU 9 (.slice ta x9.length tc)).setU 10 (.slice ba x10.length bc)).drew.a ?_; clear hK K)
  iterate 1 (refine wpMix_step (fun K hK => ?_); go_simp; refine hK _ _ ((((((h3.out.setU 9 (.slice ta x9.length tc)).setU 10 (.slice ba x10.length bc)).setU 11 (.int .i64 y1)).setU 12 (.slice aa y2.length ac)).setU 13 (.int .i64 y3)).setU 14 (.int .i64 y4)).drew.a ?_; clear hK K)
  clear e9 g9 e10 g10 e11 g11 e12 g12 e13 g13 e14 g14
  refine wpMix_nil ?_
  go_wp2_with fail
  generalize hW2 : World.drew (World.setCell (World.setCell (World.setCell (World.setCell (World.setCell (World.setCell W3 _ _) _ _) _ _) _ _) _ _) _ _) = W2
  have h1 : Hid (FW w _ zeroFct #[.int .i64 x0, .int .i64 x1, .int .i64 1, .int .i64 x3, .string x4, .int .i64 x5, .int .i64 x6, .string x7, .string x8, .slice ta x9.length tc, .slice ba x10.length bc, .int .i64 y1, .slice aa y2.length ac, .int .i64 y3, .int .i64 y4, .int .i64 0, .int .i64 0, .int .i64 0, .string .empty, .string .empty, .int .i64 0, .int .i64 0, .int .i64 0] W2) := Lib.hid (by rw [← hW2]; exact ((((((h3.out.setU 9 (.slice ta x9.length tc)).setU 10 (.slice ba x10.length bc)).setU 11 (.int .i64 y1)).setU 12 (.slice aa y2.length ac)).setU 13 (.int .i64 y3)).setU 14 (.int .i64 y4)).drew)
  clear hW2 h3
  obtain ⟨U, HU⟩ : ∃ U : Array Value, Hid (U = #[.int .i64 x0, .int .i64 x1, .int .i64 1, .int .i64 x3, .string x4, .int .i64 x5, .int .i64 x6, .string x7, .string x8, .slice ta x9.length tc, .slice ba x10.length bc, .int .i64 y1, .slice aa y2.length ac, .int .i64 y3, .int .i64 y4, .int .i64 0, .int .i64 0, .int .i64 0, .string .empty, .string .empty, .int .i64 0, .int .i64 0, .int .i64 0]) := ⟨_, Lib.hid rfl⟩
  have h2 : Hid (FW w _ zeroFct U W2) := Lib.hid (by rw [HU.out]; exact h1.out)
  clear h1
  have hz : Hid (U.size = 23) := Lib.hid (by rw [HU.out]; rfl)
  have hone : Hid (U.all (·.oneCell') = true) := Lib.hid (by rw [HU.out]; simp [Value.oneCell'])
  refine wp_mix [mT, mF, mF, mF, mF, mT, mF, mF] 1000 (fun W' => W'.heap[w.heap.size + 1 + 1]? = some (.cells U 45 (0, 0))) (by kernel_rfl) (by kernel_rfl) h2.out.drew.u ?_
  refine wpMix_take (.agg U) (fun _ _ _ _ h => h) h2.out.drew.u (by rfl) (fun W hW => exec_fct_load _ rfl (by simp [Act.eval]) hW hz.out) ?_
  simp only [Act.put, List.setIfInBounds_toArray, List.set_cons_zero, List.set_cons_succ]
  have hSd := Lib.hid h2.out.drew
  cases q1
  · iterate 4 (refine wpMix_step (fun K hK => ?_); go_simp; refine hK _ _ hSd.out.u ?_; clear hK K)
    refine wpMix_take (.bool false) (fun _ _ _ _ h => h) hSd.out.u (by rfl) (fun W hW => by go_simp) ?_
    refine wpMix_step (fun K hK => ?_)
    rw [if_pos (by rfl)]
    refine wp_fct_store _ _ rfl (by first | (simp [Act.eval]; done) | simp [Act.eval, Act.put]) (by first | (simp [Act.eval]; done) | simp [Act.eval, Act.put]) hSd.out.z (by rfl) hz.out hone.out ?_
    refine hK _ _ (hSd.out.setZ _).u ?_
    clear hK K
    refine wpMix_step (fun K hK => ?_); go_simp; refine hK _ _ (hSd.out.setZ _).u ?_; clear hK K
    refine wpMix_nil ?_
    go_wp2_with fail
    refine bodyPost_ret (used_results (q := false) (hSd.out.setZ _) hz.out (by simp) (by simp)) rfl ?_
    exact ⟨ta, tc, ba, bc, aa, ac, by rw [HR.out, HU.out]; rfl, HP.out, (hSd.out.setZ _).b⟩
  · iterate 2 (refine wpMix_step (fun K hK => ?_); go_simp; refine hK _ _ hSd.out.u ?_; clear hK K)
    refine wpMix_step (fun K hK => ?_)
    rw [if_pos (by rfl)]
    refine wp_fct_load _ rfl (by first | (simp [Act.eval]; done) | simp [Act.eval, Act.put]) hSd.out.a (by rfl) ?_
    refine hK _ _ hSd.out.u ?_
    clear hK K
    simp only [Act.put, List.setIfInBounds_toArray, List.set_cons_zero, List.set_cons_succ]
    refine wpMix_step (fun K hK => ?_)
    go_simp
    refine (c4 _ (HS.out.bel hSd.out.b)).mono ?_
    rintro e w' ⟨rfl, hb⟩
    have h9 := Lib.hid (hSd.out.bel hb)
    clear hb
    dsimp only
    refine hK _ _ h9.out.u ?_
    clear hK K
    refine wpMix_take (.bool q4) (fun _ _ _ _ h => h) h9.out.u (by rfl) (fun W hW => by go_simp) ?_
    refine wpMix_step (fun K hK => ?_)
    rw [if_pos (by rfl)]
    refine wp_fct_store _ _ rfl (by first | (simp [Act.eval]; done) | simp [Act.eval, Act.put]) (by first | (simp [Act.eval]; done) | simp [Act.eval, Act.put]) h9.out.z (by rfl) hz.out hone.out ?_
    refine hK _ _ (h9.out.setZ _).u ?_
    clear hK K
    refine wpMix_step (fun K hK => ?_); go_simp; refine hK _ _ (h9.out.setZ _).u ?_; clear hK K
    refine wpMix_nil ?_
    go_wp2_with fail
    refine bodyPost_ret (used_results (q := q4) (h9.out.setZ _) hz.out (by simp) (by simp)) rfl ?_
    exact ⟨ta, tc, ba, bc, aa, ac, by rw [HR.out, HU.out]; rfl, HP.out, (h9.out.setZ _).b⟩

end Go.Proofs.YtgbihmafmmeicaaGreatDoor
namespace Go.Proofs.YtgbihmafmmeicaaGreatDoor
open Go.RowKit Mg Go.Shelf

structure Tidy (f : Fct) : Prop where
  kind : f.kind = 1 ∨ f.kind = 2 ∨ f.kind = 3 ∨ f.kind = 4 ∨ f.kind = 5 ∨ f.kind = 6 ∨ f.kind = 7 ∨ f.kind = 10
  used : f = usedF f
theorem used_any {mem : Addr → Option Value} (f : Fct) (hok : FOK f) (ht : Tidy f) {ta tc ba bc aa ac} (hp : Parts mem f (.slice ta f.topics.length tc) (.slice ba f.blocks.length bc) (.slice aa f.lab.after.length ac)) (w : World) (hs : Sees mem w) :
    Calls Tryz.prog 85 #[.agg (fctCells f (.slice ta f.topics.length tc) (.slice ba f.blocks.length bc) (.slice aa f.lab.after.length ac))] w (UsedPost mem f w) := by
  rcases ht.kind with h | h | h | h | h | h | h | h
  · exact used1_any f hok h ht.used hp w hs
  · exact used2_any f hok h ht.used hp w hs
  · exact used3_any f hok h ht.used hp w hs
  · exact used4_any f hok h ht.used hp w hs
  · exact used5_any f hok h ht.used hp w hs
  · exact used6_any f hok h ht.used hp w hs
  · exact used7_any f hok h ht.used hp w hs
  · exact used10_any f hok h ht.used hp w hs
theorem fct_one (f : Fct) {ta tl tc ba bl bc aa al ac} : (fctCells f (.slice ta tl tc) (.slice ba bl bc) (.slice aa al ac)).all (·.oneCell') = true := by simp [Value.oneCell']
set_option maxRecDepth 100000 in
set_option maxHeartbeats 2000000 in
theorem fvalid_any {mem : Addr → Option Value} (f : Fct) (hok : FOK f) (ht : Tidy f) {ta tc ba bc aa ac} (hp : Parts mem f (.slice ta f.topics.length tc) (.slice ba f.blocks.length bc) (.slice aa f.lab.after.length ac)) (w : World) (hs : Sees mem w) :
    Calls Tryz.prog 69 #[.agg (fctCells f (.slice ta f.topics.length tc) (.slice ba f.blocks.length bc) (.slice aa f.lab.after.length ac))] w fun e w' => e = .returned (.bool (validF f)) ∧ Below w.heap.size w w' := by
  have c1 := fun W => fwithin_any f.n 0 500 W
  have c2 := fun W => fwithin_any f.time 0 1000000000 W
  have c3 := Lib.hid (fun W hW => used_any f hok ht hp W hW)
  have c4 := Lib.hid (fun a1 b1 a2 b2 a3 b3 (h : Parts mem f (.slice a1 f.topics.length b1) (.slice a2 f.blocks.length b2) (.slice a3 f.lab.after.length b3)) W hW => fsame_any f hp h W hW)
  have HR : Hid (validF f = (inR f.n 0 500 && inR f.time 0 1000000000 && fieldsOK f)) := Lib.hid (by unfold validF; rw [decide_eq_true ht.used, Bool.and_true])
  have HB := Lib.hid ((Below.refl w.heap.size w).alloc (Nat.le_refl _) (.cells (fctCells f (.slice ta f.topics.length tc) (.slice ba f.blocks.length bc) (.slice aa f.lab.after.length ac)) 45))
  have HA := Lib.hid (World.alloc_heap_new w (.cells (fctCells f (.slice ta f.topics.length tc) (.slice ba f.blocks.length bc) (.slice aa f.lab.after.length ac)) 45))
  have H1 : Hid ((fctCells f (.slice ta f.topics.length tc) (.slice ba f.blocks.length bc) (.slice aa f.lab.after.length ac)).size = 23) := Lib.hid rfl
  generalize inR f.n 0 500 = q1 at *
  generalize inR f.time 0 1000000000 = q2 at *
  have HS := Lib.hid hs
  clear hp hs hok ht
  go_enter Tryz.func69, Tryz.ntmps69
  go_wp2_with fail
  refine (c1 _).mono ?_
  rintro e w' ⟨rfl, rfl⟩
  cases q1
  · go_wp2_with fail
    go_ret
    exact ⟨ret_bool' (by rw [HR.out]; rfl), HB.out⟩
  go_wp2_with fail
  refine (c2 _).mono ?_
  rintro e w' ⟨rfl, rfl⟩
  cases q2
  · go_wp2_with fail
    go_ret
    exact ⟨ret_bool' (by rw [HR.out]; rfl), HB.out⟩
  go_wp2_with ((with_reducible refine at_fload _ rfl ?_); go_must (refine wpList_fct_load rfl _ rfl w.heap.size (by simp [Act.eval]) _ HA.out H1.out ?_))
  refine (c3.out _ (HS.out.bel HB.out)).mono ?_
  rintro e w1 ⟨a1, b1, a2, b2, a3, b3, rfl, hp2, hb⟩
  have c5 := Lib.hid (fun W hW => c4.out a1 b1 a2 b2 a3 b3 hp2 W hW)
  have HB1 := Lib.hid (HB.out.trans (hb.mono (by simp)))
  have HA1 := Lib.hid ((hb.block w.heap.size (by simp)).trans HA.out)
  have H2 : Hid ((fctCells f (.slice a1 f.topics.length b1) (.slice a2 f.blocks.length b2) (.slice a3 f.lab.after.length b3)).size = 23) := Lib.hid rfl
  have hlt : w.heap.size < w1.heap.size := by have := hb.size; simp at this; omega
  have HL := Lib.hid hlt
  have hone := Lib.hid (fct_one f (ta := a1) (tl := f.topics.length) (tc := b1) (ba := a2) (bl := f.blocks.length) (bc := b2) (aa := a3) (al := f.lab.after.length) (ac := b3))
  clear hb hp2 hlt c4 c3 c1 c2
  generalize fieldsOK f = q3 at *
  have HB2 := Lib.hid (HB1.out.alloc (Nat.le_of_lt HL.out) (.cells (fctCells f (.slice a1 f.topics.length b1) (.slice a2 f.blocks.length b2) (.slice a3 f.lab.after.length b3)) 45))
  cases q3
  · go_wp2_with ((with_reducible refine at_fstore _ _ rfl ?_); go_must (refine wpList_fct_new rfl _ _ rfl rfl _ _ _ (by simp [Act.eval]) (by simp [Act.eval]) (by rfl) H2.out hone.out ?_))
    go_ret
    exact ⟨ret_bool' (by rw [HR.out]; rfl), HB2.out⟩
  go_wp2_with (first
    | ((with_reducible refine at_fstore _ _ rfl ?_); go_must (refine wpList_fct_new rfl _ _ rfl rfl _ _ _ (by simp [Act.eval]) (by simp [Act.eval]) (by rfl) H2.out hone.out ?_))
    | ((with_reducible refine at_fload (.tmp 1) rfl ?_); go_must (refine wpList_fct_loadG (by rfl) _ rfl w.heap.size (by simp [Act.eval]) ((Below.heap_alloc _ _ _ HL.out).trans HA1.out) H1.out ?_))
    | ((with_reducible refine at_fload (.tmp 3) rfl ?_); go_must (refine wpList_fct_loadG (by rfl) _ rfl w1.heap.size (by simp [Act.eval, Act.put]) (World.alloc_heap_new _ _) H2.out ?_)))
  refine (c5.out _ (HS.out.bel HB2.out)).mono ?_
  rintro e w2 ⟨rfl, hb⟩
  have HB3 := Lib.hid (HB2.out.trans (hb.mono (by have := HL.out; simp; omega)))
  clear hb
  go_wp2_with fail
  go_ret
  exact ⟨ret_bool' (by rw [HR.out]; rfl), HB3.out⟩
end Go.Proofs.YtgbihmafmmeicaaGreatDoor
namespace Go.Proofs.YtgbihmafmmeicaaGreatDoor
open Go.RowKit Mg Go.Shelf

structure FctE where
  f : Fct
  ta : Option Addr
  tc : Nat
  ba : Option Addr
  bc : Nat
  aa : Option Addr
  ac : Nat
abbrev FctE.tv (e : FctE) : Value := .slice e.ta e.f.topics.length e.tc
abbrev FctE.bv (e : FctE) : Value := .slice e.ba e.f.blocks.length e.bc
abbrev FctE.av (e : FctE) : Value := .slice e.aa e.f.lab.after.length e.ac
def FctE.cells (e : FctE) : Array Value := fctCells e.f e.tv e.bv e.av
theorem FctE.size (e : FctE) : e.cells.size = 23 := rfl
theorem FctE.one (e : FctE) : e.cells.all (·.oneCell') = true := fct_one e.f
structure FctE.ok (mem : Addr → Option Value) (e : FctE) : Prop where
  fok : FOK e.f
  parts : Parts mem e.f e.tv e.bv e.av
theorem FctE.ok.mono {mem mem' : Addr → Option Value} {e : FctE} (h : e.ok mem) (hm : ∀ a u, mem a = some u → mem' a = some u) : e.ok mem' := ⟨h.fok, h.parts.mono hm⟩
def FctE.at (e : FctE) (M : Addr → Option Value) (b o : Nat) : Prop := ∀ j u, e.cells[j]? = some u → M ⟨b, o + j, none⟩ = some u
theorem at_cellsF {M : Addr → Option Value} {b o : Nat} {e : FctE} (h : e.at M b o) : CellsF M b o e.f e.tv e.bv e.av :=
  ⟨h 0 _ rfl, h 1 _ rfl, h 2 _ rfl, h 3 _ rfl, h 4 _ rfl, h 5 _ rfl, h 6 _ rfl, h 7 _ rfl, h 8 _ rfl, h 9 _ rfl, h 10 _ rfl, h 11 _ rfl, h 12 _ rfl, h 13 _ rfl, h 14 _ rfl, h 15 _ rfl, h 16 _ rfl, h 17 _ rfl, h 18 _ rfl, h 19 _ rfl, h 20 _ rfl, h 21 _ rfl, h 22 _ rfl⟩
def EsM (mem : Addr → Option Value) (v : Value) (es : List FctE) : Prop := ∃ b o, SliceOf v es.length b o ∧ ∀ j (h : j < es.length), es[j].ok mem ∧ es[j].at mem b (o + j * 23)
theorem EsM.facts {mem : Addr → Option Value} {v : Value} {es : List FctE} (h : EsM mem v es) : FctsM mem v (es.map FctE.f) := by
  obtain ⟨b, o, h1, h2⟩ := h
  refine ⟨b, o, by rwa [List.length_map], fun j hj => ?_⟩
  rw [List.length_map] at hj
  obtain ⟨h3, h4⟩ := h2 j hj
  rw [List.getElem_map]
  exact ⟨h3.fok, _, _, _, at_cellsF h4, h3.parts⟩
theorem EsM.mono {mem mem' : Addr → Option Value} {v : Value} {es : List FctE} (h : EsM mem v es) (hm : ∀ a u, mem a = some u → mem' a = some u) : EsM mem' v es := by
  obtain ⟨b, o, h1, h2⟩ := h
  exact ⟨b, o, h1, fun j hj => ⟨(h2 j hj).1.mono hm, fun i u hi => hm _ _ ((h2 j hj).2 i u hi)⟩⟩
section
variable {F : Fence} {n : Nat} {ops : Array Oper} {rest : List Oper} {o : Oper} {a : Act} {W : World} {Q : Exit → Act → World → Prop} {K : Act → World → Prop}
theorem wpIn_value (hd : ∀ c, o.op ≠ .defer c) (hab : o.about Tryz.prog W a.eval = none) {v : Value} {W' : World} (hr : (execOp a.eval o).run Tryz.prog W = .ok (.value v) W') (h : K (a.put o.dst v) W') : o.wpIn F n Tryz.prog a W K Q :=
  ⟨(fun f hf => by rw [hab] at hf; cases hf), by rw [Oper.semAt_plain F _ _ hd, hr]; exact h⟩
theorem exec_fct_mid {b i : Nat} {e : FctE} (x : Operand) (ho : o.op = .load 45 x) (hx : a.eval x = .pointer (some ⟨b, i, none⟩)) (hc : e.at (fun p => W.cell? p) b i) : (execOp a.eval o).run Tryz.prog W = .ok (.value (.agg e.cells)) W := by
  obtain ⟨fs, hu⟩ := fct_under
  have hl := run_loadVar_mid (P := Tryz.prog) W b i 45 e.cells.toList _ (fun j u hj => hc j u (by simpa using hj)) hu rfl (by rw [fct_size]; rfl)
  unfold execOp
  simp only [ho, hx, Instr.loadAt, Instr.sureAddr, Sem.run_bind, Sem.run_pure, Result.andThen_ok, hl, Array.toArray_toList]
theorem gi_at_fload (x : Operand) (_ : o.op = .load 45 x) (h : wpListIn F n Tryz.prog ops Q (o :: rest) a W) : wpListIn F n Tryz.prog ops Q (o :: rest) a W := h
theorem gi_at_fstore (x y : Operand) (_ : o.op = .store 45 x y) (h : wpListIn F n Tryz.prog ops Q (o :: rest) a W) : wpListIn F n Tryz.prog ops Q (o :: rest) a W := h
theorem load_nd {o : Oper} {x : Operand} {t : TypeId} (ho : o.op = .load t x) : ∀ c, o.op ≠ .defer c := fun c e => by rw [ho] at e; cases e
theorem load_ab {o : Oper} {a : Act} {W : World} {x : Operand} {t : TypeId} (ho : o.op = .load t x) : o.about Tryz.prog W a.eval = none := by simp [Oper.about, ho]
theorem store_nd {o : Oper} {x y : Operand} {t : TypeId} (ho : o.op = .store t x y) : ∀ c, o.op ≠ .defer c := fun c e => by rw [ho] at e; cases e
theorem store_ab {o : Oper} {a : Act} {W : World} {x y : Operand} {t : TypeId} (ho : o.op = .store t x y) : o.about Tryz.prog W a.eval = none := by simp [Oper.about, ho]
theorem wpListIn_fct_mid (hw : Region.wanted o (yielded ops a.tmps) = true) (x : Operand) (ho : o.op = .load 45 x) {b i : Nat} {e : FctE} (hx : a.eval x = .pointer (some ⟨b, i, none⟩)) (hc : e.at (fun p => W.cell? p) b i)
    (h : wpListIn F n Tryz.prog ops Q rest (a.put o.dst (.agg e.cells)) W) : wpListIn F n Tryz.prog ops Q (o :: rest) a W :=
  wpListIn_step fun K hK => by
    rw [if_pos hw]
    exact wpIn_value (load_nd ho) (load_ab ho) (exec_fct_mid x ho hx hc) (hK _ _ h)
theorem wpListIn_fct_load (hw : Region.wanted o (yielded ops a.tmps) = true) (x : Operand) (ho : o.op = .load 45 x) (g : Nat) (hx : a.eval x = .pointer (some ⟨g, 0, none⟩)) {cs : Array Value} (hg : W.heap[g]? = some (.cells cs 45 (0, 0))) (hs : cs.size = 23)
    (h : wpListIn F n Tryz.prog ops Q rest (a.put o.dst (.agg cs)) W) : wpListIn F n Tryz.prog ops Q (o :: rest) a W :=
  wpListIn_step fun K hK => by
    rw [if_pos hw]
    exact wpIn_value (load_nd ho) (load_ab ho) (exec_fct_load x ho hx hg hs) (hK _ _ h)
theorem wpListIn_fct_store (hgd : o.guard = none) (x y : Operand) (ho : o.op = .store 45 x y) (g : Nat) (hx : a.eval x = .pointer (some ⟨g, 0, none⟩)) {cs old : Array Value} (hy : a.eval y = .agg cs) (hg : W.heap[g]? = some (.cells old 45 (0, 0))) (ho2 : old.size = 23) (hs : cs.size = 23) (h1 : cs.all (·.oneCell') = true)
    (h : wpListIn F n Tryz.prog ops Q rest (a.put o.dst undef) (W.setRow g cs)) : wpListIn F n Tryz.prog ops Q (o :: rest) a W :=
  wpListIn_plain hgd fun K hK => by
    refine ⟨(fun f hf => by rw [store_ab ho] at hf; cases hf), ?_⟩
    rw [Oper.semAt_plain F _ _ (store_nd ho)]
    unfold execOp
    simp only [ho, hx, hy, Instr.storeAt, Instr.sureAddr, Sem.run_bind, Sem.run_pure, Result.andThen_ok, run_storeVar_row W g 45 45 old cs hg (by rw [fct_size, hs]) (by omega) h1]
    exact hK _ _ h
theorem wpListIn_fct_new (hgd : o.guard = none) (x y : Operand) (ho : o.op = .store 45 x y) (hd : o.dst = none) (w0 : World) (old cells : Array Value) (hx : a.eval x = .pointer (some ⟨w0.heap.size, 0, none⟩)) (hy : a.eval y = .agg cells)
    (hold : old.size = 23) (hc : cells.size = 23) (h1 : cells.all (·.oneCell') = true)
    (h : wpListIn F n Tryz.prog ops Q rest a (w0.alloc (.cells cells 45))) : wpListIn F n Tryz.prog ops Q (o :: rest) a (w0.alloc (.cells old 45)) := by
  refine wpListIn_fct_store hgd x y ho w0.heap.size hx hy (heap_alloc_last w0 _) hold hc h1 ?_
  rw [World.setRow_alloc_new, hd]
  exact h
end
end Go.Proofs.YtgbihmafmmeicaaGreatDoor
namespace Go.Proofs.YtgbihmafmmeicaaGreatDoor
section
variable {F : Fence} {n : Nat} {P : Program} {Q : Exit → Act → World → Prop} {a : Act} {w : World} {b : Frame} {k : List Item} {cs : List Frame}
theorem noGoto_ret : Exit.noGoto Q .ret a w = Q .ret a w := rfl
theorem stepR_scope {c : Code} : step P (lone (b.atR a (.code (.scope c) :: k)) cs w) = .next (lone (b.atR a (.code c :: .inScope c :: k)) cs w) :=
  step_lone_go (by simp [stepG, stepG.exec, Frame.atR])
theorem stepR_inScope {c : Code} : step P (lone (b.atR a (.inScope c :: k)) cs w) = .next (lone (b.atR a k) cs w) :=
  step_lone_go (by simp [stepG, stepG.exec, Frame.atR])
theorem wpIn_scope_straight {c : Code} (h : c.wpIn F n P (Exit.noGoto Q) a w) : (Code.scope c).wpIn F n P Q a w := by
  intro b k cs hro hb hr
  have h0 : (lone (b.atR a (.code (.scope c) :: k)) cs w).fenced P F := fenced_calm hb hr rfl
  obtain ⟨e, a₁, w₁, hq, harr⟩ := h b (.inScope c :: k) cs hro hb hr
  cases e with
  | normal => exact ⟨.normal, a₁, w₁, hq, .head h0 stepR_scope (StepsIn.trans harr (.one (fenced_calm hb hr rfl) stepR_inScope))⟩
  | exit id => exact ⟨.exit id, a₁, w₁, hq, fun k' hk => .head h0 stepR_scope (harr.1 k' (by simp [exitTo, hk])), fun hro hk => by
      obtain ⟨k₁, h1, h2⟩ := harr.2 hro (by simp [exitTo, hk])
      exact ⟨k₁, h1, .head h0 stepR_scope h2⟩⟩
  | goto l => exact hq.elim
  | ret => exact ⟨_, a₁, w₁, hq, .of_steps (.one h0 stepR_scope) harr⟩
  | panic ch => exact ⟨_, a₁, w₁, hq, .of_steps (.one h0 stepR_scope) harr⟩
  | outgrown => exact ⟨_, a₁, w₁, hq, .of_steps (.one h0 stepR_scope) harr⟩
end
end Go.Proofs.YtgbihmafmmeicaaGreatDoor
namespace Go.Proofs.YtgbihmafmmeicaaGreatDoor
open Go.RowKit Mg Go.Shelf
attribute [local go_sem] Oper.semAt_some

def goodE (es : List FctE) : List FctE := es.filter fun e => validF e.f
theorem goodE_map (es : List FctE) : (goodE es).map FctE.f = (es.map FctE.f).filter validF := by
  unfold goodE
  rw [List.filter_map]
  rfl
theorem goodE_yes {es : List FctE} {k : Nat} (hk : k < es.length) (h : validF es[k].f = true) : goodE (es.take (k + 1)) = goodE (es.take k) ++ [es[k]] := by
  unfold goodE
  rw [List.take_succ_eq_append_getElem hk, List.filter_append]
  simp [h]
theorem goodE_no {es : List FctE} {k : Nat} (hk : k < es.length) (h : validF es[k].f = false) : goodE (es.take (k + 1)) = goodE (es.take k) := by
  unfold goodE
  rw [List.take_succ_eq_append_getElem hk, List.filter_append]
  simp [h]
theorem goodE_pre (es : List FctE) (k : Nat) : goodE (es.take k) <+: goodE es := by
  refine ⟨goodE (es.drop k), ?_⟩
  unfold goodE
  rw [← List.filter_append, List.take_append_drop]
theorem goodE_get {es : List FctE} {k : Nat} (hk : k < es.length) (h : validF es[k].f = true) : (goodE es)[(goodE (es.take k)).length]? = some es[k] := by
  obtain ⟨t, ht⟩ := goodE_pre es (k + 1)
  rw [← ht, goodE_yes hk h, List.append_assoc, List.getElem?_append_right (Nat.le_refl _)]
  simp
abbrev GE (mem : Addr → Option Value) := { e : FctE // validF e.f = true ∧ e.ok mem ∧ Tidy e.f }
theorem valid_any (v : Value) (hv : ∃ ao n cap, v = .slice ao n cap) (w : World) : Calls Tryz.prog 52 #[v] w fun e w' => e = .returned (.func (.func 68) #[] #[.pointer (some ⟨w.heap.size, 0, none⟩)]) ∧ w.alloc (.cells #[v] 25) = w' := by
  obtain ⟨ao, n, cap, rfl⟩ := hv
  go_enter Tryz.func52, Tryz.ntmps52
  go_wp2_with fail
  go_ret
  exact ⟨rfl, rfl⟩
theorem fvalidE {mem : Addr → Option Value} (e : FctE) (h : e.ok mem) (ht : Tidy e.f) (w : World) (hs : Sees mem w) :
    Calls Tryz.prog 69 #[.agg e.cells] w fun x w' => x = .returned (.bool (validF e.f)) ∧ Below w.heap.size w w' := fvalid_any e.f h.fok ht h.parts w hs

set_option maxRecDepth 100000 in
set_option maxHeartbeats 4000000 in
theorem valid1 (n l Bn : Nat) (Kp : World → World → Prop) (mem : Addr → Option Value) (hmem : ∀ A B, Kp A B → Sees mem A → Sees mem B) (v : Value) (es : List FctE) (hv : EsM mem v es) (ht : ∀ e ∈ es, Tidy e.f) (hBn : mem ⟨Bn, 0, none⟩ = some v)
    (J Jx : List FctE → World → Prop)
    (hY : ∀ pre x W, J pre W → (goodE es)[pre.length]? = some x → YieldAt Fence.wide (n - 1) Tryz.prog l #[.agg x.cells] W fun e W' =>
      (e = .returned (.bool true) ∧ J (pre ++ [x]) W' ∧ Kp W W') ∨ (e = .returned (.bool false) ∧ Jx (pre ++ [x]) W'))
    (W : World) (hJ : AbidesFrom W.heap.size J) (hs : Sees mem W) (h0 : J [] W) :
    CallsIn Fence.wide n Tryz.prog 68 #[.func (.yield l) #[] #[], .pointer (some ⟨Bn, 0, none⟩)] W fun e W' => (∃ v, e = .returned v) ∧
      ((∃ ys, ys = goodE es ∧ J ys W') ∨ (∃ pre, pre <+: goodE es ∧ Jx pre W')) := by
  obtain ⟨b, o, ⟨_, ao, cap, rfl, hcap, hcm, hao⟩, hes⟩ := hv
  have hB0 := hs _ _ hBn
  have HES := Lib.hid hes
  have HT := Lib.hid ht
  have HAO := Lib.hid hao
  have HM := Lib.hid hmem
  have HY := Lib.hid hY
  have HJ := Lib.hid hJ
  have hl2 : (es.length : Int) ≤ 9223372036854775807 := by unfold maxLen at hcm; omega
  clear hes hmem hY hJ ht hao
  refine callsIn_of_wp Tryz.func68 rfl trivial ?_ rfl
  simp only [Tryz.ntmps68, List.size_toArray, List.length_cons, List.length_nil, Nat.reduceAdd, Nat.reduceSub, Array.replicate_succ, Array.replicate_zero, List.push_toArray, List.append_toArray, List.nil_append, List.cons_append]
  gi_wp2_with fail
  gi_loopw [7] (fun i wr => ∃ k : Nat, k ≤ es.length ∧ i = .int .i64 k ∧ Sees mem wr ∧ J (goodE (es.take k)) wr) (fun i _ => es.length - (intOf i).toNat)
  case atStart => exact ⟨0, Nat.zero_le _, rfl, hs, h0⟩
  case round =>
    obtain ⟨k, hk, rfl, hsw, hJk⟩ := hrel
    obtain ⟨wo, rfl⟩ : ∃ wo, wo = wr := ⟨_, rfl⟩
    by_cases hlt : k < es.length
    · obtain ⟨hok, hat⟩ := HES.out k hlt
      obtain rfl := HAO.out (by omega)
      have hti := HT.out _ (List.getElem_mem hlt)
      have hat2 : Hid (es[k].at (fun p => wo.cell? p) b (o + k * 23)) := Lib.hid (fun j u hj => hsw _ _ (hat j u hj))
      have hsz : Hid (es[k].cells.size = 23) := Lib.hid rfl
      have hone := Lib.hid (es[k].one)
      have HV := Lib.hid (fun W hW => fvalidE es[k] hok hti W hW)
      have hJ1 := HJ.out _ wo (wo.alloc (.cells es[k].cells 45)) none hJk (World.grownBy_alloc wo _ none) (fun r e => by cases e)
      have HYES : Hid (validF es[k].f = true → goodE (es.take (k + 1)) = goodE (es.take k) ++ [es[k]]) := Lib.hid (goodE_yes hlt)
      have HLT : Hid (validF es[k].f = true → (goodE es)[(goodE (es.take k)).length]? = some es[k]) := Lib.hid (goodE_get hlt)
      have HNO : Hid (validF es[k].f = false → goodE (es.take (k + 1)) = goodE (es.take k)) := Lib.hid (goodE_no hlt)
      have HS1 := Lib.hid (hsw.alloc (.cells es[k].cells 45))
      have HJ1 := Lib.hid hJ1
      clear hok hat hti hsw hJk hJ1
      generalize es[k] = x at *
      generalize validF x.f = q at *
      gi_wp2_with (first
        | ((with_reducible refine gi_at_fload (.tmp 9) rfl ?_); go_must (refine wpListIn_fct_mid (by rfl) _ rfl (by simp [Act.eval]) hat2.out ?_))
        | ((with_reducible refine gi_at_fstore _ _ rfl ?_); go_must (refine wpListIn_fct_new rfl _ _ rfl rfl _ _ _ (by simp [Act.eval]) (by simp [Act.eval]) (by rfl) hsz.out hone.out ?_))
        | ((with_reducible refine gi_at_fload (.tmp 4) rfl ?_); go_must (refine wpListIn_fct_load (by rfl) _ rfl wo.heap.size (by simp [Act.eval]) (World.alloc_heap_new _ _) hsz.out ?_)))
      refine ⟨trivial, (fun h => by cases h), callsIn_wide.2 ((HV.out _ HS1.out).mono ?_)⟩
      rintro e W1 ⟨rfl, hb⟩
      have hbk := Lib.hid ((hb.block wo.heap.size (by simp)).trans (World.alloc_heap_new wo (.cells x.cells 45)))
      have hJ2 := HJ.out _ _ W1 none HJ1.out (grown_none hb) (fun r e => by cases e)
      have HS2 := Lib.hid (HS1.out.bel hb)
      clear hb HS1 HJ1 hat2
      cases q
      · have HJ2 := Lib.hid hJ2
        have hno := HNO.out rfl
        have HN := Lib.hid hno
        clear hJ2 hno HLT HYES
        gi_wp2_with fail
        refine ⟨(fun f h => by cases h), ?_⟩
        gi_wp2_with fail
        go_roundw
        case rel => exact ⟨k + 1, by omega, by go_num, HS2.out, by rw [HN.out]; exact HJ2.out⟩
        case measure => simp [intOf]; omega
      · obtain ⟨fn, tmps, assign, body, hy, hR⟩ := HY.out _ x _ hJ2 (HLT.out rfl)
        have hyes := HYES.out rfl
        have HE := Lib.hid hyes
        clear hJ2 hyes HYES HNO HLT
        gi_wp2_with ((with_reducible refine gi_at_fload (.tmp 4) rfl ?_); go_must (refine wpListIn_fct_load (by rfl) _ rfl wo.heap.size (by simp [Act.eval]) hbk.out hsz.out ?_))
        refine ⟨(fun h => by cases h), ?_⟩
        refine hR.mono ?_
        rintro e W3 (⟨rfl, hJ3, hk3⟩ | ⟨rfl, hJx3⟩)
        · have hs3 : Sees mem W3 := HM.out _ _ hk3 HS2.out
          rw [← HE.out] at hJ3
          clear hk3
          gi_wp2_with fail
          go_roundw
          case rel => exact ⟨k + 1, by omega, by go_num, hs3, hJ3⟩
          case measure => simp [intOf]; omega
        · gi_wp2_with fail
          refine bodyPost_ret (results_none rfl _ _ _) rfl ?_
          exact ⟨⟨_, rfl⟩, .inr ⟨_, by rw [← HE.out]; exact goodE_pre es (k + 1), hJx3⟩⟩
    · have e : k = es.length := by omega
      subst e
      have HJk := Lib.hid hJk
      clear hJk
      gi_wp2_with fail
      go_end0
      exact ⟨⟨_, rfl⟩, .inl ⟨_, by rw [List.take_length], HJk.out⟩⟩

theorem good_list {mem : Addr → Option Value} {v : Value} {es : List FctE} (hv : EsM mem v es) (ht : ∀ e ∈ es, Tidy e.f) : ∃ xs : List (GE mem), xs.map Subtype.val = goodE es := by
  have h : ∀ l : List FctE, (∀ e ∈ l, validF e.f = true ∧ e.ok mem ∧ Tidy e.f) → ∃ xs : List (GE mem), xs.map Subtype.val = l := fun l => by
    induction l with
    | nil => exact fun _ => ⟨[], rfl⟩
    | cons e l ih =>
      intro h
      obtain ⟨xs, hx⟩ := ih fun e he => h e (List.mem_cons_of_mem _ he)
      exact ⟨⟨e, h e List.mem_cons_self⟩ :: xs, by rw [List.map_cons, hx]⟩
  refine h _ fun e he => ?_
  unfold goodE at he
  obtain ⟨h1, h2⟩ := List.mem_filter.1 he
  obtain ⟨b, o, _, h3⟩ := hv
  obtain ⟨j, hj, rfl⟩ := List.getElem_of_mem h1
  exact ⟨h2, (h3 j hj).1, ht _ h1⟩
theorem valid_stops (n Bn : Nat) (Kp : World → World → Prop) (mem : Addr → Option Value) (w : World) (hs : Sees mem w) (hmem : ∀ A B, Kp A B → Sees mem A → Sees mem B) (v : Value) (es : List FctE) (hv : EsM mem v es) (ht : ∀ e ∈ es, Tidy e.f) (hBn : mem ⟨Bn, 0, none⟩ = some v) (xs : List (GE mem)) (hxs : xs.map Subtype.val = goodE es) :
    SeqStopsK Fence.wide n Tryz.prog 68 #[.pointer (some ⟨Bn, 0, none⟩)] (fun x : GE mem => #[.agg x.1.cells]) Kp (fun ys => ys = xs) (fun pre => pre <+: xs) xs.length w :=
  fun l J Jx W hW hJ _ hY h0 => by
    have hlen : xs.length = (goodE es).length := by rw [← hxs, List.length_map]
    have key := valid1 n l Bn Kp mem hmem v es hv ht hBn (fun pre W => ∃ p : List (GE mem), p.map Subtype.val = pre ∧ p <+: xs ∧ J p W) (fun pre W => ∃ p : List (GE mem), p.map Subtype.val = pre ∧ p <+: xs ∧ Jx p W)
      (fun pre x W' ⟨p, h1, h2, h3⟩ hx => by
        have hpl : p.length = pre.length := by rw [← h1, List.length_map]
        have hlt : p.length < xs.length := by rw [hlen, hpl]; exact (List.getElem?_eq_some_iff.1 hx).1
        have hxe : (xs[p.length]'hlt).1 = x := by
          rw [← hxs, List.getElem?_map, ← hpl, List.getElem?_eq_getElem hlt] at hx
          simpa using hx
        have hp2 : p ++ [xs[p.length]'hlt] <+: xs := by
          obtain ⟨t, ht⟩ := h2
          refine ⟨t.drop 1, ?_⟩
          have ht0 : t = xs[p.length]'hlt :: t.drop 1 := by
            have e : t.length = xs.length - p.length := by rw [← ht, List.length_append]; omega
            have e1 : 0 < t.length := by omega
            rw [← List.drop_zero (l := t)]
            rw [List.drop_eq_getElem_cons e1]
            congr 1
            have : xs[p.length]'hlt = (p ++ t)[p.length]'(by rw [ht]; exact hlt) := by simp only [ht]
            rw [this, List.getElem_append_right (Nat.le_refl _)]
            simp
          rw [List.append_assoc, List.singleton_append, ← ht0, ht]
        obtain ⟨fn, tmps, assign, body, hy, hR⟩ := hY p (xs[p.length]'hlt) W' h3 hlt
        dsimp only at hy
        rw [hxe] at hy
        refine ⟨fn, tmps, assign, body, hy, hR.mono ?_⟩
        rintro e W2 (⟨r1, r2, r3⟩ | ⟨r1, r2⟩)
        · exact .inl ⟨r1, ⟨_, by rw [List.map_append, h1, List.map_singleton, hxe], hp2, r2⟩, r3⟩
        · exact .inr ⟨r1, ⟨_, by rw [List.map_append, h1, List.map_singleton, hxe], hp2, r2⟩⟩)
      W (fun s A B row ⟨p, h1, h2, h3⟩ hg hr => ⟨p, h1, h2, hJ p A B row h3 hg hr⟩) (hs.bel hW) ⟨[], rfl, List.nil_prefix, h0⟩
    refine key.mono ?_
    rintro e W' ⟨h1, ⟨ys, rfl, p, h2, h3, h4⟩ | ⟨pre, _, p, _, h3, h4⟩⟩
    · refine ⟨h1, .inl ⟨p, ?_, h4⟩⟩
      obtain ⟨t, ht⟩ := h3
      have e : p.length = xs.length := by rw [hlen, ← h2, List.length_map]
      have e2 : t = [] := List.eq_nil_of_length_eq_zero (by have := congrArg List.length ht; rw [List.length_append] at this; omega)
      rw [e2, List.append_nil] at ht
      exact ht
    · exact ⟨h1, .inr ⟨p, h3, h4⟩⟩
end Go.Proofs.YtgbihmafmmeicaaGreatDoor
namespace Go.Proofs.YtgbihmafmmeicaaGreatDoor
open Go.RowKit Go.Maps

def KMap (P : Program) (k : TypeId) (w : World) (b : Nat) (n : Nat) (g : Value → Option Value) : Prop :=
  ∃ D : DataW Value, w.ownsMap P k heldV b n D ∧ ∀ key kl, keyOf P k key = some kl → Maps.has D kl = (g key).isSome ∧ ∀ z, D.atKey kl (.held z) = .held ((g key).getD z)
section
variable {P : Program} {k : TypeId} {w w' : World} {b n : Nat} {g : Value → Option Value}
theorem KMap.made {w : World} {b : Nat} (P : Program) (k : TypeId) (h : w.heap[b]? = some (.map #[] 0)) : KMap P k w b 0 (fun _ => none) := by
  obtain ⟨es, clock, h1, r⟩ := World.ownsMap_made w P k heldV
  rw [World.alloc_heap_new] at h1
  injection h1 with h1
  injection h1 with h1 h2
  subst h1 h2
  exact ⟨_, ⟨_, _, h, r⟩, fun key kl _ => ⟨rfl, fun _ => rfl⟩⟩
theorem KMap.lt (h : KMap P k w b n g) : b < w.heap.size := by obtain ⟨D, h, _⟩ := h; exact h.lt
theorem KMap.of_block (h : KMap P k w b n g) (e : w'.heap[b]? = w.heap[b]?) : KMap P k w' b n g := by
  obtain ⟨D, ⟨es, clock, hb, r⟩, h2⟩ := h
  exact ⟨D, ⟨es, clock, e.trans hb, r⟩, h2⟩
theorem KMap.upd {F : Nat → Prop} (h : KMap P k w b n g) (hu : Upd F w w') (hn : ¬ F b) : KMap P k w' b n g := h.of_block (hu.block _ h.lt hn)
theorem KMap.below {B : Nat} (h : KMap P k w b n g) (hu : Below B w w') (hn : b < B) : KMap P k w' b n g := h.of_block (hu.block _ hn)
theorem KMap.bel (h : KMap P k w b n g) (hu : Below w.heap.size w w') : KMap P k w' b n g := h.below hu h.lt
theorem KMap.grown {row : Option Nat} (h : KMap P k w b n g) (hu : w.grownBy w' row) (hn : some b ≠ row) : KMap P k w' b n g := h.of_block (hu.block _ h.lt hn)
theorem KMap.alloc (h : KMap P k w b n g) (o : Obj) : KMap P k (w.alloc o) b n g := h.of_block (Below.heap_alloc _ _ _ h.lt)
theorem KMap.drew (h : KMap P k w b n g) : KMap P k w.drew b n g := h
theorem KMap.setCell (h : KMap P k w b n g) {p : Addr} (u : Value) (hn : b ≠ p.block) : KMap P k (w.setCell p u) b n g := h.of_block (Below.heap_setCell _ _ _ _ hn)
theorem KMap.look (h : KMap P k w b n g) (K : Keyed P k) {t e : TypeId} (ht : P.underlying t = some (.map k e)) {z : Value} (hz : (zeroValue e).run P w = .ok z w) {key : Value} {kl : Lit} (hk : keyOf P k key = some kl) :
    (Instr.lookup t (.map (some b)) key false).run P w = .ok ((g key).getD z) w := by
  obtain ⟨D, ho, hD⟩ := h
  obtain ⟨v, ps, hr, hv⟩ := ho.lookup K ht hz (zd := .held z) (zp := []) rfl hk
  rw [(hD key kl hk).2 z] at hv
  have : v = (g key).getD z := by
    have := (Option.some.inj hv)
    injection this with h1 _
    injection h1
  rw [← this]; exact hr
theorem KMap.lookOk (h : KMap P k w b n g) (K : Keyed P k) {t e : TypeId} (ht : P.underlying t = some (.map k e)) {z : Value} (hz : (zeroValue e).run P w = .ok z w) {key : Value} {kl : Lit} (hk : keyOf P k key = some kl) :
    (Instr.lookup t (.map (some b)) key true).run P w = .ok (.tuple #[(g key).getD z, .bool (g key).isSome]) w := by
  obtain ⟨D, ho, hD⟩ := h
  obtain ⟨v, ps, hr, hv⟩ := ho.look_ok K ht hz (zd := .held z) (zp := []) rfl hk
  rw [(hD key kl hk).2 z] at hv
  have : v = (g key).getD z := by
    have := (Option.some.inj hv)
    injection this with h1 _
    injection h1
  rw [← this, ← (hD key kl hk).1]; exact hr
open Classical in
theorem KMap.store (h : KMap P k w b n g) (K : Keyed P k) {t e : TypeId} (ht : P.underlying t = some (.map k e)) (hl : n < maxLen) {key : Value} {kl : Lit} (hk : keyOf P k key = some kl) (v : Value) :
    ∃ w', (Instr.mapUpdate t (.map (some b)) key v).run P w = .ok () w' ∧ KMap P k w' b (n + 1) (fun x => if x = key then some v else g x) ∧ w.grownBy w' (some b) := by
  obtain ⟨D, ho, hD⟩ := h
  obtain ⟨w', hr, ho', hg⟩ := ho.update K ht hl hk (val := v) (d := .held v) (ps := []) rfl
  have hkl := K.key hk
  refine ⟨w', hr, ⟨_, ho', fun x xl hx => ?_⟩, hg⟩
  by_cases e : x = key
  · subst e
    obtain rfl : xl = kl := by rw [hx] at hk; exact Option.some.inj hk
    rw [has_put_same ho.isMap hkl]
    dsimp only
    rw [if_pos rfl]
    refine ⟨rfl, fun z => ?_⟩
    rw [atKey_put_same ho.isMap hkl]; rfl
  · have hne : xl ≠ kl := fun h => e (K.inj (h ▸ hx) hk)
    rw [has_put_other hne]
    dsimp only
    rw [if_neg e]
    refine ⟨(hD x xl hx).1, fun z => ?_⟩
    rw [atKey_put_other hne]
    exact (hD x xl hx).2 z
end
end Go.Proofs.YtgbihmafmmeicaaGreatDoor
namespace Go.Proofs.YtgbihmafmmeicaaGreatDoor
open Go.RowKit Mg Go.Shelf

def rowVals (es : List FctE) : List Value := es.flatMap fun e => e.cells.toList
def FRow (w : World) (B : Nat) (v : Value) (es : List FctE) : Prop := w.ownsRow B 45 23 v es.length (rowVals es)
theorem FRow.nil (w : World) (B : Nat) : FRow w B (.slice none 0 0) [] := World.ownsRow_nil _ _ _ _
theorem FRow.sl {w : World} {B : Nat} {v : Value} {es : List FctE} (h : FRow w B v es) : ∃ ao n cap, v = .slice ao n cap := by
  rcases h.2 with ⟨rfl, _⟩ | ⟨g, cap, cur, rfl, _⟩
  · exact ⟨_, _, _, rfl⟩
  · exact ⟨_, _, _, rfl⟩
theorem FRow.ge {w : World} {B : Nat} {v : Value} {es : List FctE} (h : FRow w B v es) : ∀ k, v.ownBlock = some k → B ≤ k ∧ k < w.heap.size := World.ownsRow.lt h
theorem FRow.kept {w w' : World} {B : Nat} {v : Value} {es : List FctE} {F : Nat → Prop} (h : FRow w B v es) (hu : Upd F w w') (hn : ∀ k, v.ownBlock = some k → ¬ F k) : FRow w' B v es := by
  refine ⟨h.1, ?_⟩
  rcases h.2 with hq | ⟨g, cap, cur, rfl, hb, hgg, rest⟩
  · exact .inl hq
  · exact .inr ⟨g, cap, cur, rfl, hb, (hu.block g (Array.getElem?_eq_some_iff.1 hgg).1 (hn g rfl)).trans hgg, rest⟩
theorem FRow.same {w w' : World} {B : Nat} {v : Value} {es : List FctE} (h : FRow w B v es) (he : ∀ k, v.ownBlock = some k → w'.heap[k]? = w.heap[k]?) : FRow w' B v es := by
  refine ⟨h.1, ?_⟩
  rcases h.2 with hq | ⟨g, cap, cur, rfl, hb, hgg, rest⟩
  · exact .inl hq
  · exact .inr ⟨g, cap, cur, rfl, hb, (he g rfl).trans hgg, rest⟩
theorem FRow.blk {w : World} {B : Nat} {v : Value} {es : List FctE} (h : FRow w B v es) : ∀ k, v.ownBlock = some k → ∃ cs, w.heap[k]? = some (.cells cs 45 (0, 0)) := fun k hk => by
  rcases h.2 with ⟨rfl, _⟩ | ⟨g, cap, cur, rfl, _, hgg, _⟩
  · cases hk
  · injection hk with hk
    subst hk
    exact ⟨_, hgg⟩
theorem rowVals_get : ∀ (es : List FctE) (j t : Nat) (hj : j < es.length), t < 23 → (rowVals es)[j * 23 + t]? = es[j].cells[t]?
  | [], _, _, hj, _ => by simp at hj
  | e :: es, 0, t, _, ht => by
    unfold rowVals
    rw [List.flatMap_cons, List.getElem?_append_left (by have := e.size; rw [Array.length_toList]; omega)]
    simp
  | e :: es, j + 1, t, hj, ht => by
    unfold rowVals
    have hs : e.cells.toList.length = 23 := by rw [Array.length_toList]; exact e.size
    rw [List.flatMap_cons, List.getElem?_append_right (by omega), hs, show (j + 1) * 23 + t - 23 = j * 23 + t by omega]
    exact rowVals_get es j t (by simpa using hj) ht
theorem rowVals_snoc (es : List FctE) (x : FctE) : rowVals (es ++ [x]) = rowVals es ++ x.cells.toList := by unfold rowVals; rw [List.flatMap_append]; simp
theorem FRow.es {w : World} {B : Nat} {v : Value} {es : List FctE} (h : FRow w B v es) (hok : ∀ e ∈ es, e.ok (fun a => w.cell? a)) : EsM (fun a => w.cell? a) v es := by
  rcases h.2 with ⟨rfl, hz⟩ | ⟨g, cap, cur, rfl, hb, hgg, hn, hc, hs, ht⟩
  · have : es = [] := List.eq_nil_of_length_eq_zero hz
    subst this
    exact ⟨0, 0, sliceNil, fun j hj => absurd hj (by simp)⟩
  · refine ⟨g, 0, ⟨Nat.le_trans hn hc, some ⟨g, 0, none⟩, cap, rfl, hn, hc, fun _ => rfl⟩, fun j hj => ⟨hok _ (List.getElem_mem hj), fun i u hi => ?_⟩⟩
    have hi23 : i < 23 := by
      have := (Array.getElem?_eq_some_iff.1 hi).1
      rw [FctE.size] at this
      exact this
    dsimp only
    rw [blk_cell hgg]
    have h5 : (cur.toList.take (es.length * 23))[j * 23 + i]? = (rowVals es)[j * 23 + i]? := by rw [ht]
    rw [List.getElem?_take_of_lt (by omega), rowVals_get es j i hj hi23, hi] at h5
    rw [show 0 + j * 23 + i = j * 23 + i by omega, ← Array.getElem?_toList]
    exact h5
theorem fct_info : (Tryz.prog.info? 45).map (fun i => (i.zero, i.size, i.bytes)) = some (some (.agg #[.int .i64 0, .int .i64 0, .int .i64 0, .int .i64 0, .string .empty, .int .i64 0, .int .i64 0, .string .empty, .string .empty, .slice none 0 0, .slice none 0 0, .int .i64 0, .slice none 0 0, .int .i64 0, .int .i64 0, .int .i64 0, .int .i64 0, .int .i64 0, .string .empty, .string .empty, .int .i64 0, .int .i64 0, .int .i64 0]), 23, 272) := by kernel_rfl
theorem run_app_fct {w : World} {B : Nat} {v : Value} {es : List FctE} (h : FRow w B v es) (x : FctE) (g c : Nat) (hc : w.heap[g]? = some (.cells x.cells 45 (0, 0))) (hlen : es.length ≤ 100000) (hB : B ≤ w.heap.size) (ty : Nat) :
    ∃ v' w', (Builtin.append_ #[25, 25] ty #[v, .slice (some ⟨g, 0, none⟩) 1 c]).run Tryz.prog w = .ok v' w' ∧ FRow w' B v' (es ++ [x]) ∧ w.grownBy w' v.ownBlock ∧ (v'.ownBlock = v.ownBlock ∨ v'.ownBlock = some w.heap.size) := by
  obtain ⟨i0, hi0, hz0, hz1, hz2⟩ := info_parts fct_info
  obtain ⟨v', w', hr, g2, g3, _, g5⟩ := run_append_own_at (P := Tryz.prog) w B 25 ty 45 i0 _ 23 272 Tryz.underlying25 hi0 hz0 hz1 hz2 rfl (by decide) v es.length (rowVals es) h ⟨g, 0, none⟩ 1 c x.cells.toList (by rw [Array.length_toList, FctE.size])
    (fun j u hj => by
      have e : (⟨g, 0, none⟩ : Addr).add j = ⟨g, j, none⟩ := by unfold Addr.add; by_cases h0 : j = 0 <;> simp [h0]
      rw [e, blk_cell hc]
      rw [← hj]; simp)
    (fun u hu => (Array.all_eq_true_iff_forall_mem.1 x.one) u (by simpa using hu)) (by unfold maxLen; omega) (by omega) hB
  exact ⟨v', w', hr, by unfold FRow; rw [List.length_append, rowVals_snoc]; exact g2, g3, g5⟩
theorem fct_fill (e : FctE) (z : Value) (hz : z = .agg #[.int .i64 0, .int .i64 0, .int .i64 0, .int .i64 0, .string .empty, .int .i64 0, .int .i64 0, .string .empty, .string .empty, .slice none 0 0, .slice none 0 0, .int .i64 0, .slice none 0 0, .int .i64 0, .int .i64 0, .int .i64 0, .int .i64 0, .int .i64 0, .string .empty, .string .empty, .int .i64 0, .int .i64 0, .int .i64 0]) :
    Instr.fill (fun i => some (i * 23, 23)) ((Array.range (1 * 23)).map (z.cells[· % z.cells.size]!)) [(0, .agg e.cells)] = some e.cells := by
  subst hz
  obtain ⟨⟨x0, x1, x2, x3, x4, x5, x6, x7, x8, x9, x10, ⟨y1, y2, y3, y4⟩, x12, x13, x14, x15, x16, x17, x18, x19⟩, ta, tc, ba, bc, aa, ac⟩ := e
  kernel_rfl
section
variable {o : Oper} {a : Act} {W : World} {K : Act → World → Prop} {Q : Exit → Act → World → Prop}
theorem wp_fct_slice (parts : Array (Nat × Operand)) (ho : o.op = .buildSlice 25 1 parts) (e : FctE) (hf : (parts.map fun (i, x) => (i, a.eval x)).toList = [(0, .agg e.cells)])
    (h : K (a.put o.dst (.slice (some ⟨W.heap.size, 0, none⟩) 1 1)) (W.alloc (.cells e.cells 45))) : o.wp Tryz.prog a W K Q := by
  obtain ⟨i0, hi0, hz0, hz1, hz2⟩ := info_parts fct_info
  refine wp_buildSlice 25 45 1 parts ho e.cells i0 _ Tryz.underlying25 hi0 hz0 (by rw [hz1]; decide) (by rw [hz1]; decide) ?_ h
  rw [hf, hz1]
  exact fct_fill e _ rfl
theorem wp_app_fct (s x : Operand) (ho : o.op = .call { callee := .builtin .append, args := #[s, x], argTypes := #[25, 25] })
    (B : Nat) (v : Value) (es : List FctE) (hs : a.eval s = v) (hown : FRow W B v es) (e : FctE) (g c : Nat) (hx : a.eval x = .slice (some ⟨g, 0, none⟩) 1 c) (hc : W.heap[g]? = some (.cells e.cells 45 (0, 0))) (hlen : es.length ≤ 100000) (hB : B ≤ W.heap.size)
    (h : ∀ v' w', FRow w' B v' (es ++ [e]) → W.grownBy w' v.ownBlock → (v'.ownBlock = v.ownBlock ∨ v'.ownBlock = some W.heap.size) → K (a.put o.dst v') w') : o.wp Tryz.prog a W K Q := by
  obtain ⟨v', w', hr, h2, h3, h4⟩ := run_app_fct hown e g c hc hlen hB o.type
  unfold Oper.wp execOp
  simp only [ho, resolve, invoke, builtin, Sem.run_bind, Sem.run_pure, Result.andThen_ok, List.map_toArray, List.map_cons, List.map_nil, hs, hx, hr]
  exact h v' w' h2 h3 h4
end
theorem ofFn_set {n : Nat} (f : Nat → Value) (j : Nat) (u : Value) : (Array.ofFn (n := n) fun i => f i.1).setIfInBounds j u = Array.ofFn (n := n) fun i => if i.1 = j then u else f i.1 := by
  apply Array.ext
  · simp
  · intro i h1 h2
    have hi : i < n := by simpa using h1
    rw [Array.getElem_ofFn, Array.getElem_setIfInBounds (by simpa using hi)]
    by_cases e : j = i
    · subst e; simp
    · rw [if_neg e, if_neg (Ne.symm e), Array.getElem_ofFn]
def Tab (W : World) (d n : Nat) (t : TypeId) (f : Nat → Value) : Prop := W.heap[d]? = some (.cells (Array.ofFn (n := n) fun i => f i.1) t (0, 0))
section
variable {W W' : World} {d n : Nat} {t : TypeId} {f : Nat → Value}
theorem Tab.cell (h : Tab W d n t f) {j : Nat} (hj : j < n) : W.cell? ⟨d, j, none⟩ = some (f j) := by
  rw [blk_cell h, Array.getElem?_eq_getElem (by simpa using hj), Array.getElem_ofFn]
theorem Tab.frozen (h : Tab W d n t f) (j : Nat) : W.frozen? ⟨d, j, none⟩ = false := blk_free h j
theorem Tab.lt (h : Tab W d n t f) : d < W.heap.size := (Array.getElem?_eq_some_iff.1 h).1
theorem Tab.set (h : Tab W d n t f) (j : Nat) (u : Value) : Tab (W.setCell ⟨d, j, none⟩ u) d n t (fun i => if i = j then u else f i) := by
  rw [setCell_eq_setRow W d j _ t (0, 0) u h, ofFn_set]
  exact setRow_heap _ _ _ _ _ _ h
theorem Tab.congr (h : Tab W d n t f) {g : Nat → Value} (e : ∀ i, i < n → f i = g i) : Tab W d n t g := by
  unfold Tab at h ⊢
  rw [h]
  congr 3
  funext i
  exact e i.1 i.2
theorem Tab.block (h : Tab W d n t f) (e : W'.heap[d]? = W.heap[d]?) : Tab W' d n t f := e.trans h
end
def dc (v : Value) (P T : Nat → Bool) (L : Nat → Nat → Value) (A : Nat → Int) (m : Value) (i : Nat) : Value :=
  if i = 0 then v else if i < 66 then .bool (P (i - 1)) else if i < 131 then .bool (T (i - 66)) else if i < 391 then L ((i - 131) / 4) ((i - 131) % 4) else if i < 456 then .int .i64 (A (i - 391)) else m
section
variable {v : Value} {P T : Nat → Bool} {L : Nat → Nat → Value} {A : Nat → Int} {m : Value}
theorem dc_v : dc v P T L A m 0 = v := rfl
theorem dc_p {s : Nat} (h : s < 65) : dc v P T L A m (1 + s) = .bool (P s) := by unfold dc; rw [if_neg (by omega), if_pos (by omega), show 1 + s - 1 = s by omega]
theorem dc_t {s : Nat} (h : s < 65) : dc v P T L A m (66 + s) = .bool (T s) := by unfold dc; rw [if_neg (by omega), if_neg (by omega), if_pos (by omega), show 66 + s - 66 = s by omega]
theorem dc_l {s k : Nat} (h : s < 65) (hk : k < 4) : dc v P T L A m (131 + s * 4 + k) = L s k := by unfold dc; rw [if_neg (by omega), if_neg (by omega), if_neg (by omega), if_pos (by omega), show (131 + s * 4 + k - 131) / 4 = s by omega, show (131 + s * 4 + k - 131) % 4 = k by omega]
theorem dc_a {s : Nat} (h : s < 65) : dc v P T L A m (391 + s) = .int .i64 (A s) := by unfold dc; rw [if_neg (by omega), if_neg (by omega), if_neg (by omega), if_neg (by omega), if_pos (by omega), show 391 + s - 391 = s by omega]
theorem dc_setV (u : Value) (i : Nat) : (if i = 0 then u else dc v P T L A m i) = dc u P T L A m i := by
  unfold dc; by_cases h : i = 0 <;> simp [h]
theorem dc_setP {s : Nat} (h : s < 65) (b : Bool) (i : Nat) : (if i = 1 + s then .bool b else dc v P T L A m i) = dc v (fun k => if k = s then b else P k) T L A m i := by
  by_cases e : i = 1 + s
  · subst e; rw [if_pos rfl, dc_p h, if_pos rfl]
  · rw [if_neg e]
    unfold dc
    repeat' split
    all_goals first | (exfalso; omega) | (dsimp only; rw [if_neg (by omega)]; done) | (dsimp only; rw [if_neg (fun h => by omega)]; done) | rfl
theorem dc_setT {s : Nat} (h : s < 65) (b : Bool) (i : Nat) : (if i = 66 + s then .bool b else dc v P T L A m i) = dc v P (fun k => if k = s then b else T k) L A m i := by
  by_cases e : i = 66 + s
  · subst e; rw [if_pos rfl, dc_t h, if_pos rfl]
  · rw [if_neg e]
    unfold dc
    repeat' split
    all_goals first | (exfalso; omega) | (dsimp only; rw [if_neg (by omega)]; done) | (dsimp only; rw [if_neg (fun h => by omega)]; done) | rfl
theorem dc_setA {s : Nat} (h : s < 65) (x : Int) (i : Nat) : (if i = 391 + s then .int .i64 x else dc v P T L A m i) = dc v P T L (fun k => if k = s then x else A k) m i := by
  by_cases e : i = 391 + s
  · subst e; rw [if_pos rfl, dc_a h, if_pos rfl]
  · rw [if_neg e]
    unfold dc
    repeat' split
    all_goals first | (exfalso; omega) | (dsimp only; rw [if_neg (by omega)]; done) | (dsimp only; rw [if_neg (fun h => by omega)]; done) | rfl
theorem dc_setL {s j : Nat} (h : s < 65) (hj : j < 4) (u : Value) (i : Nat) : (if i = 131 + s * 4 + j then u else dc v P T L A m i) = dc v P T (fun k q => if k = s ∧ q = j then u else L k q) A m i := by
  by_cases e : i = 131 + s * 4 + j
  · subst e; rw [if_pos rfl, dc_l h hj, if_pos ⟨rfl, rfl⟩]
  · rw [if_neg e]
    unfold dc
    repeat' split
    all_goals first | (exfalso; omega) | (dsimp only; rw [if_neg (by omega)]; done) | (dsimp only; rw [if_neg (fun h => by omega)]; done) | rfl
end
def lastBy (p : FctE → Bool) : List FctE → Option FctE
  | [] => none
  | e :: r => match lastBy p r with
    | some g => some g
    | none => if p e then some e else none
theorem lastBy_snoc (p : FctE → Bool) (x : FctE) : ∀ es : List FctE, lastBy p (es ++ [x]) = if p x then some x else lastBy p es
  | [] => by
    show lastBy p [x] = _
    unfold lastBy
    rfl
  | e :: r => by
    show lastBy p (e :: (r ++ [x])) = _
    unfold lastBy
    rw [lastBy_snoc p x r]
    by_cases h : p x = true
    · rw [if_pos h, if_pos h]
    · rw [if_neg h, if_neg h]
theorem lastBy_mem {p : FctE → Bool} : ∀ {es : List FctE} {e : FctE}, lastBy p es = some e → e ∈ es ∧ p e = true
  | [], _, h => by cases h
  | g :: r, e, h => by
    unfold lastBy at h
    split at h
    · next hr =>
      injection h with h
      subst h
      obtain ⟨h1, h2⟩ := lastBy_mem hr
      exact ⟨List.mem_cons_of_mem _ h1, h2⟩
    · split at h
      · next hp => injection h with h; subst h; exact ⟨List.mem_cons_self, hp⟩
      · cases h
theorem lastPub_by (s : Int) : ∀ es : List FctE, lastPub (es.map FctE.f) s = (lastBy (fun e => isPub s e.f) es).map FctE.f
  | [] => rfl
  | e :: r => by
    have ih := lastPub_by s r
    rw [List.map_cons]
    unfold lastPub lastBy
    rw [ih]
    cases lastBy (fun e => isPub s e.f) r with
    | some g => rfl
    | none => dsimp only [Option.map_none]; split <;> rfl
theorem lastRev_by (s : Int) (lang : ByteArray) (rev : Int) : ∀ es : List FctE, lastRev (es.map FctE.f) s lang rev = (lastBy (fun e => isRev s lang rev e.f) es).map FctE.f
  | [] => rfl
  | e :: r => by
    have ih := lastRev_by s lang rev r
    rw [List.map_cons]
    unfold lastRev lastBy
    rw [ih]
    cases lastBy (fun e => isRev s lang rev e.f) r with
    | some g => rfl
    | none => dsimp only [Option.map_none]; split <;> rfl
end Go.Proofs.YtgbihmafmmeicaaGreatDoor
namespace Go.Proofs.YtgbihmafmmeicaaGreatDoor
open Go.RowKit Mg Go.Maps

theorem rev_keyed : Keyed Tryz.prog 91 := Keyed.of_law (deep_law (m := 3) (by omega) (by kernel_rfl) (by kernel_rfl) (by rw [Tryz.underlying91]))
theorem place_keyed : Keyed Tryz.prog 98 := Keyed.of_law (deep_law (m := 3) (by omega) (by kernel_rfl) (by kernel_rfl) (by rw [Tryz.underlying98]))
def key3 (s : Int) (l : ByteArray) (r : Int) : Value := .agg #[.int .i64 s, .string l, .int .i64 r]
theorem key3_inj {s r s' r' : Int} {l l' : ByteArray} : key3 s l r = key3 s' l' r' ↔ s = s' ∧ l = l' ∧ r = r' := by
  unfold key3
  simp
theorem types_size : ∃ n, Tryz.prog.types.size = n + 1 := by
  have h : decide (0 < Tryz.prog.types.size) = true := by kernel_rfl
  have := of_decide_eq_true h
  exact ⟨Tryz.prog.types.size - 1, by omega⟩
theorem rev_key (s r : Int) (l : ByteArray) (hs : okI s) (hr : okI r) (hl : l.size ≤ maxLen) : ∃ kl, keyOf Tryz.prog 91 (key3 s l r) = some kl := by
  have h1 : Tryz.prog.keyType 91 = true := by kernel_rfl
  have h2 : Tryz.prog.cellsOf 91 = 3 := by kernel_rfl
  have h3 : Tryz.prog.cellsOf 3 = 1 := by kernel_rfl
  have h4 : Tryz.prog.cellsOf 9 = 1 := by kernel_rfl
  obtain ⟨n, hn⟩ := types_size
  have w1 : (Lit.int .i64 s).wf = true := okI_wf hs
  have w2 : (Lit.int .i64 r).wf = true := okI_wf hr
  unfold keyOf key3
  rw [Tryz.underlying91, hn]
  simp [h1, Value.formed, Tryz.underlying91, h2, Value.cells, Program.keyLits, h3, h4, Tryz.underlying3, Tryz.underlying9, w1, w2, hl]
theorem place_key (s r : Int) (l : ByteArray) (hs : okI s) (hr : okI r) (hl : l.size ≤ maxLen) : ∃ kl, keyOf Tryz.prog 98 (key3 s l r) = some kl := by
  have h1 : Tryz.prog.keyType 98 = true := by kernel_rfl
  have h2 : Tryz.prog.cellsOf 98 = 3 := by kernel_rfl
  have h3 : Tryz.prog.cellsOf 3 = 1 := by kernel_rfl
  have h4 : Tryz.prog.cellsOf 9 = 1 := by kernel_rfl
  obtain ⟨n, hn⟩ := types_size
  have w1 : (Lit.int .i64 s).wf = true := okI_wf hs
  have w2 : (Lit.int .i64 r).wf = true := okI_wf hr
  unfold keyOf key3
  rw [Tryz.underlying98, hn]
  simp [h1, Value.formed, Tryz.underlying98, h2, Value.cells, Program.keyLits, h3, h4, Tryz.underlying3, Tryz.underlying9, w1, w2, hl]
end Go.Proofs.YtgbihmafmmeicaaGreatDoor
namespace Go.Proofs.YtgbihmafmmeicaaGreatDoor
open Go.RowKit Mg Go.Shelf
attribute [local go_sem] Oper.semAt_some

def dc0 (m : Value) : Nat → Value := dc (.slice none 0 0) (fun _ => false) (fun _ => false) (fun _ k => if k = 1 then .slice none 0 0 else .int .i64 0) (fun _ => 0) m
def digNew (m : Value) : Array Value := ((List.range 457).map (dc0 m)).toArray
theorem range_ofFn (n : Nat) (f : Nat → Value) : ((List.range n).map f).toArray = Array.ofFn (n := n) fun i => f i.1 := by
  apply Array.ext
  · simp
  · intro i h1 h2
    simp
theorem dig_built (b : Nat) : Tryz.prog.built 84 [(5, .map (some b))] = some (digNew (.map (some b))) := by kernel_rfl
section
variable {F : Fence} {n : Nat} {ops : Array Oper} {rest : List Oper} {o : Oper} {a : Act} {W : World} {Q : Exit → Act → World → Prop} {K : Act → World → Prop}
theorem gi_at_dbuild (parts : Array (Nat × Operand)) (_ : o.op = .build 84 parts) (h : wpListIn F n Tryz.prog ops Q (o :: rest) a W) : wpListIn F n Tryz.prog ops Q (o :: rest) a W := h
theorem wpListIn_dig_build (hgd : o.guard = none) (parts : Array (Nat × Operand)) (ho : o.op = .build 84 parts) (b : Nat)
    (hf : (parts.map fun (i, x) => (i, a.eval x)).toList = [(5, .map (some b))])
    (h : wpListIn F n Tryz.prog ops Q rest (a.put o.dst (.agg (digNew (.map (some b))))) W) : wpListIn F n Tryz.prog ops Q (o :: rest) a W :=
  wpListIn_plain hgd fun K hK => by
    refine wpIn_value (v := .agg (digNew (.map (some b)))) (W' := W) (fun c e => by rw [ho] at e; cases e) (by simp [Oper.about, ho]) ?_ (hK _ _ h)
    unfold execOp
    simp only [ho, Sem.run_bind, run_build W 84 _ (digNew (.map (some b))) (by rw [hf]; exact dig_built b), Result.andThen_ok, Sem.run_pure]
end

def KeepB (N : Nat) (F : Nat → Prop) (X Y : World) : Prop := ∀ k, k < N → ¬ F k → Y.heap[k]? = X.heap[k]?
theorem keepB_t {N : Nat} {F : Nat → Prop} {X Y Z : World} (h : KeepB N F X Y) (k : KeepB N F Y Z) : KeepB N F X Z := fun i hi hf => (k i hi hf).trans (h i hi hf)
theorem keepB_b {N : Nat} {F : Nat → Prop} {w : World} (hN : N ≤ w.heap.size) (W : World) (l : Nat) (o o' : Obj) (hl : w.heap.size ≤ l) (_ : W.heap[l]? = some o) (_ : o.isCells = false) (_ : o.isWalk = false) : KeepB N F W (W.putObj l o') :=
  fun k hk _ => World.putObj_heap_other (by omega)
theorem sees_keepB {mem : Addr → Option Value} {N : Nat} {F : Nat → Prop} (hmem : ∀ a u, mem a = some u → a.block < N ∧ ¬ F a.block) (X Y : World) (h : KeepB N F X Y) (hs : Sees mem X) : Sees mem Y :=
  fun a u e => (World.cell?_of_block (h a.block (hmem a u e).1 (hmem a u e).2)).trans (hs a u e)
def pubE (es : List FctE) (k : Nat) : Bool := (lastBy (fun e => isPub (k : Nat) e.f) es).isSome
def takE (es : List FctE) (k : Nat) : Bool := es.any fun e => isTake (k : Nat) e.f
def labCell (e : FctE) (q : Nat) : Value := if q = 0 then .int .i64 e.f.lab.till else if q = 1 then e.av else if q = 2 then .int .i64 e.f.lab.appr else .int .i64 e.f.lab.denied
def labE (es : List FctE) (k q : Nat) : Value := match lastBy (fun e => isPub (k : Nat) e.f) es with
  | some e => labCell e q
  | none => if q = 1 then .slice none 0 0 else .int .i64 0
def mask5 (a b c d e : Bool) : Nat := (if a then 2 else 0) + (if b then 4 else 0) + (if c then 8 else 0) + (if d then 16 else 0) + (if e then 32 else 0)
def hasEd (es : List FctE) (k : Nat) (e : Int) : Bool := es.any fun x => byEditor (k : Nat) e x.f
def maskF (es : List FctE) (k : Nat) : Nat := mask5 (hasEd es k 1) (hasEd es k 2) (hasEd es k 3) (hasEd es k 4) (hasEd es k 5)
theorem mask5_lt (a b c d e : Bool) : mask5 a b c d e < 64 := by cases a <;> cases b <;> cases c <;> cases d <;> cases e <;> decide
open Classical in
noncomputable def gRev : List FctE → Value → Option Value
  | [], _ => none
  | e :: r, key => match gRev r key with
    | some v => some v
    | none => if e.f.kind = 1 ∧ key = key3 e.f.story e.f.lang e.f.rev then some (.agg e.cells) else none
structure RI (w0 : World) (N : Nat) (er : List FctE) (P T : Nat → Bool) (L : Nat → Nat → Value) (g : Value → Option Value) (M : Nat → Nat) (W : World) : Prop where
  row : ∃ v, FRow W (N + 5) v er ∧ Tab W (N + 1) 457 84 (dc v P T L (fun _ => 0) (.map (some N)))
  map : ∃ n, n ≤ er.length ∧ KMap Tryz.prog 91 W N n g
  box : W.heap[N + 2]? = some (.cells #[.pointer (some ⟨N + 1, 0, none⟩)] 63 (0, 0))
  ed : Tab W (N + 3) 65 86 (fun k => .int .u64 (M k : Nat))
  bel : Below N w0 W
  sz : N + 5 ≤ W.heap.size
abbrev RIs (w0 : World) (N : Nat) (es : List FctE) (W : World) : Prop := RI w0 N es (pubE es) (takE es) (labE es) (gRev es) (maskF es) W
section
variable {es : List FctE} {x : FctE}
theorem isPub_other {k : Int} {f : Fct} (h : f.kind ≠ 3) : isPub k f = false := by unfold isPub; simp [h]
theorem isTake_other {k : Int} {f : Fct} (h : f.kind ≠ 6) : isTake k f = false := by unfold isTake; simp [h]
theorem byEd_other {k e : Int} {f : Fct} (h : f.kind ≠ 2) : byEditor k e f = false := by unfold byEditor; simp [h]
theorem pubE_other (h : x.f.kind ≠ 3) : pubE (es ++ [x]) = pubE es := by
  funext k
  unfold pubE
  rw [lastBy_snoc, isPub_other h]
  rfl
theorem labE_other (h : x.f.kind ≠ 3) : labE (es ++ [x]) = labE es := by
  funext k q
  unfold labE
  rw [lastBy_snoc, isPub_other h]
  rfl
theorem takE_other (h : x.f.kind ≠ 6) : takE (es ++ [x]) = takE es := by
  funext k
  unfold takE
  rw [List.any_append]
  simp [isTake_other h]
theorem maskF_other (h : x.f.kind ≠ 2) : maskF (es ++ [x]) = maskF es := by
  funext k
  unfold maskF hasEd
  simp [List.any_append, byEd_other h]
theorem gRev_snoc : ∀ es : List FctE, gRev (es ++ [x]) = fun key => open Classical in if x.f.kind = 1 ∧ key = key3 x.f.story x.f.lang x.f.rev then some (.agg x.cells) else gRev es key
  | [] => rfl
  | e :: r => by
    funext key
    show gRev (e :: (r ++ [x])) key = _
    unfold gRev
    rw [gRev_snoc r]
    by_cases h : x.f.kind = 1 ∧ key = key3 x.f.story x.f.lang x.f.rev
    · simp only [if_pos h]
    · simp only [if_neg h]
theorem gRev_other (h : x.f.kind ≠ 1) : gRev (es ++ [x]) = gRev es := by
  rw [gRev_snoc]
  funext key
  rw [if_neg (fun e => h e.1)]
open Classical in
theorem gRev_rev (h : x.f.kind = 1) : gRev (es ++ [x]) = fun key => if key = key3 x.f.story x.f.lang x.f.rev then some (.agg x.cells) else gRev es key := by
  rw [gRev_snoc]
  funext key
  by_cases e : key = key3 x.f.story x.f.lang x.f.rev
  · rw [if_pos ⟨h, e⟩, if_pos e]
  · rw [if_neg (fun e2 => e e2.2), if_neg e]
theorem pubE_pub {s : Nat} (h : x.f.kind = 3) (hs : x.f.story = (s : Nat)) : pubE (es ++ [x]) = fun k => if k = s then true else pubE es k := by
  funext k
  unfold pubE
  rw [lastBy_snoc]
  unfold isPub
  rw [h, hs]
  by_cases e : k = s
  · subst e; simp
  · rw [if_neg e, if_neg (by simp; omega)]
theorem labE_pub {s : Nat} (h : x.f.kind = 3) (hs : x.f.story = (s : Nat)) : labE (es ++ [x]) = fun k q => if k = s then labCell x q else labE es k q := by
  funext k q
  unfold labE
  rw [lastBy_snoc]
  unfold isPub
  rw [h, hs]
  by_cases e : k = s
  · subst e; simp
  · rw [if_neg e, if_neg (by simp; omega)]
theorem takE_take {s : Nat} (h : x.f.kind = 6) (hs : x.f.story = (s : Nat)) : takE (es ++ [x]) = fun k => if k = s then true else takE es k := by
  funext k
  unfold takE
  rw [List.any_append]
  unfold isTake
  by_cases e : k = s
  · subst e; simp [h, hs]
  · rw [if_neg e]
    simp [h, hs]
    omega
theorem or_all : ∀ (a b c d e : Bool), mask5 a b c d e ||| 2 = mask5 true b c d e ∧ mask5 a b c d e ||| 4 = mask5 a true c d e ∧ mask5 a b c d e ||| 8 = mask5 a b true d e ∧ mask5 a b c d e ||| 16 = mask5 a b c true e ∧ mask5 a b c d e ||| 32 = mask5 a b c d true := by decide
theorem hasEd_snoc (k : Nat) (e : Int) : hasEd (es ++ [x]) k e = (hasEd es k e || byEditor (k : Nat) e x.f) := by unfold hasEd; simp
theorem maskF_ed {s n : Nat} (h : x.f.kind = 2) (hs : x.f.story = (s : Nat)) (he : x.f.editor = (n : Nat)) (h1 : 1 ≤ n) (h5 : n ≤ 5) : maskF (es ++ [x]) = fun k => if k = s then maskF es k ||| 2 ^ n else maskF es k := by
  funext k
  unfold maskF
  simp only [hasEd_snoc]
  unfold byEditor
  rw [h, hs, he]
  by_cases e : k = s
  · subst e
    rw [if_pos rfl]
    obtain ⟨o1, o2, o3, o4, o5⟩ := or_all (hasEd es k 1) (hasEd es k 2) (hasEd es k 3) (hasEd es k 4) (hasEd es k 5)
    match n, h1, h5 with
    | 1, _, _ => simp [o1]
    | 2, _, _ => simp [o2]
    | 3, _, _ => simp [o3]
    | 4, _, _ => simp [o4]
    | 5, _, _ => simp [o5]
  · rw [if_neg e]
    have hne : decide ((s : Int) = (k : Int)) = false := by simp; omega
    simp [hne]
end
theorem tab_walk {W W' : World} {row : Option Nat} {d n : Nat} {t : TypeId} {f : Nat → Value} {B : Nat} (h : Tab W d n t f) (hg : W.grownBy W' row) (hr : ∀ r, row = some r → B ≤ r ∧ ∃ o : Obj, W.heap[r]? = some o ∧ o.isCells = false) : Tab W' d n t f :=
  h.block (hg.block d h.lt fun e => by
    obtain ⟨_, o, h1, h2⟩ := hr d e.symm
    unfold Tab at h
    rw [h] at h1
    injection h1 with h1
    subst h1
    cases h2)
theorem RI.own (w0 : World) (N : Nat) {α : Type} (f : α → List FctE) : OwnFrom (N + 5) (fun s W => RIs w0 N (f s) W) := fun s W W' row hs hg hr => by
  obtain ⟨v, h1, h2⟩ := hs.row
  obtain ⟨n, hn, hm⟩ := hs.map
  refine ⟨⟨v, h1.same fun k hk => hg.block k (h1.ge k hk).2 fun e => ?_, tab_walk h2 hg hr⟩, ⟨n, hn, hm.grown hg fun e => ?_⟩, (hg.block _ (Array.getElem?_eq_some_iff.1 hs.box).1 fun e => ?_).trans hs.box, tab_walk hs.ed hg hr, ?_, Nat.le_trans hs.sz hg.size⟩
  · obtain ⟨_, o, h3, h4⟩ := hr k e.symm
    obtain ⟨cs, h5⟩ := h1.blk k hk
    rw [h5] at h3
    injection h3 with h3
    subst h3
    cases h4
  · have := (hr _ e.symm).1; omega
  · have := (hr _ e.symm).1; omega
  · exact hs.bel.trans ((Below.refl _ W).grown hg (by have := hs.sz; omega) (fun k e => by have := (hr k e).1; omega))
theorem zero86 : Tryz.zeroCells86 = Array.ofFn (n := 65) fun i => (fun k => Value.int .u64 (maskF [] k : Nat)) i.1 := by
  rw [← range_ofFn 65 (fun k => Value.int .u64 (maskF [] k : Nat))]
  kernel_rfl
theorem RI.start {w : World} (x : Obj) : RIs w w.heap.size [] (((((w.alloc (.map #[] 0)).alloc (.cells (digNew (.map (some w.heap.size))) 84)).alloc (.cells #[.pointer (some ⟨w.heap.size + 1, 0, none⟩)] 63)).alloc (.cells Tryz.zeroCells86 86)).alloc x) := by
  have hB : Below w.heap.size w (((((w.alloc (.map #[] 0)).alloc (.cells (digNew (.map (some w.heap.size))) 84)).alloc (.cells #[.pointer (some ⟨w.heap.size + 1, 0, none⟩)] 63)).alloc (.cells Tryz.zeroCells86 86)).alloc x) :=
    (((((Below.refl _ w).alloc (Nat.le_refl _) _).alloc (by simp) _).alloc (by simp <;> omega) _).alloc (by simp <;> omega) _).alloc (by simp <;> omega) _
  refine ⟨⟨.slice none 0 0, FRow.nil _ _, ?_⟩, ?_, ?_, ?_, hB, by simp⟩
  · unfold Tab
    have h : ((((w.alloc (.map #[] 0)).alloc (.cells (digNew (.map (some w.heap.size))) 84)).alloc (.cells #[.pointer (some ⟨w.heap.size + 1, 0, none⟩)] 63)).alloc (.cells Tryz.zeroCells86 86)).heap[w.heap.size + 1]? = some (.cells (digNew (.map (some w.heap.size))) 84 (0, 0)) :=
      (Below.heap_alloc _ _ _ (by simp)).trans ((Below.heap_alloc _ _ _ (by simp)).trans (heap_new2 w _ _))
    rw [Below.heap_alloc _ _ _ (by simp <;> omega), h]
    unfold digNew
    rw [range_ofFn]
    rfl
  · exact ⟨0, Nat.le_refl _, ((((KMap.made _ _ (World.alloc_heap_new w _)).alloc _).alloc _).alloc _).alloc _⟩
  · rw [Below.heap_alloc _ _ _ (by simp), Below.heap_alloc _ _ _ (by simp)]
    have := World.alloc_heap_new ((w.alloc (.map #[] 0)).alloc (.cells (digNew (.map (some w.heap.size))) 84)) (.cells #[.pointer (some ⟨w.heap.size + 1, 0, none⟩)] 63)
    simpa using this
  · unfold Tab
    rw [Below.heap_alloc _ _ _ (by simp), ← zero86]
    have := World.alloc_heap_new (((w.alloc (.map #[] 0)).alloc (.cells (digNew (.map (some w.heap.size))) 84)).alloc (.cells #[.pointer (some ⟨w.heap.size + 1, 0, none⟩)] 63)) (.cells Tryz.zeroCells86 86)
    simpa using this
set_option maxRecDepth 10000 in
theorem or_bits0 : ∀ m : Fin 64, ∀ e : Fin 6, bits BinOp.or IntKind.u64 ((m.1 : Nat) : Int) ((2 ^ e.1 : Nat) : Int) = ((m.1 ||| 2 ^ e.1 : Nat) : Int) := by decide
theorem or_bits {m n : Nat} (h : m < 64) (hn : n ≤ 5) : bits BinOp.or IntKind.u64 ((m : Nat) : Int) ((2 ^ n : Nat) : Int) = ((m ||| 2 ^ n : Nat) : Int) := or_bits0 ⟨m, h⟩ ⟨n, by omega⟩
theorem RIs.of {w0 W : World} {N : Nat} {er : List FctE} {P T : Nat → Bool} {L : Nat → Nat → Value} {g : Value → Option Value} {M : Nat → Nat} (h : RI w0 N er P T L g M W) (hP : pubE er = P) (hT : takE er = T) (hL : labE er = L) (hg : gRev er = g) (hM : maskF er = M) : RIs w0 N er W := by
  subst hP hT hL hg hM
  exact h
theorem good_story {f : Fct} (h : validF f = true) (hk : f.kind = 1 ∨ f.kind = 2 ∨ f.kind = 3 ∨ f.kind = 4 ∨ f.kind = 5 ∨ f.kind = 6 ∨ f.kind = 10) : ∃ s : Nat, f.story = (s : Nat) ∧ 1 ≤ s ∧ s ≤ 64 := by
  obtain ⟨h1, h2⟩ := validF_story h hk
  exact ⟨f.story.toNat, by omega, by omega, by omega⟩
theorem good_editor {f : Fct} (h : validF f = true) (hk : f.kind = 2) : ∃ n : Nat, f.editor = (n : Nat) ∧ 1 ≤ n ∧ n ≤ 5 := by
  obtain ⟨h1, h2⟩ := validF_editor h hk
  exact ⟨f.editor.toNat, by omega, by omega, by omega⟩
section
variable {w0 W W' : World} {N : Nat} {er : List FctE} {P T : Nat → Bool} {L : Nat → Nat → Value} {g : Value → Option Value} {M : Nat → Nat}
structure Chg (N : Nat) (W W' : World) : Prop where
  from_ : KeepsFrom (N + 5) W W'
  keep : KeepB (N + 5) (fun k => N ≤ k ∧ k ≤ N + 3) W W'
theorem Chg.refl (N : Nat) (W : World) : Chg N W W := ⟨KeepsFrom.refl _ _, fun _ _ _ => rfl⟩
theorem Chg.trans {A B C : World} (h : Chg N A B) (k : Chg N B C) : Chg N A C := ⟨h.from_.trans k.from_, keepB_t h.keep k.keep⟩
theorem Chg.drew (h : Chg N W W') : Chg N W W'.drew := ⟨⟨h.from_.size, h.from_.same⟩, h.keep⟩
theorem Chg.of_upd {F : Nat → Prop} (h : Upd F W W') (hF : ∀ k, F k → N ≤ k ∧ k ≤ N + 3) (hN : N + 5 ≤ W.heap.size) : Chg N W W' :=
  ⟨⟨h.size, fun i o hB hi _ => (h.block i (Array.getElem?_eq_some_iff.1 hi).1 (fun e => by have := hF i e; omega)).trans hi⟩, fun k hk hf => h.block k (by omega) (fun e => hf (hF k e))⟩
theorem RI.drew (h : RI w0 N er P T L g M W) : RI w0 N er P T L g M W.drew := ⟨h.row, h.map, h.box, h.ed, h.bel.drew, h.sz⟩
theorem RI.rebuild {F : Nat → Prop} {P' T' : Nat → Bool} {L' : Nat → Nat → Value} {g' : Value → Option Value} {M' : Nat → Nat} (h : RI w0 N er P T L g M W) (hu : Upd F W W') (hF : ∀ k, F k → N ≤ k ∧ k ≤ N + 3 ∧ k ≠ N + 2)
    (hd : ∀ v, Tab W (N + 1) 457 84 (dc v P T L (fun _ => 0) (.map (some N))) → Tab W' (N + 1) 457 84 (dc v P' T' L' (fun _ => 0) (.map (some N))))
    (hm : ∃ n, n ≤ er.length ∧ KMap Tryz.prog 91 W' N n g') (he : Tab W' (N + 3) 65 86 (fun k => .int .u64 (M' k : Nat))) : RI w0 N er P' T' L' g' M' W' ∧ Chg N W W' := by
  obtain ⟨v, h1, h2⟩ := h.row
  have hsz := h.sz
  refine ⟨⟨⟨v, h1.same fun k hk => hu.block k (h1.ge k hk).2 fun e => ?_, hd v h2⟩, hm, (hu.block _ (by omega) fun e => ?_).trans h.box, he, h.bel.trans (hu.below (fun k e => (hF k e).1) (by omega)), Nat.le_trans hsz hu.size⟩, Chg.of_upd hu (fun k e => ⟨(hF k e).1, (hF k e).2.1⟩) hsz⟩
  · have := (h1.ge k hk).1
    have := hF k e
    omega
  · exact (hF _ e).2.2 rfl
theorem upd_cell (W : World) (b j : Nat) (u : Value) : Upd (fun k => k = b) W (W.setCell ⟨b, j, none⟩ u) := Upd.setCell (F := fun k => k = b) (p := ⟨b, j, none⟩) (Upd.refl (fun k => k = b) W) (.inl rfl) u
theorem RI.map_same {F : Nat → Prop} (h : RI w0 N er P T L g M W) (hu : Upd F W W') (hF : ¬ F N) : ∃ n, n ≤ er.length ∧ KMap Tryz.prog 91 W' N n g := by
  obtain ⟨n, hn, hm⟩ := h.map
  exact ⟨n, hn, hm.upd hu hF⟩
theorem RI.setP (h : RI w0 N er P T L g M W) {s : Nat} (hs : s < 65) (b : Bool) : RI w0 N er (fun k => if k = s then b else P k) T L g M (W.setCell ⟨N + 1, 1 + s, none⟩ (.bool b)) ∧ Chg N W (W.setCell ⟨N + 1, 1 + s, none⟩ (.bool b)) :=
  h.rebuild (upd_cell W (N + 1) (1 + s) _) (fun k e => by omega) (fun v hv => (hv.set (1 + s) (.bool b)).congr fun i _ => dc_setP hs b i) (h.map_same (upd_cell W (N + 1) (1 + s) _) (by omega)) (h.ed.block ((upd_cell W (N + 1) (1 + s) _).block _ h.ed.lt (by omega)))
theorem RI.setT (h : RI w0 N er P T L g M W) {s : Nat} (hs : s < 65) (b : Bool) : RI w0 N er P (fun k => if k = s then b else T k) L g M (W.setCell ⟨N + 1, 66 + s, none⟩ (.bool b)) ∧ Chg N W (W.setCell ⟨N + 1, 66 + s, none⟩ (.bool b)) :=
  h.rebuild (upd_cell W (N + 1) (66 + s) _) (fun k e => by omega) (fun v hv => (hv.set (66 + s) (.bool b)).congr fun i _ => dc_setT hs b i) (h.map_same (upd_cell W (N + 1) (66 + s) _) (by omega)) (h.ed.block ((upd_cell W (N + 1) (66 + s) _).block _ h.ed.lt (by omega)))
theorem RI.setL (h : RI w0 N er P T L g M W) {s q : Nat} (hs : s < 65) (hq : q < 4) (u : Value) : RI w0 N er P T (fun k j => if k = s ∧ j = q then u else L k j) g M (W.setCell ⟨N + 1, 131 + s * 4 + q, none⟩ u) ∧ Chg N W (W.setCell ⟨N + 1, 131 + s * 4 + q, none⟩ u) :=
  h.rebuild (upd_cell W (N + 1) (131 + s * 4 + q) _) (fun k e => by omega) (fun v hv => (hv.set (131 + s * 4 + q) u).congr fun i _ => dc_setL hs hq u i) (h.map_same (upd_cell W (N + 1) (131 + s * 4 + q) _) (by omega)) (h.ed.block ((upd_cell W (N + 1) (131 + s * 4 + q) _).block _ h.ed.lt (by omega)))
theorem RI.setM (h : RI w0 N er P T L g M W) (s : Nat) (m : Nat) : RI w0 N er P T L g (fun k => if k = s then m else M k) (W.setCell ⟨N + 3, s, none⟩ (.int .u64 (m : Nat))) ∧ Chg N W (W.setCell ⟨N + 3, s, none⟩ (.int .u64 (m : Nat))) :=
  h.rebuild (upd_cell W (N + 3) s _) (fun k e => by omega) (fun v hv => hv.block ((upd_cell W (N + 3) s _).block _ hv.lt (by omega))) (h.map_same (upd_cell W (N + 3) s _) (by omega)) ((h.ed.set s (.int .u64 (m : Nat))).congr fun i _ => by by_cases e : i = s <;> simp [e])
theorem RI.setG (h : RI w0 N er P T L g M W) {g' : Value → Option Value} (hg : W.grownBy W' (some N)) (hm : ∃ n, n ≤ er.length ∧ KMap Tryz.prog 91 W' N n g') : RI w0 N er P T L g' M W' ∧ Chg N W W' := by
  have hu : Upd (fun k => k = N) W W' := (Upd.refl _ W).grown hg (fun k e => .inl (by injection e with e; exact e.symm))
  exact h.rebuild hu (fun k e => by omega) (fun v hv => hv.block (hu.block _ hv.lt (by omega))) hm (h.ed.block (hu.block _ h.ed.lt (by omega)))
theorem RI.congrL {L' : Nat → Nat → Value} (h : RI w0 N er P T L g M W) (e : ∀ k q, q < 4 → L k q = L' k q) : RI w0 N er P T L' g M W := by
  obtain ⟨v, h1, h2⟩ := h.row
  refine ⟨⟨v, h1, h2.congr fun i _ => ?_⟩, h.map, h.box, h.ed, h.bel, h.sz⟩
  unfold dc
  rw [e _ _ (Nat.mod_lt _ (by omega))]
theorem RI.append {v v' : Value} {x : FctE} {ob : Obj} (h : RI w0 N er P T L g M W) (hrow : FRow W (N + 5) v er) (hdig : Tab W (N + 1) 457 84 (dc v P T L (fun _ => 0) (.map (some N)))) (hg : (W.drew.alloc ob).grownBy W' v.ownBlock) (hr' : FRow W' (N + 5) v' (er ++ [x])) :
    RI w0 N (er ++ [x]) P T L g M (W'.setCell ⟨N + 1, 0, none⟩ v') ∧ Chg N W (W'.setCell ⟨N + 1, 0, none⟩ v') ∧ ∀ t, N + 5 ≤ t → t < W.heap.size → v.ownBlock ≠ some t → (W'.setCell ⟨N + 1, 0, none⟩ v').heap[t]? = W.heap[t]? := by
  have hsz := h.sz
  have hu : Upd (fun k => v.ownBlock = some k) W W' := (((Upd.refl _ W).drew).alloc ob).grown hg (fun k e => .inl e)
  have hge := hrow.ge
  have hu2 := upd_cell W' (N + 1) 0 v'
  have hz := hu.size
  have hn : ∀ k, k < N + 5 → ¬ v.ownBlock = some k := fun k hk e => by have := (hge k e).1; omega
  have hu3 : Upd (fun k => v.ownBlock = some k ∨ k = N + 1) W (W'.setCell ⟨N + 1, 0, none⟩ v') := (hu.mono (fun i e => .inl (.inl e))).trans hu2 (fun i e => .inl (.inr e))
  obtain ⟨n, hn1, hm⟩ := h.map
  refine ⟨⟨⟨v', hr'.same fun k hk => hu2.block k (hr'.ge k hk).2 (fun e => by have := (hr'.ge k hk).1; omega), ?_⟩, ⟨n, by rw [List.length_append]; omega, hm.upd hu3 (fun e => by rcases e with e | e; exact hn N (by omega) e; omega)⟩, ?_, ?_, ?_, Nat.le_trans hsz hu3.size⟩, ⟨⟨hu3.size, fun i o hB hi ho => ?_⟩, fun k hk hf => ?_⟩, fun t h1 h2 h3 => ?_⟩
  · have h1 : Tab W' (N + 1) 457 84 (dc v P T L (fun _ => 0) (.map (some N))) := hdig.block (hu.block _ hdig.lt (hn _ (by omega)))
    exact (h1.set 0 v').congr fun i _ => dc_setV v' i
  · exact (hu3.block _ (by omega) (fun e => by rcases e with e | e; exact hn _ (by omega) e; omega)).trans h.box
  · exact h.ed.block (hu3.block _ h.ed.lt (fun e => by rcases e with e | e; exact hn _ (by omega) e; omega))
  · exact h.bel.trans (hu3.below (fun k e => by rcases e with e | e; (have := (hge k e).1; omega); omega) (by omega))
  · refine (hu3.block i (Array.getElem?_eq_some_iff.1 hi).1 (fun e => ?_)).trans hi
    rcases e with e | e
    · obtain ⟨cs, hc⟩ := hrow.blk i e
      rw [hc] at hi
      injection hi with hi
      subst hi
      cases ho
    · omega
  · refine hu3.block k (by omega) (fun e => ?_)
    rcases e with e | e
    · exact hn k hk e
    · exact hf ⟨by omega, by omega⟩
  · exact hu3.block t h2 (fun e => by rcases e with e | e; exact h3 e; omega)
theorem RI.append_map {v v' : Value} {ob : Obj} (h : RI w0 N er P T L g M W) (hrow : FRow W (N + 5) v er) (hg : (W.drew.alloc ob).grownBy W' v.ownBlock) : ∃ n, n ≤ er.length ∧ KMap Tryz.prog 91 (W'.setCell ⟨N + 1, 0, none⟩ v') N n g := by
  obtain ⟨n, hn1, hm⟩ := h.map
  have hu : Upd (fun k => v.ownBlock = some k) W W' := (((Upd.refl _ W).drew).alloc ob).grown hg (fun k e => .inl e)
  exact ⟨n, hn1, (hm.upd hu (fun e => by have := (hrow.ge N e).1; omega)).setCell _ (by show N ≠ N + 1; omega)⟩
end
end Go.Proofs.YtgbihmafmmeicaaGreatDoor
namespace Go.Proofs.YtgbihmafmmeicaaGreatDoor
open Go.RowKit Mg Go.Shelf

def cntN (m : Nat) : Nat := m % 2 + m / 2 % 2 + m / 4 % 2 + m / 8 % 2 + m / 16 % 2 + m / 32 % 2
set_option maxRecDepth 100000 in
set_option maxHeartbeats 400000 in
theorem ones64_any (m : Nat) (hm : m < 64) (w : World) : Calls Tryz.prog 71 #[.int .u64 (m : Nat)] w fun r w' => r = .returned (.int .i64 (cntN m : Nat)) ∧ w = w' := by
  have h0 : (0 : Int) ≤ (m : Nat) := by omega
  have h1 : ((m : Nat) : Int) < 64 := by omega
  have HM := Lib.hid hm
  clear hm
  go_enter Tryz.func71, Tryz.ntmps71
  go_wp2_with fail
  go_ret
  refine ⟨?_, rfl⟩
  have hm := HM.out
  clear h0 h1 HM
  simp only [Array.getD_eq_getD_getElem?, List.getElem?_toArray, List.getElem?_cons_zero, List.getElem?_cons_succ, Option.getD_some]
  apply congrArg Ending.returned
  apply congrArg (Value.int .i64)
  revert m
  decide +kernel
theorem ones_any (m : Nat) (hm : m < 64) (w : World) : Calls Tryz.prog 53 #[.int .u64 (m : Nat)] w fun r w' => r = .returned (.int .i64 (cntN m : Nat)) ∧ w = w' := by
  have c1 := ones64_any m hm w
  generalize cntN m = c at *
  have HM := Lib.hid hm
  clear hm
  go_enter Tryz.func53, Tryz.ntmps53
  go_wp2_with fail
  refine c1.mono ?_
  rintro e w' ⟨rfl, rfl⟩
  go_wp2_with fail
  go_ret
  exact ⟨rfl, rfl⟩
theorem cnt_mask (a b c d e : Bool) : cntN (mask5 a b c d e) = (if a then 1 else 0) + (if b then 1 else 0) + (if c then 1 else 0) + (if d then 1 else 0) + (if e then 1 else 0) := by
  cases a <;> cases b <;> cases c <;> cases d <;> cases e <;> decide
theorem cnt_appr (es : List FctE) (k : Nat) : ((cntN (maskF es k) : Nat) : Int) = apprF (es.map FctE.f) k := by
  unfold maskF
  rw [cnt_mask]
  have h : ∀ e : Int, hasEd es k e = (es.map FctE.f).any (byEditor k e) := fun e => by unfold hasEd; rw [List.any_map]; rfl
  simp only [h]
  unfold apprF
  simp only [List.range_succ, List.range_zero, List.nil_append, List.filter_append, List.filter_cons, List.filter_nil, List.length_append]
  simp only [show (((0 : Nat) : Int) + 1) = 1 from rfl, show (((1 : Nat) : Int) + 1) = 2 from rfl, show (((2 : Nat) : Int) + 1) = 3 from rfl, show (((3 : Nat) : Int) + 1) = 4 from rfl, show (((4 : Nat) : Int) + 1) = 5 from rfl]
  generalize (es.map FctE.f).any (byEditor k 1) = a
  generalize (es.map FctE.f).any (byEditor k 2) = b
  generalize (es.map FctE.f).any (byEditor k 3) = c
  generalize (es.map FctE.f).any (byEditor k 4) = d
  generalize (es.map FctE.f).any (byEditor k 5) = e
  cases a <;> cases b <;> cases c <;> cases d <;> cases e <;> rfl
theorem eds_size : (Tryz.prog.info? 86).map (·.size) = some 65 := by kernel_rfl
theorem exec_ed_load {o : Oper} {a : Act} {W : World} {g : Nat} (x : Operand) (ho : o.op = .load 86 x) (hx : a.eval x = .pointer (some ⟨g, 0, none⟩)) {cs : Array Value} (hg : W.heap[g]? = some (.cells cs 86 (0, 0))) (hs : cs.size = 65) :
    (execOp a.eval o).run Tryz.prog W = .ok (.value (.agg cs)) W := by
  unfold execOp
  simp only [ho, hx, Instr.loadAt, Instr.sureAddr, Sem.run_bind, Sem.run_pure, Result.andThen_ok, run_loadVar_row (P := Tryz.prog) W g 86 86 cs (0, 0) _ hg Tryz.underlying86 rfl (by rw [eds_size, hs])]
section
variable {F : Fence} {n : Nat} {ops : Array Oper} {rest : List Oper} {o : Oper} {a : Act} {W : World} {Q : Exit → Act → World → Prop}
theorem gi_at_eload (x : Operand) (_ : o.op = .load 86 x) (h : wpListIn F n Tryz.prog ops Q (o :: rest) a W) : wpListIn F n Tryz.prog ops Q (o :: rest) a W := h
theorem wpListIn_ed_load (hw : Region.wanted o (yielded ops a.tmps) = true) (x : Operand) (ho : o.op = .load 86 x) (g : Nat) (hx : a.eval x = .pointer (some ⟨g, 0, none⟩)) {cs : Array Value} (hg : W.heap[g]? = some (.cells cs 86 (0, 0))) (hs : cs.size = 65)
    (h : wpListIn F n Tryz.prog ops Q rest (a.put o.dst (.agg cs)) W) : wpListIn F n Tryz.prog ops Q (o :: rest) a W :=
  wpListIn_step fun K hK => by
    rw [if_pos hw]
    exact wpIn_value (load_nd ho) (load_ab ho) (exec_ed_load x ho hx hg hs) (hK _ _ h)
end
theorem run_ed_index (W : World) {AR : Array Value} {k : Nat} (hk : k < 65) {m : Nat} (h : AR[k]? = some (.int .u64 (m : Nat))) : (Instr.index 86 (.agg AR) (.int .i64 (k : Nat))).run Tryz.prog W = .ok (.int .u64 (m : Nat)) W := by
  simp [Instr.index, run_underlying Tryz.underlying86, asIntOf, go_sem, h]
  intro hh
  omega
structure DigAt (W : World) (B d : Nat) (gs : List FctE) : Prop where
  at_ : ∃ fv mb n, FRow W B fv gs ∧ KMap Tryz.prog 91 W mb n (gRev gs) ∧ Tab W d 457 84 (dc fv (pubE gs) (takE gs) (labE gs) (fun k => apprF (gs.map FctE.f) (k : Nat)) (.map (some mb)))
theorem DigAt.bel {W W' : World} {B d : Nat} {gs : List FctE} (h : DigAt W B d gs) (hb : Below W.heap.size W W') : DigAt W' B d gs := by
  obtain ⟨fv, mb, n, h1, h2, h3⟩ := h.at_
  exact ⟨fv, mb, n, h1.same fun k hk => hb.block k (h1.ge k hk).2, h2.bel hb, h3.block (hb.block _ h3.lt)⟩
def ReadPost (gs : List FctE) (w : World) (e : Ending) (w' : World) : Prop :=
  ∃ d, e = .returned (.pointer (some ⟨d, 0, none⟩)) ∧ w.heap.size ≤ d ∧ DigAt w' (w.heap.size + 5) d gs ∧ Below w.heap.size w w'
end Go.Proofs.YtgbihmafmmeicaaGreatDoor
namespace Go.Proofs
open Go.Shelf
def Tryz.compactA_ren : Go.Shelf.Ren := ⟨fun | 20 => 65 | n => n, fun | 22 => 30 | 3 => 3 | 4 => 4 | 0 => 0 | n => n, fun | n => n⟩
theorem Tryz.compactA : Go.Proofs.Lays2.n20 Tryz.prog Tryz.compactA_ren := {
  mixed := by kernel_rfl
  f20 := Tryz.func65.trans (congrArg some (by kernel_rfl))
  t0 := Tryz.underlying0
  a0 := Tryz.isAgg0
  z0 := Tryz.sizeOf0
  v0 := Tryz.zeroValue0
  t3 := Tryz.underlying3
  a3 := Tryz.isAgg3
  z3 := Tryz.sizeOf3
  v3 := Tryz.zeroValue3
  t4 := Tryz.underlying4
  a4 := Tryz.isAgg4
  z4 := Tryz.sizeOf4
  v4 := Tryz.zeroValue4
  t22 := Tryz.underlying30
  a22 := Tryz.isAgg30
  z22 := Tryz.sizeOf30
  v22 := Tryz.zeroValue30
  i3 := by kernel_rfl }
def Tryz.sortA_ren : Go.Shelf.Ren := ⟨fun | 5 => 55 | 8 => 76 | 7 => 75 | 19 => 96 | 20 => 97 | 10 => 87 | 11 => 88 | 12 => 89 | 13 => 90 | 14 => 91 | 15 => 92 | 16 => 93 | 17 => 94 | 18 => 95 | 30 => 106 | 31 => 107 | 32 => 108 | 33 => 109 | 34 => 110 | 35 => 111 | 40 => 118 | n => n, fun | 23 => 30 | 25 => 3 | 3 => 3 | 32 => 85 | 22 => 30 | 0 => 0 | 44 => 107 | 46 => 109 | 4 => 4 | 36 => 125 | 35 => 124 | 41 => 129 | 5 => 5 | 9 => 9 | 53 => 133 | 57 => 137 | 63 => 141 | 64 => 28 | n => n, fun | n => n⟩
theorem Tryz.sortA : Go.Proofs.SlLaysM.n5 Tryz.prog Tryz.sortA_ren := {
  mixed := by kernel_rfl
  f5 := ⟨Tryz.f55.name, by decide, Tryz.func55.trans (congrArg some (by kernel_rfl))⟩
  f7 := ⟨Tryz.f75.name, by decide, Tryz.func75.trans (congrArg some (by kernel_rfl))⟩
  f8 := Tryz.func76.trans (congrArg some (by kernel_rfl))
  f10 := ⟨Tryz.f87.name, by decide, Tryz.func87.trans (congrArg some (by kernel_rfl))⟩
  f11 := ⟨Tryz.f88.name, by decide, Tryz.func88.trans (congrArg some (by kernel_rfl))⟩
  f12 := ⟨Tryz.f89.name, by decide, Tryz.func89.trans (congrArg some (by kernel_rfl))⟩
  f13 := ⟨Tryz.f90.name, by decide, Tryz.func90.trans (congrArg some (by kernel_rfl))⟩
  f14 := ⟨Tryz.f91.name, by decide, Tryz.func91.trans (congrArg some (by kernel_rfl))⟩
  f15 := ⟨Tryz.f92.name, by decide, Tryz.func92.trans (congrArg some (by kernel_rfl))⟩
  f16 := ⟨Tryz.f93.name, by decide, Tryz.func93.trans (congrArg some (by kernel_rfl))⟩
  f17 := ⟨Tryz.f94.name, by decide, Tryz.func94.trans (congrArg some (by kernel_rfl))⟩
  f18 := ⟨Tryz.f95.name, by decide, Tryz.func95.trans (congrArg some (by kernel_rfl))⟩
  f19 := Tryz.func96.trans (congrArg some (by kernel_rfl))
  f20 := Tryz.func97.trans (congrArg some (by kernel_rfl))
  f30 := ⟨Tryz.f106.name, by decide, Tryz.func106.trans (congrArg some (by kernel_rfl))⟩
  f31 := Tryz.func107.trans (congrArg some (by kernel_rfl))
  f32 := Tryz.func108.trans (congrArg some (by kernel_rfl))
  f33 := ⟨Tryz.f109.name, by decide, Tryz.func109.trans (congrArg some (by kernel_rfl))⟩
  f34 := ⟨Tryz.f110.name, by decide, Tryz.func110.trans (congrArg some (by kernel_rfl))⟩
  f35 := ⟨Tryz.f111.name, by decide, Tryz.func111.trans (congrArg some (by kernel_rfl))⟩
  f40 := ⟨Tryz.f118.name, by decide, Tryz.func118.trans (congrArg some (by kernel_rfl))⟩
  t0 := Tryz.underlying0
  a0 := Tryz.isAgg0
  z0 := Tryz.sizeOf0
  v0 := Tryz.zeroValue0
  t3 := Tryz.underlying3
  a3 := Tryz.isAgg3
  z3 := Tryz.sizeOf3
  v3 := Tryz.zeroValue3
  t4 := Tryz.underlying4
  a4 := Tryz.isAgg4
  z4 := Tryz.sizeOf4
  v4 := Tryz.zeroValue4
  t5 := Tryz.underlying5
  a5 := Tryz.isAgg5
  z5 := Tryz.sizeOf5
  v5 := Tryz.zeroValue5
  t9 := Tryz.underlying9
  a9 := Tryz.isAgg9
  z9 := Tryz.sizeOf9
  v9 := Tryz.zeroValue9
  t22 := Tryz.underlying30
  a22 := Tryz.isAgg30
  z22 := Tryz.sizeOf30
  v22 := Tryz.zeroValue30
  t23 := Tryz.underlying30
  a23 := Tryz.isAgg30
  z23 := Tryz.sizeOf30
  v23 := Tryz.zeroValue30
  t25 := Tryz.underlying3
  a25 := Tryz.isAgg3
  z25 := Tryz.sizeOf3
  v25 := Tryz.zeroValue3
  t32 := Tryz.underlying85
  a32 := Tryz.isAgg85
  z32 := Tryz.sizeOf85
  v32 := Tryz.zeroValue85
  t35 := Tryz.underlying124
  a35 := Tryz.isAgg124
  z35 := Tryz.sizeOf124
  v35 := Tryz.zeroValue124
  t36 := Tryz.underlying125
  a36 := Tryz.isAgg125
  z36 := Tryz.sizeOf125
  v36 := Tryz.zeroValue125
  t41 := Tryz.underlying129
  a41 := Tryz.isAgg129
  z41 := Tryz.sizeOf129
  v41 := Tryz.zeroValue129
  t44 := Tryz.underlying107
  a44 := Tryz.isAgg107
  z44 := Tryz.sizeOf107
  v44 := Tryz.zeroValue107
  t46 := Tryz.underlying109
  a46 := Tryz.isAgg109
  z46 := Tryz.sizeOf109
  v46 := Tryz.zeroValue109
  t53 := Tryz.underlying133
  a53 := Tryz.isAgg133
  z53 := Tryz.sizeOf133
  v53 := Tryz.zeroValue133
  t57 := Tryz.underlying137
  a57 := Tryz.isAgg137
  z57 := Tryz.sizeOf137
  v57 := Tryz.zeroValue137
  t63 := Tryz.underlying141
  a63 := Tryz.isAgg141
  z63 := Tryz.sizeOf141
  v63 := Tryz.zeroValue141
  t64 := Tryz.underlying28
  a64 := Tryz.isAgg28
  z64 := Tryz.sizeOf28
  v64 := Tryz.zeroValue28 }
end Go.Proofs
namespace Go.Proofs.YtgbihmafmmeicaaGreatDoor
open Go.RowKit Mg Go.Shelf Go.Sort

def sortL (l : List Int) : List Int := l.mergeSort fun x y => decide (x ≤ y)
theorem sortL_mem {l : List Int} (x : Int) : x ∈ sortL l ↔ x ∈ l := (List.mergeSort_perm l _).mem_iff
theorem sortL_up {l : List Int} (hn : l.Nodup) : (sortL l).Pairwise (· < ·) := by
  have tr : ∀ a b c : Int, decide (a ≤ b) = true → decide (b ≤ c) = true → decide (a ≤ c) = true := fun a b c h1 h2 => by simp only [decide_eq_true_eq] at *; exact Int.le_trans h1 h2
  have to : ∀ a b : Int, (decide (a ≤ b) || decide (b ≤ a)) = true := fun a b => by simp only [Bool.or_eq_true, decide_eq_true_eq]; exact Int.le_total a b
  have h1 := List.pairwise_mergeSort tr to l
  have h2 : (sortL l).Nodup := ((List.mergeSort_perm l _).nodup_iff).2 hn
  exact (h1.and h2).imp (fun ⟨a, b⟩ => by simp only [decide_eq_true_eq] at a; omega)
theorem sort_row {w : World} {B : Nat} {v : Value} {l : List Int} (h : IRow w B v l) (hl : l.length ≤ 100000) :
    Calls Tryz.prog 55 #[v] w fun e w' => e = .returned (.tuple #[]) ∧ IRow w' B v (sortL l) ∧ w.grownBy w' v.ownBlock := by
  have hlen : (sortL l).length = l.length := List.length_mergeSort _
  rcases h.2 with ⟨rfl, hz⟩ | ⟨g, cap, cur, rfl, hb, hg, hn, hc, hs, ht⟩
  · have : l = [] := List.eq_nil_of_length_eq_zero hz
    subst this
    refine (AnyM.slices_Sort_int_none Tryz.sortA none 0 w).mono ?_
    rintro e w' ⟨rfl, rfl⟩
    exact ⟨rfl, by rw [show sortL [] = [] by simp [sortL]]; exact h, rfl, rfl, rfl, Nat.le_refl _, fun _ _ _ => rfl⟩
  · rw [Nat.mul_one] at ht
    have hH := holds_of_blockI (ss := l) hg ht
    refine (AnyM.slices_Sort_int Tryz.sortA g 0 cap l w hH (Array.getElem?_eq_some_iff.1 hg).1 (by omega)).mono ?_
    rintro e w' ⟨rfl, n, os, rfl⟩
    refine ⟨rfl, ?_, grownBy_sortedI _⟩
    unfold IRow
    rw [hlen]
    exact ownsRow_sortedI hlen hb hg hn hc hs
section
variable {W : World} {B d : Nat} {gs : List FctE}
theorem DigAt.pub (h : DigAt W B d gs) {k : Nat} (hk : k < 65) : W.cell? ⟨d, 1 + k, none⟩ = some (.bool ((digF (gs.map FctE.f)).pub k)) := by
  obtain ⟨fv, mb, n, _, _, h3⟩ := h.at_
  have := h3.cell (j := 1 + k) (by omega)
  rw [dc_p hk] at this
  rw [this]
  unfold digF pubE
  dsimp only
  rw [lastPub_by, Option.isSome_map]
theorem DigAt.tak (h : DigAt W B d gs) {k : Nat} (hk : k < 65) : W.cell? ⟨d, 66 + k, none⟩ = some (.bool (takenF (gs.map FctE.f) k)) := by
  obtain ⟨fv, mb, n, _, _, h3⟩ := h.at_
  have := h3.cell (j := 66 + k) (by omega)
  rw [dc_t hk] at this
  rw [this]
  unfold takenF takE
  rw [List.any_map]
  rfl
theorem DigAt.app (h : DigAt W B d gs) {k : Nat} (hk : k < 65) : W.cell? ⟨d, 391 + k, none⟩ = some (.int .i64 (apprF (gs.map FctE.f) k)) := by
  obtain ⟨fv, mb, n, _, _, h3⟩ := h.at_
  have := h3.cell (j := 391 + k) (by omega)
  rw [dc_a hk] at this
  exact this
theorem DigAt.lab (h : DigAt W B d gs) {k : Nat} (hk : k < 65) (hp : (digF (gs.map FctE.f)).pub k = true) : ∃ e ∈ gs, (digF (gs.map FctE.f)).lb k = e.f.lab ∧ W.cell? ⟨d, 131 + k * 4, none⟩ = some (.int .i64 e.f.lab.till) ∧ W.cell? ⟨d, 131 + k * 4 + 1, none⟩ = some e.av ∧ W.cell? ⟨d, 131 + k * 4 + 2, none⟩ = some (.int .i64 e.f.lab.appr) ∧ W.cell? ⟨d, 131 + k * 4 + 3, none⟩ = some (.int .i64 e.f.lab.denied) := by
  obtain ⟨fv, mb, n, _, _, h3⟩ := h.at_
  unfold digF at hp
  dsimp only at hp
  rw [lastPub_by, Option.isSome_map, Option.isSome_iff_exists] at hp
  obtain ⟨e, he⟩ := hp
  have hL : ∀ q, labE gs k q = labCell e q := fun q => by unfold labE; rw [he]
  have c0 := h3.cell (j := 131 + k * 4 + 0) (by omega)
  have c1 := h3.cell (j := 131 + k * 4 + 1) (by omega)
  have c2 := h3.cell (j := 131 + k * 4 + 2) (by omega)
  have c3 := h3.cell (j := 131 + k * 4 + 3) (by omega)
  rw [dc_l hk (by omega), hL] at c0 c1 c2 c3
  refine ⟨e, (lastBy_mem he).1, ?_, c0, c1, c2, c3⟩
  unfold digF
  dsimp only
  rw [lastPub_by, he]
  rfl
end
def Seen (d : Dig) (cls now : Int) (L0 L : List Int) (k : Nat) : Prop := L0.length ≤ L.length ∧ (L.length = L0.length → ∀ s : Int, 1 ≤ s → s < k → d.goes cls now L s = true → s ∈ L)
theorem Seen.start (d : Dig) (cls now : Int) (L : List Int) : Seen d cls now L L 1 := ⟨Nat.le_refl _, fun _ s h1 h2 => by omega⟩
theorem Seen.skip {d : Dig} {cls now : Int} {L0 L : List Int} {k : Nat} (h : Seen d cls now L0 L k) (hk : d.goes cls now L k = true → (k : Int) ∈ L) : Seen d cls now L0 L (k + 1) :=
  ⟨h.1, fun e s h1 h2 hg => by
    by_cases e2 : s = k
    · subst e2; exact hk hg
    · exact h.2 e s h1 (by omega) hg⟩
theorem Seen.add {d : Dig} {cls now : Int} {L0 L : List Int} {k : Nat} (h : Seen d cls now L0 L k) (x : Int) (j : Nat) : Seen d cls now L0 (L ++ [x]) j :=
  ⟨by rw [List.length_append]; have := h.1; omega, fun e => by rw [List.length_append] at e; simp at e; have := h.1; omega⟩
theorem Seen.done {d : Dig} {cls now : Int} {L0 L : List Int} (h : Seen d cls now L0 L 65) (e : L.length = L0.length) : d.Closed cls now L := fun s h1 h2 hg => h.2 e s h1 (by omega) hg
theorem goes_yes {d : Dig} {cls now : Int} {L : List Int} {s : Int} (h : d.pub s = true) : d.goes cls now L s = allows (d.lb s) cls now L (d.ap s) := by unfold Dig.goes; rw [h, Bool.true_and]
theorem goes_no {d : Dig} {cls now : Int} {L : List Int} {s : Int} (h : d.pub s = false) : d.goes cls now L s = false := by unfold Dig.goes; rw [h, Bool.false_and]
end Go.Proofs.YtgbihmafmmeicaaGreatDoor

/-
  WHAT IS PROVED HERE: the reference's filters on strings (upper, lower, trim, short, escape, slug, length). Each returns what the program's own filter gives. Condition: the string has at most 2^40 bytes.
-/
import Derived.Test.YtlkaikopjjmneaaDoorFlt
import Derived.Outline
namespace Go.Proofs.YtlkaikopjjmneaaDoor
open Go.RowKit

def smB (c : UInt8) : Bool := decide (97 ≤ c.toNat ∧ c.toNat ≤ 122)
def lgB (c : UInt8) : Bool := decide (65 ≤ c.toNat ∧ c.toNat ≤ 90)
def dgB (c : UInt8) : Bool := decide (48 ≤ c.toNat ∧ c.toNat ≤ 57)
set_option maxHeartbeats 400000 in
theorem small_any (c : UInt8) (w : World) : Calls Tryd.prog 60 #[.int .u8 c.toNat] w fun e w' => e = .returned (.bool (smB c)) ∧ w = w' := by
  have hu := c.toNat_lt
  have H : Hid (∀ b : Bool, (b = true ↔ (97 ≤ c.toNat ∧ c.toNat ≤ 122)) → b = smB c) := Lib.hid (fun b h => by unfold smB; rw [Bool.eq_iff_iff, h, decide_eq_true_eq])
  go_enter Tryd.func60, Tryd.ntmps60
  go_wp2
  all_goals
    go_ret
    refine ⟨ret_bool (H.out _ ?_), rfl⟩
    simp
    try omega
set_option maxHeartbeats 400000 in
theorem large_any (c : UInt8) (w : World) : Calls Tryd.prog 61 #[.int .u8 c.toNat] w fun e w' => e = .returned (.bool (lgB c)) ∧ w = w' := by
  have hu := c.toNat_lt
  have H : Hid (∀ b : Bool, (b = true ↔ (65 ≤ c.toNat ∧ c.toNat ≤ 90)) → b = lgB c) := Lib.hid (fun b h => by unfold lgB; rw [Bool.eq_iff_iff, h, decide_eq_true_eq])
  go_enter Tryd.func61, Tryd.ntmps61
  go_wp2
  all_goals
    go_ret
    refine ⟨ret_bool (H.out _ ?_), rfl⟩
    simp
    try omega
set_option maxHeartbeats 400000 in
theorem digit_any (c : UInt8) (w : World) : Calls Tryd.prog 64 #[.int .u8 c.toNat] w fun e w' => e = .returned (.bool (dgB c)) ∧ w = w' := by
  have hu := c.toNat_lt
  have H : Hid (∀ b : Bool, (b = true ↔ (48 ≤ c.toNat ∧ c.toNat ≤ 57)) → b = dgB c) := Lib.hid (fun b h => by unfold dgB; rw [Bool.eq_iff_iff, h, decide_eq_true_eq])
  go_enter Tryd.func64, Tryd.ntmps64
  go_wp2
  all_goals
    go_ret
    refine ⟨ret_bool (H.out _ ?_), rfl⟩
    simp
    try omega
theorem smB_iff (c : UInt8) : smB c = true ↔ (97 ≤ c.toNat ∧ c.toNat ≤ 122) := by unfold smB; simp
theorem lgB_iff (c : UInt8) : lgB c = true ↔ (65 ≤ c.toNat ∧ c.toNat ≤ 90) := by unfold lgB; simp
theorem dgB_iff (c : UInt8) : dgB c = true ↔ (48 ≤ c.toNat ∧ c.toNat ≤ 57) := by unfold dgB; simp
theorem chg_up (c : UInt8) : chg 97 122 c = if smB c then c - 32 else c := by
  have h : ∀ n : Fin 256, chg 97 122 (UInt8.ofNat n.val) = if smB (UInt8.ofNat n.val) then (UInt8.ofNat n.val) - 32 else (UInt8.ofNat n.val) := by decide +kernel
  have := h ⟨c.toNat, c.toNat_lt⟩
  simpa using this
theorem chg_low (c : UInt8) : chg 65 90 c = if lgB c then c + 32 else c := by
  have h : ∀ n : Fin 256, chg 65 90 (UInt8.ofNat n.val) = if lgB (UInt8.ofNat n.val) then (UInt8.ofNat n.val) + 32 else (UInt8.ofNat n.val) := by decide +kernel
  have := h ⟨c.toNat, c.toNat_lt⟩
  simpa using this
theorem sub32 (c : UInt8) (h : 97 ≤ c.toNat) : ((c - 32).toNat : Int) = (c.toNat : Int) - 97 + 65 := by
  have h1 : (32 : UInt8) ≤ c := by rw [UInt8.le_iff_toNat_le]; show 32 ≤ c.toNat; omega
  rw [UInt8.toNat_sub_of_le _ _ h1]
  show ((c.toNat - 32 : Nat) : Int) = _
  omega
theorem add32 (c : UInt8) (h : c.toNat ≤ 90) : ((c + 32).toNat : Int) = (c.toNat : Int) - 65 + 97 := by
  rw [UInt8.toNat_add]
  show (((c.toNat + 32) % 256 : Nat) : Int) = _
  omega
theorem map_snoc {f : UInt8 → UInt8} (s : ByteArray) (k : Nat) (h : k < s.size) : (s.data.toList.take (k + 1)).map f = (s.data.toList.take k).map f ++ [f s[k]] := by
  rw [take_snoc s k h, List.map_append]; rfl
set_option maxHeartbeats 1000000 in
theorem ref_upper (s : ByteArray) (w : World) (hs : s.size ≤ 1099511627776) :
    Calls Tryd.prog 34 #[.string s] w fun e w' => e = .returned (.string (bs (s.data.toList.map (chg 97 122)))) ∧ Below w.heap.size w w' := by
  go_enter Tryd.func34, Tryd.ntmps34
  go_wp2
  go_loopw [3, 4] (fun v i wr => ∃ k : Nat, k ≤ s.size ∧ i = .int .i64 k ∧ Row wr w.heap.size v ((s.data.toList.take k).map (chg 97 122)) ∧ Below w.heap.size w wr) (fun _ i _ => s.size - (intOf i).toNat)
  case atStart => exact ⟨0, Nat.zero_le _, rfl, Row.nil _ _, Below.refl _ _⟩
  case round =>
    obtain ⟨k, hk, rfl, hrow, hb⟩ := hrel
    by_cases hlt : k < s.size
    · have hsn := map_snoc (f := chg 97 122) s k hlt
      have hlen : ((s.data.toList.take k).map (chg 97 122)).length ≤ k := by rw [List.length_map]; exact List.length_take_le _ _
      have HS := Lib.hid hsn
      have hB := hb.size
      have hu := s[k].toNat_lt
      clear hsn
      by_cases hsm : smB s[k] = true
      · have hch : chg 97 122 s[k] = s[k] - 32 := by rw [chg_up, if_pos hsm]
        obtain ⟨h1, h2⟩ := (smB_iff _).1 hsm
        have hv := sub32 s[k] h1
        have HC := Lib.hid (And.intro hch hv)
        clear hch hv
        go_wp2_with (first | (go_at_call 60; refine (small_any s[k] _).mono ?_; rintro e w' ⟨rfl, rfl⟩) | (at_builtin; refine wpList_app1 rfl _ _ rfl w.heap.size _ _ rfl (hrow.alloc _) (s[k] - 32) _ _ rfl ?_ ?_ ?_ ?_; rotate_left 3; intro v' w1 hr1 hg1))
        all_goals try (show ((s.data.toList.take k).map (chg 97 122)).length ≤ _; omega)
        all_goals try (show w.heap.size ≤ (World.alloc _ _).heap.size; simp; omega)
        all_goals try (show (World.alloc _ _).cell? _ = _; unfold byteV; rw [HC.out.2]; simp; done)
        go_roundw
        case rel => exact ⟨k + 1, by omega, by go_num, by rw [HS.out, HC.out.1]; exact hr1, (hb.alloc hB _).grown hg1 (by simp; omega) hrow.ge⟩
        case measure => simp [intOf]; omega
      · have hch : chg 97 122 s[k] = s[k] := by rw [chg_up, if_neg hsm]
        have hsm2 : smB s[k] = false := by simpa using hsm
        have HC := Lib.hid hch
        clear hch hsm
        go_wp2_with (first | (go_at_call 60; refine (small_any s[k] _).mono ?_; rintro e w' ⟨rfl, rfl⟩) | (at_builtin; refine wpList_app1 rfl _ _ rfl w.heap.size _ _ rfl (hrow.alloc _) s[k] _ _ rfl ?_ ?_ ?_ ?_; rotate_left 3; intro v' w1 hr1 hg1))
        all_goals try (show ((s.data.toList.take k).map (chg 97 122)).length ≤ _; omega)
        all_goals try (show w.heap.size ≤ (World.alloc _ _).heap.size; simp; omega)
        all_goals try (show (World.alloc _ _).cell? _ = _; simp [byteV]; done)
        go_roundw
        case rel => exact ⟨k + 1, by omega, by go_num, by rw [HS.out, HC.out]; exact hr1, (hb.alloc hB _).grown hg1 (by simp; omega) hrow.ge⟩
        case measure => simp [intOf]; omega
    · have e : k = s.size := by omega
      subst e
      have hcv := conv_row hrow
      rw [List.take_of_length_le (by simp)] at hcv
      clear hrow
      go_wp2
      go_ret
      exact ⟨rfl, hb⟩
set_option maxHeartbeats 1000000 in
theorem ref_lower (s : ByteArray) (w : World) (hs : s.size ≤ 1099511627776) :
    Calls Tryd.prog 35 #[.string s] w fun e w' => e = .returned (.string (bs (s.data.toList.map (chg 65 90)))) ∧ Below w.heap.size w w' := by
  go_enter Tryd.func35, Tryd.ntmps35
  go_wp2
  go_loopw [3, 4] (fun v i wr => ∃ k : Nat, k ≤ s.size ∧ i = .int .i64 k ∧ Row wr w.heap.size v ((s.data.toList.take k).map (chg 65 90)) ∧ Below w.heap.size w wr) (fun _ i _ => s.size - (intOf i).toNat)
  case atStart => exact ⟨0, Nat.zero_le _, rfl, Row.nil _ _, Below.refl _ _⟩
  case round =>
    obtain ⟨k, hk, rfl, hrow, hb⟩ := hrel
    by_cases hlt : k < s.size
    · have hsn := map_snoc (f := chg 65 90) s k hlt
      have hlen : ((s.data.toList.take k).map (chg 65 90)).length ≤ k := by rw [List.length_map]; exact List.length_take_le _ _
      have HS := Lib.hid hsn
      have hB := hb.size
      have hu := s[k].toNat_lt
      clear hsn
      by_cases hsm : lgB s[k] = true
      · have hch : chg 65 90 s[k] = s[k] + 32 := by rw [chg_low, if_pos hsm]
        obtain ⟨h1, h2⟩ := (lgB_iff _).1 hsm
        have hv := add32 s[k] h2
        have HC := Lib.hid (And.intro hch hv)
        clear hch hv
        go_wp2_with (first | (go_at_call 61; refine (large_any s[k] _).mono ?_; rintro e w' ⟨rfl, rfl⟩) | (at_builtin; refine wpList_app1 rfl _ _ rfl w.heap.size _ _ rfl (hrow.alloc _) (s[k] + 32) _ _ rfl ?_ ?_ ?_ ?_; rotate_left 3; intro v' w1 hr1 hg1))
        all_goals try (show ((s.data.toList.take k).map (chg 65 90)).length ≤ _; omega)
        all_goals try (show w.heap.size ≤ (World.alloc _ _).heap.size; simp; omega)
        all_goals try (show (World.alloc _ _).cell? _ = _; unfold byteV; rw [HC.out.2]; simp; done)
        go_roundw
        case rel => exact ⟨k + 1, by omega, by go_num, by rw [HS.out, HC.out.1]; exact hr1, (hb.alloc hB _).grown hg1 (by simp; omega) hrow.ge⟩
        case measure => simp [intOf]; omega
      · have hch : chg 65 90 s[k] = s[k] := by rw [chg_low, if_neg hsm]
        have hsm2 : lgB s[k] = false := by simpa using hsm
        have HC := Lib.hid hch
        clear hch hsm
        go_wp2_with (first | (go_at_call 61; refine (large_any s[k] _).mono ?_; rintro e w' ⟨rfl, rfl⟩) | (at_builtin; refine wpList_app1 rfl _ _ rfl w.heap.size _ _ rfl (hrow.alloc _) s[k] _ _ rfl ?_ ?_ ?_ ?_; rotate_left 3; intro v' w1 hr1 hg1))
        all_goals try (show ((s.data.toList.take k).map (chg 65 90)).length ≤ _; omega)
        all_goals try (show w.heap.size ≤ (World.alloc _ _).heap.size; simp; omega)
        all_goals try (show (World.alloc _ _).cell? _ = _; simp [byteV]; done)
        go_roundw
        case rel => exact ⟨k + 1, by omega, by go_num, by rw [HS.out, HC.out]; exact hr1, (hb.alloc hB _).grown hg1 (by simp; omega) hrow.ge⟩
        case measure => simp [intOf]; omega
    · have e : k = s.size := by omega
      subst e
      have hcv := conv_row hrow
      rw [List.take_of_length_le (by simp)] at hcv
      clear hrow
      go_wp2
      go_ret
      exact ⟨rfl, hb⟩
end Go.Proofs.YtlkaikopjjmneaaDoor

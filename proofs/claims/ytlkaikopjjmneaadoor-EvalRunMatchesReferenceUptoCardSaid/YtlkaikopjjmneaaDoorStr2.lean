/-
  WHAT IS PROVED HERE: the walks of the program's filters short, slug and escape. Each returns what a plain function on lists of bytes gives. Condition: the string has at most 2^40 bytes.
-/
import Derived.Test.YtlkaikopjjmneaaDoorStr
namespace Go.Proofs.YtlkaikopjjmneaaDoor
open Go.RowKit

def dots3 : List UInt8 := [46, 46, 46]
def shortAt (l : List UInt8) : Nat → List UInt8
  | 0 => l.take 37 ++ dots3
  | n + 1 => if l[n + 1]? = some 32 ∧ l[n]? ≠ some 32 then l.take (n + 1) ++ dots3 else shortAt l n
def shortF (l : List UInt8) : List UInt8 := if l.length ≤ 40 then l else shortAt l 37

set_option maxHeartbeats 400000 in
theorem short_any (s : ByteArray) (w : World) (hs : s.size ≤ 1099511627776) :
    Calls Tryd.prog 30 #[.string s] w fun e w' => e = .returned (.string (bs (shortF s.data.toList))) ∧ w = w' := by
  by_cases h : s.size ≤ 40
  · have hr : s = bs (shortF s.data.toList) := by rw [shortF, if_pos (by simpa using h), bs_of]
    have HR := Lib.hid hr
    clear hr
    go_enter Tryd.func30, Tryd.ntmps30
    go_wp2
    go_ret
    exact ⟨ret_str HR.out, rfl⟩
  · have hlt : 40 < s.size := by omega
    have hr : shortF s.data.toList = shortAt s.data.toList 37 := by rw [shortF, if_neg (by simpa using h)]
    have HR := Lib.hid hr
    clear hr
    go_enter Tryd.func30, Tryd.ntmps30
    go_wp2
    go_loop [3] (fun i => ∃ k : Nat, k ≤ 37 ∧ i = .int .i64 k ∧ Hid (shortAt s.data.toList 37 = shortAt s.data.toList k)) (fun i => (intOf i).toNat)
    case atStart => exact ⟨37, by omega, rfl, Lib.hid rfl⟩
    case round =>
      obtain ⟨k, hk, rfl, HK⟩ := hrel
      rcases k with _ | j
      · go_wp2
        go_ret
        exact ⟨ret_str (str_ext (by rw [HR.out, HK.out, append_list, extract_list]; simp [shortAt, dots3])), rfl⟩
      · have hj := list_get s j (by omega)
        have hj1 := list_get s (j + 1) (by omega)
        have HJ := Lib.hid hj
        have HJ1 := Lib.hid hj1
        clear hj hj1
        go_wp2
        · have c1 : s[j + 1] = 32 := byte_eq 32 (by simpa using ‹(s[j + 1].toNat : Int) = 32›)
          have c0 : s[j] ≠ 32 := byte_ne 32 (by simpa using ‹((s[j].toNat : Int) != 32) = true›)
          go_ret
          exact ⟨ret_str (str_ext (by rw [HR.out, HK.out, append_list, extract_list, shortAt, if_pos (by rw [HJ.out, HJ1.out]; simp [c0, c1])]; simp [dots3])), rfl⟩
        · have c0 : s[j] = 32 := byte_eq 32 (by simpa using ‹((s[j].toNat : Int) != 32) = false›)
          go_round
          case rel => exact ⟨j, by omega, rfl, Lib.hid (by rw [HK.out, shortAt, if_neg (by rw [HJ.out, HJ1.out]; simp [c0])])⟩
          case measure => first | (simp [intOf]; done) | (simp [intOf]; omega)
        · have c1 : s[j + 1] ≠ 32 := byte_ne 32 (by simpa using ‹¬ (s[j + 1].toNat : Int) = 32›)
          go_round
          case rel => exact ⟨j, by omega, rfl, Lib.hid (by rw [HK.out, shortAt, if_neg (by rw [HJ.out, HJ1.out]; simp [c1])])⟩
          case measure => first | (simp [intOf]; done) | (simp [intOf]; omega)
end Go.Proofs.YtlkaikopjjmneaaDoor

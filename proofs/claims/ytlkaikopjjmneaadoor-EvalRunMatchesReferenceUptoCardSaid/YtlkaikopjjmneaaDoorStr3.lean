/-
  WHAT IS PROVED HERE: the walks of the program's filters escape and slug. Each returns what a plain function on lists of bytes gives. Condition: the string has at most 2^40 bytes.
-/
import Derived.Test.YtlkaikopjjmneaaDoorOwn
import Derived.Test.YtlkaikopjjmneaaDoorStr2
import Derived.Test.YtlkaikopjjmneaaDoorShelf
namespace Go.Proofs.YtlkaikopjjmneaaDoor
open Go.RowKit

def esc1 (c : UInt8) : List UInt8 := if c = 38 then [38, 97, 109, 112, 59] else if c = 60 then [38, 108, 116, 59] else if c = 62 then [38, 103, 116, 59] else if c = 34 then [38, 113, 117, 111, 116, 59] else [c]
def escF (l : List UInt8) : List UInt8 := l.flatMap esc1
theorem esc1_len (c : UInt8) : (esc1 c).length ≤ 6 := by unfold esc1; repeat' split
                                                         all_goals simp
theorem escF_len (l : List UInt8) : (escF l).length ≤ 6 * l.length := by
  induction l with
  | nil => simp [escF]
  | cons c r ih => have := esc1_len c; simp only [escF, List.flatMap_cons, List.length_append, List.length_cons] at *; omega
theorem escF_snoc (l : List UInt8) (c : UInt8) : escF (l ++ [c]) = escF l ++ esc1 c := by simp [escF]
theorem take_snoc (s : ByteArray) (k : Nat) (h : k < s.size) : s.data.toList.take (k + 1) = s.data.toList.take k ++ [s[k]] := by
  rw [List.take_succ_eq_append_getElem (by simpa using h), get_list s k h]

set_option maxHeartbeats 1000000 in
theorem escape_any (s : ByteArray) (w : World) (hs : s.size ≤ 1099511627776) :
    Calls Tryd.prog 32 #[.string s] w fun e w' => e = .returned (.string (bs (escF s.data.toList))) ∧ Below w.heap.size w w' := by
  go_enter Tryd.func32, Tryd.ntmps32
  go_wp2
  go_loopw [3, 4] (fun v i wr => ∃ k : Nat, k ≤ s.size ∧ i = .int .i64 k ∧ Row wr w.heap.size v (escF (s.data.toList.take k)) ∧ Below w.heap.size w wr) (fun _ i _ => s.size - (intOf i).toNat)
  case atStart => exact ⟨0, Nat.zero_le _, rfl, Row.nil _ _, Below.refl _ _⟩
  case round =>
    obtain ⟨k, hk, rfl, hrow, hb⟩ := hrel
    by_cases hlt : k < s.size
    · have ht := take_snoc s k hlt
      have hlen := escF_len (s.data.toList.take k)
      have hlen2 : (s.data.toList.take k).length ≤ k := List.length_take_le _ _
      have hsn : escF (s.data.toList.take (k + 1)) = escF (s.data.toList.take k) ++ esc1 s[k] := by rw [ht, escF_snoc]
      have HS := Lib.hid hsn
      clear ht hsn
      have hB := hb.size
      go_wp2_with (first | (at_builtin; refine wpList_appS rfl _ _ rfl w.heap.size _ _ rfl hrow _ rfl ?_ ?_ ?_; rotate_left 2; intro v' w1 hr1 hg1) | (at_builtin; refine wpList_app1 rfl _ _ rfl w.heap.size _ _ rfl (hrow.alloc _) s[k] _ _ rfl ?_ ?_ ?_ ?_; rotate_left 3; intro v' w1 hr1 hg1))
      all_goals try (show (_ + _ : Nat) ≤ _; simp [ByteArray.size]; omega)
      all_goals try (show (escF _).length ≤ _; omega)
      all_goals try exact hB
      all_goals try (show w.heap.size ≤ (World.alloc _ _).heap.size; simp; omega)
      all_goals try (show (World.alloc _ _).cell? _ = _; simp [byteV]; done)
      all_goals go_roundw
      case measure => simp [intOf]; omega
      case measure => simp [intOf]; omega
      case measure => simp [intOf]; omega
      case measure => simp [intOf]; omega
      case measure => simp [intOf]; omega
      case rel =>
        have e : s[k] = 38 := byte_eqb 38 (by assumption) rfl
        exact ⟨k + 1, by omega, by go_num, by rw [HS.out, e]; exact hr1, hb.grown hg1 hB hrow.ge⟩
      case rel =>
        have e : s[k] = 60 := byte_eqb 60 (by assumption) rfl
        exact ⟨k + 1, by omega, by go_num, by rw [HS.out, e]; exact hr1, hb.grown hg1 hB hrow.ge⟩
      case rel =>
        have e : s[k] = 62 := byte_eqb 62 (by assumption) rfl
        exact ⟨k + 1, by omega, by go_num, by rw [HS.out, e]; exact hr1, hb.grown hg1 hB hrow.ge⟩
      case rel =>
        have e : s[k] = 34 := byte_eqb 34 (by assumption) rfl
        exact ⟨k + 1, by omega, by go_num, by rw [HS.out, e]; exact hr1, hb.grown hg1 hB hrow.ge⟩
      case rel =>
        have e1 : s[k] ≠ 38 := byte_neb 38 (by assumption) rfl
        have e2 : s[k] ≠ 60 := byte_neb 60 (by assumption) rfl
        have e3 : s[k] ≠ 62 := byte_neb 62 (by assumption) rfl
        have e4 : s[k] ≠ 34 := byte_neb 34 (by assumption) rfl
        exact ⟨k + 1, by omega, by go_num, by rw [HS.out, esc1, if_neg e1, if_neg e2, if_neg e3, if_neg e4]; exact hr1, (hb.alloc hB _).grown hg1 (by simp; omega) hrow.ge⟩
    · have e : k = s.size := by omega
      subst e
      have hcv := conv_row hrow
      rw [List.take_of_length_le (by simp)] at hcv
      clear hrow
      go_wp2
      go_ret
      exact ⟨rfl, hb⟩

def isAN (c : UInt8) : Prop := (97 ≤ c.toNat ∧ c.toNat ≤ 122) ∨ (48 ≤ c.toNat ∧ c.toNat ≤ 57)
instance (c : UInt8) : Decidable (isAN c) := by unfold isAN; exact inferInstance
def slugStep (acc : List UInt8) (c : UInt8) : List UInt8 := if isAN c then acc ++ [c] else if acc ≠ [] ∧ acc.getLast? ≠ some 45 then acc ++ [45] else acc
def slugGo : List UInt8 → List UInt8 → List UInt8
  | acc, [] => acc
  | acc, c :: r => if (slugStep acc c).length = 20 then slugStep acc c else slugGo (slugStep acc c) r
def slugF (l : List UInt8) : List UInt8 := Lib.trimRightB (slugGo [] (l.map (chg 65 90))) 45
theorem drop_cons (s : ByteArray) (k : Nat) (h : k < s.size) : s.data.toList.drop k = s[k] :: s.data.toList.drop (k + 1) := by
  rw [List.drop_eq_getElem_cons (by simpa using h), get_list s k h]

set_option maxRecDepth 100000 in
set_option maxHeartbeats 1000000 in
theorem slug_any (s : ByteArray) (w : World) (hs : s.size ≤ 1099511627776) :
    Calls Tryd.prog 31 #[.string s] w fun e w' => e = .returned (.string (bs (slugF s.data.toList))) ∧ Below w.heap.size w w' := by
  go_enter Tryd.func31, Tryd.ntmps31
  go_wp2_with fail
  refine (change_any s 65 90 _ hs).mono ?_
  rintro e w1 ⟨rfl, hb1⟩
  have hsz : (bs (List.map (chg 65 90) s.data.toList)).size ≤ 1099511627776 := by simpa using hs
  have hfin : slugF s.data.toList = Lib.trimRightB (slugGo [] (bs (List.map (chg 65 90) s.data.toList)).data.toList) 45 := by rw [bs_list]; rfl
  generalize bs (List.map (chg 65 90) s.data.toList) = S at *
  have HF := Lib.hid hfin
  clear hfin
  go_wp2_with fail
  go_loopw [3, 4] (fun v i wr => ∃ (k : Nat) (acc : List UInt8), k ≤ S.size ∧ i = .int .i64 k ∧ Row wr w.heap.size v acc ∧ acc.length < 20 ∧ Hid (slugGo [] S.data.toList = slugGo acc (S.data.toList.drop k)) ∧ Below w.heap.size w wr) (fun _ i _ => S.size - (intOf i).toNat)
  case atStart => exact ⟨0, [], Nat.zero_le _, rfl, Row.nil _ _, by simp, Lib.hid rfl, hb1⟩
  case round =>
    obtain ⟨k, acc, hk, rfl, hrow, hlen, HG, hb⟩ := hrel
    have hB := hb.size
    by_cases hlt : k < S.size
    · have hd := drop_cons S k hlt
      have HD := Lib.hid hd
      clear hd
      have hu : S[k].toNat < 256 := S[k].toNat_lt
      have hend : ∀ acc', acc' = slugStep acc S[k] → acc'.length = 20 → slugGo [] S.data.toList = acc' := by
        intro acc' h1 h2; rw [HG.out, HD.out, slugGo, ← h1, if_pos h2]
      have hgo : ∀ acc', acc' = slugStep acc S[k] → acc'.length ≠ 20 → slugGo [] S.data.toList = slugGo acc' (S.data.toList.drop (k + 1)) := by
        intro acc' h1 h2; rw [HG.out, HD.out, slugGo, ← h1, if_neg h2]
      have HEND := Lib.hid hend
      have HGO := Lib.hid hgo
      clear hend hgo
      by_cases han : isAN S[k]
      · have hst : acc ++ [S[k]] = slugStep acc S[k] := by rw [slugStep, if_pos han]
        have HST := Lib.hid hst
        clear hst
        rcases han with ⟨h1, h2⟩ | ⟨h1, h2⟩
        all_goals
          go_wp2_with (first | (at_builtin; refine wpList_app1 rfl _ _ rfl w.heap.size _ _ rfl (hrow.alloc _) S[k] _ _ rfl ?_ ?_ ?_ ?_; rotate_left 3; intro v' w1 hr1 hg1; obtain ⟨acc', HA⟩ := named (acc ++ [S[k]]); have hl' : acc'.length ≤ 20 := (by rw [HA.out, List.length_append]; simp; omega); rw [← HA.out] at hr1; obtain ⟨a', cap', rfl⟩ := hr1.shape; have hcv := conv_row hr1) | (go_at_call 58; refine (Tryd.strings_TrimRight_one (bs acc') 45 (by decide) _ (by simp; omega)).mono ?_; rintro e w' ⟨rfl, rfl⟩))
          all_goals try rfl
          all_goals try (show acc.length ≤ _; omega)
          all_goals try (show w.heap.size ≤ wr.heap.size + 1; omega)
          case roundEnd =>
            have hne : acc'.length ≠ 20 := by
              have : ((acc'.length : Int) == 20) = false := by assumption
              simp at this; omega
            have hle : acc'.length < 20 := by rw [HA.out] at hne ⊢; simp at hne ⊢; omega
            refine ⟨⟨k + 1, acc', by omega, by go_num, hr1, hle, HGO.out acc' (HA.out.trans HST.out) hne, (hb.alloc hB _).grown hg1 (by simp; omega) hrow.ge⟩, by simp [intOf]; omega⟩
          all_goals
            have heq : acc'.length = 20 := by
              have : ((acc'.length : Int) == 20) = true := by assumption
              simp at this; omega
            go_ret
            exact ⟨ret_str (by rw [HF.out, HEND.out acc' (HA.out.trans HST.out) heq]; first | rfl | (rw [bs_list]; rfl)), (hb.alloc hB _).grown hg1 (by simp; omega) hrow.ge⟩
      · by_cases hacc : acc ≠ [] ∧ acc.getLast? ≠ some 45
        · have hst : acc ++ [45] = slugStep acc S[k] := by rw [slugStep, if_neg han, if_pos hacc]
          have HST := Lib.hid hst
          clear hst
          obtain ⟨h1, h2⟩ := hacc
          obtain ⟨g, cap, hv, hgB, hcells⟩ := hrow.cons h1
          have hpos : 0 < acc.length := List.length_pos_iff.2 h1
          have hlast := hcells (acc.length - 1) (by omega)
          have hx : acc[acc.length - 1] ≠ 45 := by
            intro e; apply h2; rw [List.getLast?_eq_getElem?, List.getElem?_eq_getElem (by omega), e]
          unfold byteV at hlast
          have htest : (((acc[acc.length - 1]).toNat : Int) != 45) = true := by
            rw [bne_iff_ne]; intro e; exact hx (byte_eq 45 (by simpa using e))
          have hx2 := (acc[acc.length - 1]).toNat_lt
          generalize acc[acc.length - 1] = x at *
          subst hv
          clear hcells h1 h2 hx
          unfold isAN at han
          have h3 : S[k].toNat < 48 ∨ (57 < S[k].toNat ∧ S[k].toNat < 97) ∨ 122 < S[k].toNat := by omega
          clear han
          rcases h3 with h3 | ⟨h3, h4⟩ | h3
          all_goals
            go_wp2_with (first | (at_builtin; refine wpList_app1 rfl _ _ rfl w.heap.size _ _ rfl (hrow.alloc _) 45 _ _ rfl ?_ ?_ ?_ ?_; rotate_left 3; intro v' w1 hr1 hg1; obtain ⟨acc', HA⟩ := named (acc ++ [45]); have hl' : acc'.length ≤ 20 := (by rw [HA.out, List.length_append]; simp; omega); rw [← HA.out] at hr1; obtain ⟨a', cap', rfl⟩ := hr1.shape; have hcv := conv_row hr1) | (go_at_call 58; refine (Tryd.strings_TrimRight_one (bs acc') 45 (by decide) _ (by simp; omega)).mono ?_; rintro e w' ⟨rfl, rfl⟩))
            all_goals try rfl
            all_goals try (simp [byteV]; done)
            all_goals try (show acc.length ≤ _; omega)
            all_goals try (show w.heap.size ≤ wr.heap.size + 1; omega)
            all_goals try (show w.heap.size ≤ (World.alloc _ _).heap.size; simp; omega)
            case roundEnd =>
              have hne : acc'.length ≠ 20 := by
                have : ((acc'.length : Int) == 20) = false := by assumption
                simp at this; omega
              have hle : acc'.length < 20 := by rw [HA.out] at hne ⊢; simp at hne ⊢; omega
              refine ⟨⟨k + 1, acc', by omega, by go_num, hr1, hle, HGO.out acc' (HA.out.trans HST.out) hne, (hb.alloc hB _).grown hg1 (by simp; omega) hrow.ge⟩, by simp [intOf]; omega⟩
            all_goals
              have heq : acc'.length = 20 := by
                have : ((acc'.length : Int) == 20) = true := by assumption
                simp at this; omega
              go_ret
              exact ⟨ret_str (by rw [HF.out, HEND.out acc' (HA.out.trans HST.out) heq]; first | rfl | (rw [bs_list]; rfl)), (hb.alloc hB _).grown hg1 (by simp; omega) hrow.ge⟩
        · have hst : acc = slugStep acc S[k] := by rw [slugStep, if_neg han, if_neg hacc]
          have HST := Lib.hid hst
          clear hst
          have hne : acc.length ≠ 20 := by omega
          unfold isAN at han
          have h3 : S[k].toNat < 48 ∨ (57 < S[k].toNat ∧ S[k].toNat < 97) ∨ 122 < S[k].toNat := by omega
          clear han
          by_cases h1 : acc = []
          · subst h1
            obtain ⟨a', cap, rfl⟩ := hrow.shape
            have hrow0 := Lib.hid hrow
            clear hacc
            rcases h3 with h3 | ⟨h3, h4⟩ | h3
            all_goals
              go_wp2_with fail
              go_roundw
              case rel => exact ⟨k + 1, [], by omega, by go_num, hrow0.out, hlen, HGO.out [] HST.out hne, hb⟩
              case measure => simp [intOf]; omega
          · obtain ⟨g, cap, hv, hgB, hcells⟩ := hrow.cons h1
            have hpos : 0 < acc.length := List.length_pos_iff.2 h1
            have hlast := hcells (acc.length - 1) (by omega)
            have hx : acc[acc.length - 1] = 45 := by
              have : acc.getLast? = some 45 := Classical.byContradiction fun h => hacc ⟨h1, h⟩
              rw [List.getLast?_eq_getElem?, List.getElem?_eq_getElem (by omega)] at this
              exact Option.some.inj this
            unfold byteV at hlast
            rw [hx] at hlast
            subst hv
            clear hcells h1 hx hacc
            rcases h3 with h3 | ⟨h3, h4⟩ | h3
            all_goals
              go_wp2_with fail
              go_roundw
              case rel => exact ⟨k + 1, acc, by omega, by go_num, hrow, hlen, HGO.out acc HST.out hne, hb⟩
              case measure => simp [intOf]; omega
    · have e : k = S.size := by omega
      subst e
      have hcv := conv_row hrow
      have he : S.data.toList.drop S.size = [] := by simp
      rw [he] at HG
      have HR : Hid (slugGo [] S.data.toList = acc) := HG
      clear hrow HG he
      go_wp2_with (go_at_call 58; refine (Tryd.strings_TrimRight_one (bs acc) 45 (by decide) _ (by simp; omega)).mono ?_; rintro e w' ⟨rfl, rfl⟩)
      go_ret
      exact ⟨ret_str (by rw [HF.out, HR.out]; first | rfl | (rw [bs_list]; rfl)), hb⟩
end Go.Proofs.YtlkaikopjjmneaaDoor

/-
  WHAT IS PROVED HERE: the reference's functions Sentences and Filter; the walk of the statement EvalFilterMatchesReference. Condition: the string has at most 2^40 bytes; strconv's table.
-/
import Derived.Test.YtlkaikopjjmneaaDoorFrw
import Derived.Test.YtlkaikopjjmneaaDoorSan3
import Derived.Test.YtlkaikopjjmneaaDoorAgn
namespace Go.Proofs.YtlkaikopjjmneaaDoor
open Go.RowKit Go.Sort

theorem enc_bs (x : List UInt8) : encStr x = .string (bs x) := rfl
theorem trimmed_piece (s : ByteArray) (a b : Nat) (w : World) (hs : s.size ≤ 1099511627776) : Calls Tryd.prog 63 #[.string (s.extract a b)] w fun e w' => e = .returned (.string (bs (piece s a b))) ∧ w = w' :=
  ref_trimmed (s.extract a b) w (by rw [ByteArray.size_extract]; omega)
set_option maxRecDepth 100000 in
set_option maxHeartbeats 1000000 in
theorem ref_sentences (s : ByteArray) (hs : s.size ≤ 1099511627776) (w : World) : Calls Tryd.prog 37 #[.string s] w (SentPost s w) := by
  obtain ⟨i0, hi, hz0, hz1, hz2⟩ := info_parts info9
  go_enter Tryd.func37, Tryd.ntmps37
  go_wp2_with fail
  go_loopw [3, 4, 5] (fun v f i wr => ∃ (k start : Nat) (va : Option Addr) (n vc : Nat) (l : List (List UInt8)), k ≤ s.size ∧ start ≤ k ∧ n ≤ k ∧ i = .int .i64 k ∧ f = .int .i64 start ∧ v = .slice va n vc ∧ Hid (n = l.length) ∧ Hid (wr.ownsRow w.heap.size 9 1 (.slice va n vc) n (l.map encStr)) ∧ Hid (sentF s = l ++ sentGo s (s.size - k) start) ∧ Below w.heap.size w wr) (fun _ _ i _ => s.size - (intOf i).toNat)
  case atStart => exact ⟨0, 0, none, 0, 0, [], Nat.zero_le _, Nat.le_refl _, Nat.le_refl _, rfl, rfl, rfl, Lib.hid rfl, Lib.hid (World.ownsRow_nil _ _ _ _), Lib.hid rfl, Below.refl _ _⟩
  case round =>
    obtain ⟨k, start, va, n, vc, l, hk, hst, hnk, rfl, rfl, rfl, HN, HR, HS, hb⟩ := hrel
    have hB := hb.size
    by_cases hlt : k < s.size
    · have hstep := sentGo_step s k start hlt
      by_cases he : endsAt s k = true
      · rw [if_pos he] at hstep
        have HST := Lib.hid hstep
        clear hstep
        have HRA : Hid (∀ o, (wr.alloc o).ownsRow w.heap.size 9 1 (.slice va n vc) n (l.map encStr)) := Lib.hid (fun o => World.ownsRow.alloc HR.out o)
        have HNC : Hid (∀ (j : Nat) (u : Value), [Value.string (bs (piece s start (k + 1)))][j]? = some u → (wr.alloc (.cells #[.string (bs (piece s start (k + 1)))] 9)).cell? ((⟨wr.heap.size, 0, none⟩ : Addr).add j) = some u) := Lib.hid (fun j u hj => by
          rw [Addr.add_lit, Nat.zero_add, World.cell?_alloc_at _ _ _ _ (by simp)]
          simpa using hj)
        have HB3 : Hid (∀ w3 o, (wr.alloc o).grownBy w3 (Value.slice va n vc).ownBlock → Below w.heap.size w w3) := Lib.hid (fun w3 o hg => (hb.alloc hB o).grown hg (by simp; omega) (fun g e => (World.ownsRow.lt HR.out g e).1))
        go_wp2_with (first
          | (go_at_call 62; refine (ends_any s k _ hs hlt).mono ?_; rintro e w' ⟨rfl, rfl⟩)
          | (go_at_call 63; refine (trimmed_piece s start (k + 1) _ hs).mono ?_; rintro e w' ⟨rfl, rfl⟩)
          | (at_builtin; go_must (refine wpList_app_own rfl _ _ 44 rfl w.heap.size 9 i0 _ 1 16 Tryd.underlying44 hi hz0 hz1 hz2 rfl (by decide) _ n _ rfl (HRA.out _) ⟨wr.heap.size, 0, none⟩ 1 1 [.string (bs (piece s start (k + 1)))] rfl rfl HNC.out (by simp [Value.oneCell']) (by unfold maxLen; omega) (by omega) (by simp; omega) ?_; intro v2 w2 g1 g2 g3; have HU := Lib.hid (HB3.out w2 _ g2); obtain ⟨g', cap', rfl⟩ := ownsRow_succ g1; have HG := Lib.hid g1; clear g1 g2 g3)))
        go_roundw
        case rel => exact ⟨k + 1, k + 1, _, n + 1, cap', l ++ [piece s start (k + 1)], by omega, by omega, by omega, by go_num, by go_num, rfl, Lib.hid (by rw [List.length_append, ← HN.out]; rfl), Lib.hid (by rw [List.map_append]; exact HG.out), Lib.hid (by rw [HS.out, HST.out, List.append_assoc]; rfl), HU.out⟩
        case measure => simp [intOf]; omega
      · have he2 : endsAt s k = false := by simpa using he
        rw [if_neg he] at hstep
        have HST := Lib.hid hstep
        clear hstep he
        go_wp2_with (go_at_call 62; refine (ends_any s k _ hs hlt).mono ?_; rintro e w' ⟨rfl, rfl⟩)
        go_roundw
        case rel => exact ⟨k + 1, start, va, n, vc, l, by omega, by omega, by omega, by go_num, rfl, rfl, HN, HR, Lib.hid (by rw [HS.out, HST.out]), hb⟩
        case measure => simp [intOf]; omega
    · have hks : k = s.size := by omega
      subst hks
      have hsf := HS.out
      rw [Nat.sub_self, sentGo] at hsf
      by_cases hp : piece s start s.size = []
      · rw [if_pos hp, List.append_nil] at hsf
        have HSF := Lib.hid hsf
        have hemp : bs (piece s start s.size) = ⟨#[]⟩ := by rw [hp]; rfl
        have HP := Lib.hid hemp
        clear hp hsf hemp
        go_wp2_with (go_at_call 63; refine (trimmed_piece s start s.size _ hs).mono ?_; rintro e w' ⟨rfl, rfl⟩; rw [HP.out])
        go_ret
        exact ⟨_, rfl, by unfold SRow; rw [HSF.out, ← HN.out]; exact HR.out, hb⟩
      · rw [if_neg hp] at hsf
        have HSF := Lib.hid hsf
        have hne : (bs (piece s start s.size)).toList.isEmpty = false := by
          rw [ByteArray.toList_eq, bs_list]
          cases h : piece s start s.size with
          | nil => exact absurd h hp
          | cons _ _ => rfl
        have HRA : Hid (∀ o, (wr.alloc o).ownsRow w.heap.size 9 1 (.slice va n vc) n (l.map encStr)) := Lib.hid (fun o => World.ownsRow.alloc HR.out o)
        have HNC : Hid (∀ (j : Nat) (u : Value), [Value.string (bs (piece s start s.size))][j]? = some u → (wr.alloc (.cells #[.string (bs (piece s start s.size))] 9)).cell? ((⟨wr.heap.size, 0, none⟩ : Addr).add j) = some u) := Lib.hid (fun j u hj => by
          rw [Addr.add_lit, Nat.zero_add, World.cell?_alloc_at _ _ _ _ (by simp)]
          simpa using hj)
        have HB3 : Hid (∀ w3 o, (wr.alloc o).grownBy w3 (Value.slice va n vc).ownBlock → Below w.heap.size w w3) := Lib.hid (fun w3 o hg => (hb.alloc hB o).grown hg (by simp; omega) (fun g e => (World.ownsRow.lt HR.out g e).1))
        clear hp hsf
        go_wp2_with (first
          | (go_at_call 63; refine (trimmed_piece s start s.size _ hs).mono ?_; rintro e w' ⟨rfl, rfl⟩)
          | (at_builtin; go_must (refine wpList_app_own rfl _ _ 44 rfl w.heap.size 9 i0 _ 1 16 Tryd.underlying44 hi hz0 hz1 hz2 rfl (by decide) _ n _ rfl (HRA.out _) ⟨wr.heap.size, 0, none⟩ 1 1 [.string (bs (piece s start s.size))] rfl rfl HNC.out (by simp [Value.oneCell']) (by unfold maxLen; omega) (by omega) (by simp; omega) ?_; intro v2 w2 g1 g2 g3; have HU := Lib.hid (HB3.out w2 _ g2); have HG := Lib.hid g1; clear g1 g2 g3)))
        go_ret
        exact ⟨_, rfl, by unfold SRow; rw [HSF.out, List.length_append, List.map_append, ← HN.out]; exact HG.out, HU.out⟩
theorem ref_itoa (s : ByteArray) (w : World) (hs : s.size ≤ 1099511627776) : Calls Tryd.prog 41 #[.string s] w fun e w' => e = .returned (.string (bs (Lib.itoa s.size))) ∧ Below w.heap.size w w' := ref_length s w hs
set_option maxRecDepth 100000 in
set_option maxHeartbeats 2000000 in
theorem ref_filter (name s : ByteArray) (hs : s.size ≤ 1099511627776) (w : World) :
    Calls Tryd.prog 21 #[.string name, .string s] w fun e w' => e = .returned (fltRes (filterF name s)) ∧ Below w.heap.size w w' := by
  go_enter Tryd.func21, Tryd.ntmps21
  go_wp2_with (first
    | (go_at_call 34; refine (ref_upper s _ hs).mono ?_; rintro e w' ⟨rfl, hb⟩)
    | (go_at_call 35; refine (ref_lower s _ hs).mono ?_; rintro e w' ⟨rfl, hb⟩)
    | (go_at_call 36; refine (ref_trim32 s _ hs).mono ?_; rintro e w' ⟨rfl, rfl⟩)
    | (go_at_call 37; refine (ref_sentences s hs _).mono ?_; rintro e w' ⟨v, rfl, hr, hb⟩; rcases hr.cases with ⟨h1, a, cap, rfl⟩ | ⟨x, r, g, cap, h1, rfl, hc⟩ <;> (have HL := Lib.hid h1; clear h1 hr))
    | (go_at_call 38; refine (ref_short s _ hs).mono ?_; rintro e w' ⟨rfl, rfl⟩)
    | (go_at_call 39; refine (ref_slug s _ hs).mono ?_; rintro e w' ⟨rfl, hb⟩)
    | (go_at_call 40; refine (ref_escape s _ hs).mono ?_; rintro e w' ⟨rfl, rfl⟩)
    | (go_at_call 41; refine (ref_itoa s _ hs).mono ?_; rintro e w' ⟨rfl, hb⟩))
  all_goals
    go_ret2
    refine ⟨ret_flt ?_, by first | assumption | exact Below.refl _ _⟩
    unfold filterF
    simp only [*, if_true, if_false, Bool.false_eq_true]
    first | rfl | (unfold firstF; rw [HL.out]; rfl)
end Go.Proofs.YtlkaikopjjmneaaDoor

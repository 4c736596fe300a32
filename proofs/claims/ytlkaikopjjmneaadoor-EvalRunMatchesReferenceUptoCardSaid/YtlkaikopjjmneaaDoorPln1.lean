/-
  WHAT IS PROVED HERE: plain facts on the filters: applied again they change nothing. No program, no condition.
-/
import Derived.Test.YtlkaikopjjmneaaDoorFlt
namespace Go.Proofs.YtlkaikopjjmneaaDoor

theorem u8_all {P : UInt8 → Bool} (h : ∀ n, n < 256 → P (UInt8.ofNat n) = true) (c : UInt8) : P c = true := by
  have := h c.toNat c.toNat_lt
  rwa [UInt8.ofNat_toNat] at this
theorem chg_up2 (c : UInt8) : chg 97 122 (chg 97 122 c) = chg 97 122 c := by
  have := u8_all (P := fun c => decide (chg 97 122 (chg 97 122 c) = chg 97 122 c)) (by decide +kernel) c
  simpa using this
theorem chg_low2 (c : UInt8) : chg 65 90 (chg 65 90 c) = chg 65 90 c := by
  have := u8_all (P := fun c => decide (chg 65 90 (chg 65 90 c) = chg 65 90 c)) (by decide +kernel) c
  simpa using this
theorem map_up2 (l : List UInt8) : (l.map (chg 97 122)).map (chg 97 122) = l.map (chg 97 122) := by
  rw [List.map_map]; exact List.map_congr_left (fun c _ => chg_up2 c)
theorem map_low2 (l : List UInt8) : (l.map (chg 65 90)).map (chg 65 90) = l.map (chg 65 90) := by
  rw [List.map_map]; exact List.map_congr_left (fun c _ => chg_low2 c)

/-! trim -/
theorem dropWhile_spec (p : UInt8 → Bool) (l : List UInt8) : ∃ i, i ≤ l.length ∧ l.dropWhile p = l.drop i ∧ (∀ j (h : j < l.length), j < i → p l[j] = true) ∧ (∀ h : i < l.length, p l[i] = false) := by
  induction l with
  | nil => exact ⟨0, by simp, rfl, fun j h => by simp at h, fun h => by simp at h⟩
  | cons c r ih =>
    by_cases hc : p c = true
    · obtain ⟨i, h1, h2, h3, h4⟩ := ih
      refine ⟨i + 1, by simp; omega, by rw [List.dropWhile_cons_of_pos hc, h2]; rfl, fun j hj hji => ?_, fun h => by simpa using h4 (by simpa using h)⟩
      match j, hj, hji with
      | 0, _, _ => exact hc
      | j + 1, hj, hji => simpa using h3 j (by simpa using hj) (by omega)
    · exact ⟨0, by simp, by rw [List.dropWhile_cons_of_neg hc]; rfl, fun j _ h => absurd h (by omega), fun _ => by simpa using hc⟩
theorem trimRight_spec (l : List UInt8) (c : UInt8) : ∃ i, i ≤ l.length ∧ Lib.trimRightB l c = l.take i ∧ (0 < i → l[i - 1]? ≠ some c) ∧ (∀ j (h : j < l.length), i ≤ j → l[j] = c) := by
  obtain ⟨k, h1, h2, h3, h4⟩ := dropWhile_spec (· == c) l.reverse
  simp only [List.length_reverse] at h1 h3 h4
  refine ⟨l.length - k, by omega, ?_, fun h => ?_, fun j hj hij => ?_⟩
  · unfold Lib.trimRightB
    rw [h2, List.reverse_drop]
    simp
  · have := h4 (by omega)
    rw [List.getElem_reverse] at this
    rw [List.getElem?_eq_getElem (by omega)]
    simp only [beq_eq_false_iff_ne, ne_eq] at this
    intro e
    injection e with e
    refine this ?_
    rw [← e]
    congr 1
    omega
  · have := h3 (l.length - 1 - j) (by omega) (by omega)
    rw [List.getElem_reverse] at this
    simp only [beq_iff_eq] at this
    rw [← this]
    congr 1
    omega
theorem trimLeft_spec (l : List UInt8) (c : UInt8) : ∃ i, i ≤ l.length ∧ Lib.trimLeftB l c = l.drop i ∧ (∀ j (h : j < l.length), j < i → l[j] = c) ∧ (l[i]? ≠ some c) := by
  obtain ⟨k, h1, h2, h3, h4⟩ := dropWhile_spec (· == c) l
  refine ⟨k, h1, h2, fun j hj hk => by simpa using h3 j hj hk, fun e => ?_⟩
  obtain ⟨hk, e⟩ := List.getElem?_eq_some_iff.1 e
  have := h4 hk
  simp [e] at this
/-- what trim gives: a piece, with c ahead of it, and no c at its ends -/
theorem trim_spec (l : List UInt8) (c : UInt8) : ∃ i n, i + n ≤ l.length ∧ Lib.trimB l c = (l.drop i).take n ∧ (∀ j (h : j < l.length), j < i → l[j] = c) ∧ (0 < n → l[i]? ≠ some c ∧ l[i + n - 1]? ≠ some c) := by
  obtain ⟨m, h1, h2, h3, _⟩ := trimRight_spec l c
  obtain ⟨i, g1, g2, g3, g4⟩ := trimLeft_spec (l.take m) c
  have hlen : (l.take m).length = m := by simp; omega
  rw [hlen] at g1
  refine ⟨i, m - i, by omega, ?_, fun j hj hji => ?_, fun hn => ⟨?_, ?_⟩⟩
  · unfold Lib.trimB
    rw [h2, g2, List.drop_take]
  · have := g3 j (by rw [hlen]; omega) hji
    rwa [List.getElem_take] at this
  · rwa [List.getElem?_take, if_pos (by omega)] at g4
  · have := h3 (by omega)
    rwa [show i + (m - i) - 1 = m - 1 by omega]
theorem trim_same (t : List UInt8) (c : UInt8) (h1 : t.head? ≠ some c) (h2 : t.getLast? ≠ some c) : Lib.trimB t c = t := by
  have hr : Lib.trimRightB t c = t := by
    obtain ⟨i, g1, g2, _, g4⟩ := trimRight_spec t c
    rw [g2]
    by_cases hi : i = t.length
    · rw [hi, List.take_length]
    · exfalso
      have := g4 (t.length - 1) (by omega) (by omega)
      refine h2 ?_
      rw [List.getLast?_eq_getElem?, List.getElem?_eq_getElem (by omega), this]
  unfold Lib.trimB
  rw [hr]
  obtain ⟨i, g1, g2, g3, _⟩ := trimLeft_spec t c
  rw [g2]
  by_cases hi : i = 0
  · rw [hi]; rfl
  · exfalso
    have := g3 0 (by omega) (by omega)
    refine h1 ?_
    rw [List.head?_eq_getElem?, List.getElem?_eq_getElem (by omega), this]
theorem trim_trim (l : List UInt8) (c : UInt8) : Lib.trimB (Lib.trimB l c) c = Lib.trimB l c := by
  obtain ⟨i, n, h1, h2, _, h4⟩ := trim_spec l c
  rw [h2]
  by_cases hn : n = 0
  · subst hn; simp [Lib.trimB, Lib.trimLeftB, Lib.trimRightB]
  · obtain ⟨a, b⟩ := h4 (by omega)
    refine trim_same _ _ ?_ ?_
    · rw [List.head?_eq_getElem?, List.getElem?_take, if_pos (by omega), List.getElem?_drop]
      exact a
    · rw [List.getLast?_eq_getElem?, List.getElem?_take, List.length_take, List.length_drop, if_pos (by omega), List.getElem?_drop]
      rwa [show i + (min n (l.length - i) - 1) = i + n - 1 by omega]

/-! short -/
theorem shortAt_len (l : List UInt8) : ∀ n, n ≤ 37 → (shortAt l n).length ≤ 40
  | 0, _ => by unfold shortAt dots3; simp; omega
  | n + 1, h => by
    unfold shortAt
    split
    · unfold dots3; simp; omega
    · exact shortAt_len l n (by omega)
theorem shortF_len (l : List UInt8) : (shortF l).length ≤ 40 := by
  unfold shortF
  split
  · assumption
  · exact shortAt_len l 37 (by omega)
theorem short_short (l : List UInt8) : shortF (shortF l) = shortF l := by
  have := shortF_len l
  generalize shortF l = t at *
  unfold shortF
  rw [if_pos this]

/-! slug -/
def sFold (m : List UInt8) : List UInt8 := m.foldl slugStep []
theorem not_an45 : ¬ isAN 45 := by decide
theorem sFold_snoc (m : List UInt8) (c : UInt8) : sFold (m ++ [c]) = slugStep (sFold m) c := by simp [sFold]
theorem step_cases (acc : List UInt8) (c : UInt8) : slugStep acc c = acc ∨ (∃ d, slugStep acc c = acc ++ [d] ∧ slugStep acc d = acc ++ [d] ∧ (isAN d ∨ d = 45)) := by
  unfold slugStep
  by_cases h : isAN c
  · exact .inr ⟨c, by rw [if_pos h], by rw [if_pos h], .inl h⟩
  · by_cases h2 : acc ≠ [] ∧ acc.getLast? ≠ some 45
    · exact .inr ⟨45, by rw [if_neg h, if_pos h2], by rw [if_neg not_an45, if_pos h2], .inr rfl⟩
    · exact .inl (by rw [if_neg h, if_neg h2])
theorem step_fix {acc : List UInt8} (h : sFold acc = acc) (c : UInt8) : sFold (slugStep acc c) = slugStep acc c := by
  rcases step_cases acc c with e | ⟨d, e, e2, _⟩
  · rw [e, h]
  · rw [e, sFold_snoc, h, e2]
theorem step_len (acc : List UInt8) (c : UInt8) : (slugStep acc c).length ≤ acc.length + 1 ∧ acc.length ≤ (slugStep acc c).length := by
  rcases step_cases acc c with e | ⟨d, e, _, _⟩
  · rw [e]; omega
  · rw [e]; simp
theorem go_fix : ∀ (m acc : List UInt8), sFold acc = acc → acc.length < 20 → (∀ c ∈ acc, isAN c ∨ c = 45) → sFold (slugGo acc m) = slugGo acc m ∧ (slugGo acc m).length ≤ 20 ∧ ∀ c ∈ slugGo acc m, isAN c ∨ c = 45
  | [], acc, h, hl, ha => by unfold slugGo; exact ⟨h, by omega, ha⟩
  | c :: r, acc, h, hl, ha => by
    have h2 := step_fix h c
    have ha2 : ∀ x ∈ slugStep acc c, isAN x ∨ x = 45 := by
      rcases step_cases acc c with e | ⟨d, e, _, hd⟩
      · rw [e]; exact ha
      · rw [e]
        intro x hx
        rcases List.mem_append.1 hx with hx | hx
        · exact ha x hx
        · simp at hx; subst hx; exact hd
    have hs := step_len acc c
    unfold slugGo
    split
    · exact ⟨h2, by omega, ha2⟩
    · rename_i hne
      exact go_fix r _ h2 (by omega) ha2
theorem fold_prefix (p q : List UInt8) : ∃ z, sFold (p ++ q) = sFold p ++ z ∧ z.length ≤ q.length := by
  induction q generalizing p with
  | nil => exact ⟨[], by simp, by simp⟩
  | cons c r ih =>
    obtain ⟨z, h1, h2⟩ := ih (p ++ [c])
    rw [List.append_assoc, List.singleton_append] at h1
    rw [sFold_snoc] at h1
    rcases step_cases (sFold p) c with e | ⟨d, e, _, _⟩
    · exact ⟨z, by rw [h1, e], by simp; omega⟩
    · exact ⟨d :: z, by rw [h1, e, List.append_assoc]; rfl, by simp; omega⟩
theorem fold_len (p : List UInt8) : (sFold p).length ≤ p.length := by
  obtain ⟨z, h1, h2⟩ := fold_prefix [] p
  rw [List.nil_append] at h1
  rw [h1]
  simpa [sFold] using h2
theorem fix_prefix {p q : List UInt8} (h : sFold (p ++ q) = p ++ q) : sFold p = p := by
  obtain ⟨z, h1, h2⟩ := fold_prefix p q
  have hl := fold_len p
  have e := h1.symm.trans h
  have hlen := congrArg List.length e
  simp only [List.length_append] at hlen
  exact (List.append_inj e (by omega)).1
theorem go_same : ∀ (q p : List UInt8), sFold (p ++ q) = p ++ q → (p ++ q).length ≤ 20 → slugGo p q = p ++ q
  | [], p, h, hl => by unfold slugGo; simp
  | c :: r, p, h, hl => by
    have h1 : sFold (p ++ [c]) = p ++ [c] := fix_prefix (q := r) (by rw [List.append_assoc]; exact h)
    rw [sFold_snoc, fix_prefix h] at h1
    unfold slugGo
    rw [h1]
    split
    · rename_i h20
      simp at hl h20
      have : r = [] := List.eq_nil_of_length_eq_zero (by omega)
      rw [this]
    · rw [go_same r (p ++ [c]) (by rw [List.append_assoc]; exact h) (by rw [List.append_assoc]; exact hl), List.append_assoc]; rfl
theorem chg_an (c : UInt8) (h : isAN c ∨ c = 45) : chg 65 90 c = c := by
  have := u8_all (P := fun c => decide ((isAN c ∨ c = 45) → chg 65 90 c = c)) (by decide +kernel) c
  simp only [decide_eq_true_eq] at this
  exact this h
theorem slug_spec (l : List UInt8) : sFold (slugF l) = slugF l ∧ (slugF l).length ≤ 20 ∧ (∀ c ∈ slugF l, isAN c ∨ c = 45) ∧ (slugF l).getLast? ≠ some 45 := by
  obtain ⟨h1, h2, h3⟩ := go_fix (l.map (chg 65 90)) [] rfl (by simp) (fun c hc => by cases hc)
  unfold slugF
  generalize slugGo [] (l.map (chg 65 90)) = o at *
  obtain ⟨i, g1, g2, g3, _⟩ := trimRight_spec o 45
  rw [g2]
  have hsplit := List.take_append_drop i o
  refine ⟨fix_prefix (q := o.drop i) (by rw [hsplit]; exact h1), by simp; omega, fun c hc => h3 c (List.mem_of_mem_take hc), ?_⟩
  by_cases hi : i = 0
  · subst hi; simp
  · rw [List.getLast?_eq_getElem?, List.length_take, List.getElem?_take, if_pos (by omega), show min i o.length - 1 = i - 1 by omega]
    exact g3 (by omega)
theorem trimRight_same (t : List UInt8) (c : UInt8) (h2 : t.getLast? ≠ some c) : Lib.trimRightB t c = t := by
  obtain ⟨i, g1, g2, _, g4⟩ := trimRight_spec t c
  rw [g2]
  by_cases hi : i = t.length
  · rw [hi, List.take_length]
  · exfalso
    have := g4 (t.length - 1) (by omega) (by omega)
    refine h2 ?_
    rw [List.getLast?_eq_getElem?, List.getElem?_eq_getElem (by omega), this]
theorem slug_slug (l : List UInt8) : slugF (slugF l) = slugF l := by
  obtain ⟨h1, h2, h3, h4⟩ := slug_spec l
  generalize slugF l = t at *
  unfold slugF
  have hm : t.map (chg 65 90) = t := by
    conv => rhs; rw [← List.map_id t]
    exact List.map_congr_left (fun c hc => chg_an c (h3 c hc))
  rw [hm, go_same t [] (by simpa using h1) (by simpa using h2), List.nil_append]
  exact trimRight_same t 45 h4

/-! first -/
theorem sentGo_head (s : ByteArray) : ∀ n, n ≤ s.size → (∀ k, k < s.size - n → endsAt s k = false) → ∃ m, m ≤ s.size ∧ (sentGo s n 0).headD [] = Lib.trimB (s.data.toList.take m) 32 ∧ ∀ k, k + 1 < m → endsAt s k = false
  | 0, _, h => by
    refine ⟨s.size, Nat.le_refl _, ?_, fun k hk => h k (by omega)⟩
    have hp : piece s 0 s.size = Lib.trimB (s.data.toList.take s.size) 32 := by unfold piece; rw [extract_list, List.drop_zero]
    unfold sentGo
    split
    · rename_i h0; rw [hp] at h0; rw [h0]; rfl
    · rw [hp]; rfl
  | n + 1, hn, h => by
    unfold sentGo
    split
    · refine ⟨s.size - (n + 1) + 1, by omega, ?_, fun k hk => h k (by omega)⟩
      show piece s 0 _ = _
      unfold piece; rw [extract_list, List.drop_zero]
    · rename_i he
      refine sentGo_head s n (by omega) (fun k hk => ?_)
      by_cases e : k = s.size - (n + 1)
      · subst e; simpa using he
      · exact h k (by omega)
theorem first_spec (s : ByteArray) : ∃ m, m ≤ s.size ∧ firstF s = Lib.trimB (s.data.toList.take m) 32 ∧ ∀ k, k + 1 < m → endsAt s k = false :=
  sentGo_head s s.size (Nat.le_refl _) (fun k hk => by omega)
theorem first_same (t : List UInt8) (h : ∀ k, k + 1 < t.length → endsAt (bs t) k = false) (ht : Lib.trimB t 32 = t) : firstF (bs t) = t := by
  obtain ⟨m, h1, h2, h3⟩ := first_spec (bs t)
  have key : ∀ n, n ≤ t.length → (∀ k, k < t.length - n → k + 1 < t.length → endsAt (bs t) k = false) → (sentGo (bs t) n 0).headD [] = t := by
    intro n
    induction n with
    | zero =>
      intro _ _
      have hp : piece (bs t) 0 (bs t).size = t := by unfold piece; rw [extract_list, List.drop_zero, bs_list, bs_size, List.take_length, ht]
      unfold sentGo
      split
      · rename_i h0; rw [hp] at h0; rw [h0]; rfl
      · rw [hp]; rfl
    | succ n ih =>
      intro hn hk
      unfold sentGo
      split
      · rename_i he
        rw [bs_size] at he
        by_cases e : n = 0
        · subst e
          show piece (bs t) 0 _ = _
          unfold piece
          rw [extract_list, List.drop_zero, bs_list, bs_size, show t.length - (0 + 1) + 1 = t.length by omega, List.take_length, ht]
        · rw [h _ (by omega)] at he
          exact absurd he (by decide)
      · exact ih (by omega) (fun k _ hk2 => h k hk2)
  have := key t.length (Nat.le_refl _) (fun k hk => by omega)
  unfold firstF sentF
  rw [bs_size]
  exact this
theorem bAt_piece (s : ByteArray) (i n k : Nat) (hk : k < n) (_h : i + n ≤ s.size) : bAt (bs ((s.data.toList.drop i).take n)) k = bAt s (i + k) := by
  unfold bAt
  rw [bs_list, List.getD_eq_getElem?_getD, List.getD_eq_getElem?_getD, List.getElem?_take, if_pos hk, List.getElem?_drop]
theorem bAt_space {s : ByteArray} {i : Nat} (h : ∀ j (_ : j < i), bAt s j = 32) (hi : 0 < i) : bAt s (i - 1) = 32 := h _ (by omega)
theorem init_piece (s : ByteArray) (i n k : Nat) (hk : k < n) (hs : i + n ≤ s.size) (hsp : ∀ j (_ : j < i), bAt s j = 32) (h : initB s (i + k) = true) : initB (bs ((s.data.toList.drop i).take n)) k = true := by
  match k, hk with
  | 0, hk =>
    exfalso
    match i, hs, hsp, h with
    | 0, _, _, h => simp [initB] at h
    | 1, _, hsp, h =>
      have := hsp 0 (by omega)
      simp [initB, this] at h
    | i + 2, _, hsp, h =>
      have := hsp (i + 1) (by omega)
      simp [initB, this] at h
  | 1, hk =>
    have hb := bAt_piece s i n 0 (by omega) hs
    rw [Nat.add_zero] at hb
    match i, hb, h with
    | 0, hb, h =>
      unfold initB
      rw [hb]
      exact h
    | i + 1, hb, h =>
      have h2 : decide ((65 ≤ bAt s (i + 1) ∧ bAt s (i + 1) ≤ 90) ∧ bAt s i = 32) = true := h
      simp only [decide_eq_true_eq] at h2
      unfold initB
      rw [hb]
      simpa using h2.1
  | k + 2, hk =>
    have hb1 := bAt_piece s i n (k + 1) (by omega) hs
    have hb0 := bAt_piece s i n k (by omega) hs
    have h2 : initB s ((i + k) + 2) = true := by rw [show i + k + 2 = i + (k + 2) by omega]; exact h
    unfold initB at h2 ⊢
    simp only [decide_eq_true_eq] at h2 ⊢
    rw [hb1, hb0, show i + (k + 1) = i + k + 1 by omega]
    exact h2
theorem first_first (s : ByteArray) : firstF (bs (firstF s)) = firstF s := by
  obtain ⟨m, h1, h2, h3⟩ := first_spec s
  rw [h2]
  have htt := trim_trim (s.data.toList.take m) 32
  obtain ⟨i, n, g1, g2, g3, g4⟩ := trim_spec (s.data.toList.take m) 32
  have hlen : (s.data.toList.take m).length = m := by rw [List.length_take, size_list]; omega
  rw [hlen] at g1
  have ht : Lib.trimB (s.data.toList.take m) 32 = (s.data.toList.drop i).take n := by
    rw [g2, List.drop_take, List.take_take]
    congr 1
    omega
  rw [ht] at htt ⊢
  refine first_same _ (fun k hk => ?_) htt
  rw [List.length_take, List.length_drop, size_list] at hk
  have hsp : ∀ j (_ : j < i), bAt s j = 32 := fun j hj => by
    have := g3 j (by rw [hlen]; omega) hj
    rw [List.getElem_take] at this
    unfold bAt
    rw [List.getD_eq_getElem?_getD, List.getElem?_eq_getElem (by rw [size_list]; omega), this]
    rfl
  have hno := h3 (i + k) (by omega)
  rw [Bool.eq_false_iff] at hno ⊢
  intro he
  refine hno ?_
  rw [endsAt_iff] at he ⊢
  rw [bAt_piece s i n k (by omega) (by omega)] at he
  refine ⟨?_, ?_⟩
  · rcases he.1 with ⟨a, b⟩ | a
    · refine .inl ⟨a, ?_⟩
      rw [Bool.eq_false_iff] at b ⊢
      exact fun c => b (init_piece s i n k (by omega) (by omega) hsp c)
    · exact .inr a
  · rcases he.2 with a | a
    · exfalso
      rw [bs_size, List.length_take, List.length_drop, size_list] at a
      omega
    · rw [bAt_piece s i n (k + 1) (by omega) (by omega)] at a
      exact .inr a
end Go.Proofs.YtlkaikopjjmneaaDoor

/-
  WHAT IS PROVED HERE: how much a filter makes a string longer: by at most five bytes for each of its special ones, and these grow no more. No program. No condition.
-/
import Derived.Test.YtlkaikopjjmneaaDoorSpec
namespace Go.Proofs.YtlkaikopjjmneaaDoor

def isSp (c : UInt8) : Bool := c == 38 || c == 60 || c == 62 || c == 34
/-- how many bytes must be escaped -/
def sp (l : List UInt8) : Nat := l.countP isSp
theorem all_u8 {p : UInt8 → Prop} (h : ∀ n : Fin 256, p (UInt8.ofNat n.val)) (c : UInt8) : p c := by
  have := h ⟨c.toNat, c.toNat_lt⟩
  simpa using this
theorem sp_chg1 (c : UInt8) : isSp (chg 97 122 c) = true → isSp c = true := all_u8 (p := fun c => isSp (chg 97 122 c) = true → isSp c = true) (by decide +kernel) c
theorem sp_chg2 (c : UInt8) : isSp (chg 65 90 c) = true → isSp c = true := all_u8 (p := fun c => isSp (chg 65 90 c) = true → isSp c = true) (by decide +kernel) c
theorem sp_map (f : UInt8 → UInt8) (hf : ∀ c, isSp (f c) = true → isSp c = true) (l : List UInt8) : sp (l.map f) ≤ sp l := by
  unfold sp
  rw [List.countP_map]
  exact List.countP_mono_left (fun c _ h => hf c h)
theorem sp_sub {a b : List UInt8} (h : a.Sublist b) : sp a ≤ sp b := h.countP_le
theorem trimB_sub (l : List UInt8) (c : UInt8) : (Lib.trimB l c).Sublist l := by
  unfold Lib.trimB Lib.trimLeftB Lib.trimRightB
  refine (List.dropWhile_sublist _).trans ?_
  have := (List.dropWhile_sublist (p := (· == c)) (l := l.reverse)).reverse
  simpa using this
theorem trimRightB_sub (l : List UInt8) (c : UInt8) : (Lib.trimRightB l c).Sublist l := by
  unfold Lib.trimRightB
  have := (List.dropWhile_sublist (p := (· == c)) (l := l.reverse)).reverse
  simpa using this
theorem piece_sub (s : ByteArray) (a b : Nat) : (piece s a b).Sublist s.data.toList := by
  unfold piece
  refine (trimB_sub _ _).trans ?_
  rw [extract_list]
  exact (List.drop_sublist _ _).trans (List.take_sublist _ _)
theorem sentGo_sub (s : ByteArray) : ∀ (n st : Nat) (x : List UInt8), x ∈ sentGo s n st → x.Sublist s.data.toList
  | 0, st, x, h => by
    unfold sentGo at h
    split at h
    · simp at h
    · simp at h; subst h; exact piece_sub s _ _
  | n + 1, st, x, h => by
    unfold sentGo at h
    split at h
    · rcases List.mem_cons.1 h with h | h
      · subst h; exact piece_sub s _ _
      · exact sentGo_sub s n _ x h
    · exact sentGo_sub s n _ x h
theorem firstF_sub (s : ByteArray) : (firstF s).Sublist s.data.toList := by
  unfold firstF
  cases h : sentF s with
  | nil => simp
  | cons x r => exact sentGo_sub s _ _ x (by unfold sentF at h; rw [h]; simp)
theorem shortAt_le (l : List UInt8) : ∀ n, n ≤ 37 → 40 < l.length → (shortAt l n).length ≤ 40 ∧ sp (shortAt l n) ≤ sp l
  | 0, _, h => by
    unfold shortAt
    have := sp_sub (List.take_sublist 37 l)
    refine ⟨by simp [dots3]; omega, ?_⟩
    have e : sp (l.take 37 ++ dots3) = sp (l.take 37) := by unfold sp; rw [List.countP_append]; rfl
    rw [e]; exact this
  | n + 1, hn, h => by
    unfold shortAt
    split
    · have := sp_sub (List.take_sublist (n + 1) l)
      refine ⟨by simp [dots3]; omega, ?_⟩
      have e : sp (l.take (n + 1) ++ dots3) = sp (l.take (n + 1)) := by unfold sp; rw [List.countP_append]; rfl
      rw [e]; exact this
    · exact shortAt_le l n (by omega) h
theorem shortF_le (l : List UInt8) : (shortF l).length ≤ l.length ∧ sp (shortF l) ≤ sp l := by
  unfold shortF
  split
  · exact ⟨Nat.le_refl _, Nat.le_refl _⟩
  · have := shortAt_le l 37 (Nat.le_refl _) (by omega)
    exact ⟨by omega, this.2⟩
def isSlug (c : UInt8) : Prop := isAN c ∨ c = 45
theorem slugStep_ok {acc : List UInt8} {c : UInt8} (h : ∀ x ∈ acc, isSlug x) : (∀ x ∈ slugStep acc c, isSlug x) ∧ (slugStep acc c).length ≤ acc.length + 1 := by
  unfold slugStep
  split
  · rename_i ha
    refine ⟨fun x hx => ?_, by simp⟩
    rcases List.mem_append.1 hx with hx | hx
    · exact h x hx
    · simp at hx; subst hx; exact .inl ha
  · split
    · refine ⟨fun x hx => ?_, by simp⟩
      rcases List.mem_append.1 hx with hx | hx
      · exact h x hx
      · simp at hx; exact .inr hx
    · exact ⟨h, by omega⟩
theorem slugGo_ok : ∀ (l acc : List UInt8), (∀ x ∈ acc, isSlug x) → acc.length < 20 → (∀ x ∈ slugGo acc l, isSlug x) ∧ (slugGo acc l).length ≤ 20
  | [], acc, h, hl => by unfold slugGo; exact ⟨h, by omega⟩
  | c :: r, acc, h, hl => by
    have := slugStep_ok (c := c) h
    unfold slugGo
    split
    · exact ⟨this.1, by omega⟩
    · exact slugGo_ok r _ this.1 (by omega)
theorem slugF_ok (l : List UInt8) : (∀ x ∈ slugF l, isSlug x) ∧ (slugF l).length ≤ 20 := by
  have := slugGo_ok (l.map (chg 65 90)) [] (by simp) (by simp)
  have hs := trimRightB_sub (slugGo [] (l.map (chg 65 90))) 45
  exact ⟨fun x hx => this.1 x (hs.subset hx), Nat.le_trans hs.length_le this.2⟩
theorem isSlug_sp {c : UInt8} (h : isSlug c) : isSp c = false := by
  rcases h with h | h
  · unfold isAN at h
    unfold isSp
    simp only [Bool.or_eq_false_iff, beq_eq_false_iff_ne, ne_eq]
    refine ⟨⟨⟨?_, ?_⟩, ?_⟩, ?_⟩ <;> (intro e; subst e; simp at h)
  · subst h; rfl
theorem sp_none {l : List UInt8} (h : ∀ x ∈ l, isSp x = false) : sp l = 0 := by
  unfold sp
  rw [List.countP_eq_zero]
  intro x hx; rw [h x hx]; decide
theorem esc1_sp (c : UInt8) : sp (esc1 c) = sp [c] ∧ (esc1 c).length ≤ 1 + 5 * sp [c] :=
  all_u8 (p := fun c => sp (esc1 c) = sp [c] ∧ (esc1 c).length ≤ 1 + 5 * sp [c]) (by decide +kernel) c
theorem escF_le (l : List UInt8) : sp (escF l) = sp l ∧ (escF l).length ≤ l.length + 5 * sp l := by
  induction l with
  | nil => exact ⟨rfl, by simp [escF]⟩
  | cons c r ih =>
    have h := esc1_sp c
    have e : escF (c :: r) = esc1 c ++ escF r := by simp [escF]
    have e2 : sp (c :: r) = sp [c] + sp r := by unfold sp; rw [← List.countP_append]; rfl
    have e3 : sp (escF (c :: r)) = sp (esc1 c) + sp (escF r) := by rw [e]; unfold sp; rw [List.countP_append]
    refine ⟨by rw [e3, e2, h.1, ih.1], ?_⟩
    rw [e, List.length_append, List.length_cons, e2]
    omega
theorem digit_ok (k : Nat) (h : k < 10) : isSp (UInt8.ofNat (48 + k)) = false := by
  have : ∀ n : Fin 10, isSp (UInt8.ofNat (48 + n.val)) = false := by decide
  exact this ⟨k, h⟩
theorem decDigits_ok : ∀ (n u : Nat), u < 10 ^ (n + 1) → (∀ x ∈ Lib.decDigits u, isSp x = false) ∧ (Lib.decDigits u).length ≤ n + 1
  | 0, u, h => by
    rw [Lib.decDigits, dif_pos (by omega)]
    exact ⟨fun x hx => by rw [List.mem_singleton] at hx; subst hx; exact digit_ok u (by omega), by simp⟩
  | n + 1, u, h => by
    rw [Lib.decDigits]
    split
    · rename_i hu
      exact ⟨fun x hx => by rw [List.mem_singleton] at hx; subst hx; exact digit_ok u hu, by simp⟩
    · have := decDigits_ok n (u / 10) (by rw [Nat.pow_succ] at h; generalize 10 ^ (n + 1) = q at *; omega)
      refine ⟨fun x hx => ?_, by simp; omega⟩
      rcases List.mem_append.1 hx with hx | hx
      · exact this.1 x hx
      · rw [List.mem_singleton] at hx; subst hx; exact digit_ok _ (Nat.mod_lt _ (by omega))
theorem itoa_ok (n : Nat) (h : n ≤ 1099511627776) : sp (Lib.itoa n) = 0 ∧ (Lib.itoa n).length ≤ 20 := by
  have := decDigits_ok 19 n (by omega)
  unfold Lib.itoa
  rw [if_neg (by omega), Int.toNat_natCast]
  exact ⟨sp_none this.1, this.2⟩

theorem filter_grow (f s : ByteArray) (r : List UInt8) (hs : s.size ≤ 1099511627776) (h : filterF f s = some r) : sp r ≤ sp s.data.toList ∧ r.length ≤ s.size + 5 * sp s.data.toList + 20 := by
  have hl := size_list s
  unfold filterF at h
  split at h
  · cases h; exact ⟨sp_map _ sp_chg1 _, by rw [List.length_map]; omega⟩
  split at h
  · cases h; exact ⟨sp_map _ sp_chg2 _, by rw [List.length_map]; omega⟩
  split at h
  · cases h; exact ⟨sp_sub (trimB_sub _ _), by have := (trimB_sub s.data.toList 32).length_le; omega⟩
  split at h
  · cases h; exact ⟨sp_sub (firstF_sub s), by have := (firstF_sub s).length_le; omega⟩
  split at h
  · cases h; have := shortF_le s.data.toList; exact ⟨this.2, by omega⟩
  split at h
  · cases h; have := slugF_ok s.data.toList; exact ⟨by rw [sp_none (fun x hx => isSlug_sp (this.1 x hx))]; omega, by omega⟩
  split at h
  · cases h; have := escF_le s.data.toList; exact ⟨by omega, by omega⟩
  split at h
  · cases h; have := itoa_ok s.size hs; exact ⟨by omega, by omega⟩
  · cases h
theorem sp_le (l : List UInt8) : sp l ≤ l.length := List.countP_le_length
end Go.Proofs.YtlkaikopjjmneaaDoor

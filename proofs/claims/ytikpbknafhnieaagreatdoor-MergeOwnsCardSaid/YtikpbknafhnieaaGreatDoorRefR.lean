/-
  WHAT IS PROVED HERE: append of several blocks onto a row of blocks. No condition.
-/
import Derived.Test.YtikpbknafhnieaaGreatDoorRefQ
namespace Go.Proofs.YtikpbknafhnieaaGreatDoor
open Go.RowKit Mg Go.Shelf
section
variable {ops : Array Oper} {rest : List Oper} {o : Oper} {a : Act} {w : World} {Q : Exit → Act → World → Prop} {mem : Addr → Option Value}
theorem BVals.len : ∀ {l : List Blk} {vs : List Value}, BVals mem l vs → vs.length = l.length * 9
  | [], _, h => by have h : _ = [] := h; subst h; rfl
  | x :: l, _, ⟨ao, cap, rest, h1, h2, h3⟩ => by
    have := BVals.len h3
    subst h2
    rw [List.length_append, this]
    show 9 + l.length * 9 = (l.length + 1) * 9
    omega
theorem BVals.one : ∀ {l : List Blk} {vs : List Value}, BVals mem l vs → ∀ u ∈ vs, u.oneCell' = true
  | [], _, h, u, hu => by have h : _ = [] := h; subst h; cases hu
  | x :: l, _, ⟨ao, cap, rest, h1, h2, h3⟩, u, hu => by
    subst h2
    rcases List.mem_append.1 hu with hu | hu
    · simp only [blkVals, List.mem_cons, List.not_mem_nil, or_false] at hu
      rcases hu with rfl | rfl | rfl | rfl | rfl | rfl | rfl | rfl | rfl <;> rfl
    · exact BVals.one h3 u hu
theorem BVals.app : ∀ {l m : List Blk} {vs us : List Value}, BVals mem l vs → BVals mem m us → BVals mem (l ++ m) (vs ++ us)
  | [], _, _, _, h, k => by have h : _ = [] := h; subst h; exact k
  | x :: l, _, _, _, ⟨ao, cap, rest, h1, h2, h3⟩, k => by
    subst h2
    exact ⟨ao, cap, _, h1, by rw [List.append_assoc], BVals.app h3 k⟩
theorem BVals.take : ∀ {l : List Blk} {vs : List Value} (_ : BVals mem l vs) (k : Nat), BVals mem (l.take k) (vs.take (k * 9))
  | [], _, h, k => by have h : _ = [] := h; subst h; rw [List.take_nil, List.take_nil]; rfl
  | x :: l, _, ⟨ao, cap, rest, h1, h2, h3⟩, 0 => by rw [Nat.zero_mul, List.take_zero, List.take_zero]; rfl
  | x :: l, _, ⟨ao, cap, rest, h1, h2, h3⟩, k + 1 => by
    subst h2
    refine ⟨ao, cap, rest.take (k * 9), h1, ?_, BVals.take h3 k⟩
    rw [List.take_append, List.take_of_length_le (by show 9 ≤ _; omega)]
    congr 2
    show (k + 1) * 9 - 9 = _
    omega
theorem BVals.drop : ∀ {l : List Blk} {vs : List Value} (_ : BVals mem l vs) (k : Nat), BVals mem (l.drop k) (vs.drop (k * 9))
  | [], _, h, k => by have h : _ = [] := h; subst h; rw [List.drop_nil, List.drop_nil]; rfl
  | x :: l, _, ⟨ao, cap, rest, h1, h2, h3⟩, 0 => by rw [Nat.zero_mul, List.drop_zero, List.drop_zero]; exact ⟨ao, cap, rest, h1, h2, h3⟩
  | x :: l, _, ⟨ao, cap, rest, h1, h2, h3⟩, k + 1 => by
    subst h2
    have e0 : (blkVals x (.slice ao x.lab.after.length cap)).length ≤ (k + 1) * 9 := by show 9 ≤ _; omega
    rw [List.drop_append, List.drop_of_length_le e0, List.nil_append]
    have e : (k + 1) * 9 - (blkVals x (.slice ao x.lab.after.length cap)).length = k * 9 := by show (k + 1) * 9 - 9 = _; omega
    rw [e]
    exact BVals.drop h3 k
theorem Reads.pre {B size n : Nat} {A : Option Addr} {xs : List Value} (h : Reads w B size A n xs) {k : Nat} (hk : k ≤ n) : Reads w B size A k (xs.take (k * size)) := by
  refine ⟨?_, fun h0 => ?_⟩
  · rw [List.length_take, h.1]
    have := Nat.mul_le_mul_right size hk
    omega
  · obtain ⟨ad, e, hb, hc⟩ := h.2 (by omega)
    refine ⟨ad, e, hb, fun j u hu => hc j u ?_⟩
    rw [List.getElem?_take] at hu
    split at hu
    · exact hu
    · cases hu
theorem wpList_app_sblks (hgd : o.guard = none) (s x : Operand) (ho : o.op = .call { callee := .builtin .append, args := #[s, x], argTypes := #[22, 22] })
    (B : Nat) (v : Value) (l : List Blk) (hs : a.eval s = v) (hown : SRow mem w B v l) (m : List Blk) (us : List Value) (B2 : Nat) (A : Option Addr) (n c : Nat) (hx : a.eval x = .slice A n c) (hn : n = m.length) (hr : Reads w B2 9 A m.length us) (hu : BVals mem m us) (hlen : l.length + m.length ≤ 100000) (hB : B ≤ w.heap.size)
    (h : ∀ v' w', SRow mem w' B v' (l ++ m) → w.grownBy w' v.ownBlock → wpList Tryz.prog ops Q rest (a.put o.dst v') w') : wpList Tryz.prog ops Q (o :: rest) a w := by
  obtain ⟨i0, hi0, hz0, hz1, hz2⟩ := info_parts blk_info
  obtain ⟨vs, h1, h2⟩ := hown
  subst hn
  refine wpList_append_any w hgd s x 22 ho B 39 i0 _ 9 96 Tryz.underlying22 hi0 hz0 hz1 hz2 rfl (by decide) v l.length vs hs h1 B2 A m.length c us hx hr hu.one (by unfold maxLen; omega) (by omega) hB ?_
  intro v' w' g1 g2 _
  exact h v' w' ⟨_, by rw [List.length_append]; exact g1, h2.app hu⟩ g2
/-- a row's cells, read whole -/
theorem SRow.reads {B : Nat} {A : Option Addr} {n c : Nat} {l : List Blk} (h : SRow mem w B (.slice A n c) l) : ∃ vs, n = l.length ∧ n ≤ c ∧ c ≤ maxLen ∧ Reads w w.heap.size 9 A l.length vs ∧ BVals mem l vs := by
  obtain ⟨vs, h1, h2⟩ := h
  have hn : n = l.length ∧ n ≤ c ∧ c ≤ maxLen := by
    rcases h1.2 with ⟨e, hz⟩ | ⟨g, cap, cur, e, _, _, hnc, hc, _⟩
    · injection e with _ e1 e2
      subst e1 e2
      exact ⟨hz.symm, Nat.le_refl _, Nat.zero_le _⟩
    · injection e with _ e1 e2
      subst e1 e2
      exact ⟨rfl, hnc, hc⟩
  obtain ⟨rfl, k1, k2⟩ := hn
  exact ⟨vs, rfl, k1, k2, Reads.of_own h1, h2⟩
end
end Go.Proofs.YtikpbknafhnieaaGreatDoor

/-
  WHAT IS PROVED HERE: plain facts on the evaluation of templates: what it gives from a state in which more has been used. No program. Condition: the source's answers hang on the question alone.
-/
import Derived.Test.YtlkaikopjjmneaaDoorRec
namespace Go.Proofs.YtlkaikopjjmneaaDoor

/-- the answers hang on the question alone -/
structure Plain {S : Type} (ops : Ops S) : Prop where
  field : ∀ s s' id name, (ops.field s id name).1 = (ops.field s' id name).1
  list : ∀ s s' id name arg n, (ops.list s id name arg n).1 = (ops.list s' id name arg n).1
  incl : ∀ s s' name, (ops.incl s name).1 = (ops.incl s' name).1
theorem rec_plain (d : Dat) : Plain (recOps d) := ⟨fun _ _ _ _ => rfl, fun _ _ _ _ _ _ => rfl, fun _ _ _ => rfl⟩

section
variable {S : Type}
def Le (a b : St S) : Prop := a.steps ≤ b.steps ∧ a.out.length ≤ b.out.length
def Adv (a a' b b' : St S) : Prop := ∃ (o : List UInt8) (n : Nat), a'.out = a.out ++ o ∧ a'.steps = a.steps + n ∧ b'.out = b.out ++ o ∧ b'.steps = b.steps + n
def SimAt (x y : Int × St S) (a b : St S) : Prop := y.1 = 111 ∨ (y.1 = x.1 ∧ (x.1 = 0 → Adv a x.2 b y.2))
def Sim (A : St S → Int × St S) : Prop := ∀ a b, Le a b → SimAt (A a) (A b) a b
theorem Adv.le {a a' b b' : St S} (h : Adv a a' b b') (hl : Le a b) : Le a' b' := by
  obtain ⟨o, n, h1, h2, h3, h4⟩ := h
  obtain ⟨l1, l2⟩ := hl
  refine ⟨by omega, ?_⟩
  rw [h1, h3, List.length_append, List.length_append]
  omega
theorem Adv.refl (a b : St S) : Adv a a b b := ⟨[], 0, by simp, by simp, by simp, by simp⟩
theorem Adv.trans {a a' a2 b b' b2 : St S} (h : Adv a a' b b') (k : Adv a' a2 b' b2) : Adv a a2 b b2 := by
  obtain ⟨o, n, h1, h2, h3, h4⟩ := h
  obtain ⟨p, m, k1, k2, k3, k4⟩ := k
  exact ⟨o ++ p, n + m, by rw [k1, h1, List.append_assoc], by omega, by rw [k3, h3, List.append_assoc], by omega⟩
/-- one after the other -/
def andThen (x : Int × St S) (B : St S → Int × St S) : Int × St S := if x.1 = 0 then B x.2 else x
theorem SimAt.then {x y : Int × St S} {a b : St S} (h : SimAt x y a b) (hl : Le a b) {B : St S → Int × St S} (hB : Sim B) : SimAt (andThen x B) (andThen y B) a b := by
  unfold andThen
  rcases h with h | ⟨h1, h2⟩
  · rw [if_neg (show ¬ y.1 = 0 by omega)]
    exact .inl h
  · by_cases h0 : x.1 = 0
    · rw [if_pos h0, if_pos (h1.trans h0)]
      have hav := h2 h0
      rcases hB _ _ (hav.le hl) with k | ⟨k1, k2⟩
      · exact .inl k
      · exact .inr ⟨k1, fun z => hav.trans (k2 z)⟩
    · rw [if_neg h0, if_neg (by omega)]
      exact .inr ⟨h1, fun z => absurd z h0⟩
theorem sim_src {A : St S → Int × St S} (hA : Sim A) {a b : St S} (hl : Le a b) (s s' : S) : SimAt (A { a with src := s }) (A { b with src := s' }) a b := by
  rcases hA { a with src := s } { b with src := s' } hl with h | ⟨h1, h2⟩
  · exact .inl h
  · exact .inr ⟨h1, fun z => h2 z⟩

theorem sim_put (s : List UInt8) : Sim (S := S) (putF s) := by
  intro a b hl
  have := hl.2
  unfold putF
  by_cases hb : 8192 < b.out.length + s.length
  · rw [if_pos hb]; exact .inl rfl
  · rw [if_neg hb, if_neg (by omega)]
    exact .inr ⟨rfl, fun _ => ⟨s, 0, rfl, rfl, rfl, rfl⟩⟩
theorem sim_fail (n : Int) (hn : n ≠ 0) {a b a' b' : St S} : SimAt (n, a') (n, b') a b := .inr ⟨rfl, fun z => absurd z hn⟩
theorem sim_field {ops : Ops S} (h : Plain ops) (name : ByteArray) (filters : List ByteArray) (id : Int) : Sim (fieldF ops name filters id) := by
  intro a b hl
  unfold fieldF
  simp only []
  rw [h.field b.src a.src id name]
  generalize (ops.field a.src id name).1 = r
  generalize (ops.field a.src id name).2 = sa
  generalize (ops.field b.src id name).2 = sb
  split
  · cases runFilters filters r.1 with
    | none => exact sim_fail 110 (by decide)
    | some t => exact sim_src (sim_put _) hl sa sb
  · exact sim_fail 110 (by decide)
theorem sim_ids {f : Int → St S → Int × St S} (hf : ∀ i, Sim (f i)) : ∀ l, Sim (seqIds f l)
  | [] => fun a b _ => .inr ⟨rfl, fun _ => Adv.refl a b⟩
  | i :: r => fun a b hl => (hf i a b hl).then hl (sim_ids hf r)
theorem simAt_step {x y : Int × St S} {a b : St S} (h : SimAt x y { a with steps := a.steps + 1 } { b with steps := b.steps + 1 }) : SimAt x y a b := by
  rcases h with h | ⟨h1, h2⟩
  · exact .inl h
  · refine .inr ⟨h1, fun z => ?_⟩
    obtain ⟨o, n, k1, k2, k3, k4⟩ := h2 z
    exact ⟨o, n + 1, k1, by rw [k2]; show a.steps + 1 + n = _; omega, k3, by rw [k4]; show b.steps + 1 + n = _; omega⟩
mutual
theorem sim_node {ops : Ops S} (h : Plain ops) {inc : ByteArray → Int → St S → Int × St S} (hinc : ∀ name id, Sim (inc name id)) : ∀ (n : Node) (id : Int), Sim (evNode ops inc n id)
  | .mk kind text name arg count filters kids els, id => by
    intro a b hl
    unfold evNode
    split
    · exact sim_put _ a b hl
    split
    · exact sim_field h name filters id a b hl
    split
    · simp only []
      rw [h.list b.src a.src id name arg count]
      generalize (ops.list a.src id name arg count).1 = r
      generalize (ops.list a.src id name arg count).2 = sa
      generalize (ops.list b.src id name arg count).2 = sb
      split
      · exact sim_src (sim_list h hinc els id) hl sa sb
      split
      · exact .inr ⟨rfl, fun _ => Adv.refl a b⟩
      · exact sim_src (sim_ids (fun i => sim_list h hinc kids i) r) hl sa sb
    split
    · simp only []
      rw [h.field b.src a.src id name]
      generalize (ops.field a.src id name).1 = r
      generalize (ops.field a.src id name).2 = sa
      generalize (ops.field b.src id name).2 = sb
      split
      · exact sim_src (sim_list h hinc kids id) hl sa sb
      · exact sim_src (sim_list h hinc els id) hl sa sb
    split
    · exact hinc name id a b hl
    · exact sim_fail 110 (by decide)
theorem sim_list {ops : Ops S} (h : Plain ops) {inc : ByteArray → Int → St S → Int × St S} (hinc : ∀ name id, Sim (inc name id)) : ∀ (l : List Node) (id : Int), Sim (evList ops inc l id)
  | [], id => fun a b _ => by unfold evList; exact .inr ⟨rfl, fun _ => Adv.refl a b⟩
  | n :: r, id => by
    intro a b hl
    unfold evList
    by_cases hb : 2000 ≤ b.steps
    · rw [if_pos hb]; exact .inl rfl
    · have := hl.1
      rw [if_neg hb, if_neg (by omega)]
      have hl2 : Le { a with steps := a.steps + 1 } { b with steps := b.steps + 1 } := ⟨by show a.steps + 1 ≤ b.steps + 1; omega, hl.2⟩
      exact simAt_step ((sim_node h hinc n id _ _ hl2).then hl2 (sim_list h hinc r id))
end
end
theorem sim_incF {S : Type} {ops : Ops S} (h : Plain ops) : ∀ (d : Nat), (∀ name id, Sim (incF ops d name id)) ∧ ∀ l id, Sim (evD ops d l id)
  | 0 => by
    have h1 : ∀ name id, Sim (incF ops 0 name id) := fun name id a b hl => sim_fail 111 (by decide)
    exact ⟨h1, fun l id => by rw [evD_eq]; exact sim_list h h1 l id⟩
  | d + 1 => by
    have ih := (sim_incF h d).2
    have h1 : ∀ name id, Sim (incF ops (d + 1) name id) := fun name id a b hl => by
      unfold incF
      simp only []
      rw [h.incl b.src a.src name]
      split
      · exact sim_src (ih _ id) hl _ _
      · exact sim_fail 110 (by decide)
    exact ⟨h1, fun l id => by rw [evD_eq]; exact sim_list h h1 l id⟩
/-- what the evaluation gives from any state, against what it gives from the start -/
theorem sim_start {S : Type} {ops : Ops S} (h : Plain ops) (l : List Node) (id : Int) (src : S) (st : St S) :
    (evD ops 3 l id st).1 = 111 ∨ ((evD ops 3 l id st).1 = (runF ops l src id).1.2 ∧ ((evD ops 3 l id st).1 = 0 → (evD ops 3 l id st).2.out = st.out ++ (runF ops l src id).1.1)) := by
  have hs := (sim_incF h 3).2 l id { out := [], steps := 0, src := src } st ⟨Nat.zero_le _, Nat.zero_le _⟩
  unfold runF
  rcases hs with hs | ⟨h1, h2⟩
  · exact .inl hs
  · refine .inr ?_
    by_cases h0 : (evD ops 3 l id { out := [], steps := 0, src := src }).1 = 0
    · simp only [h0, if_true]
      refine ⟨h1.trans h0, fun _ => ?_⟩
      obtain ⟨o, n, k1, _, k3, _⟩ := h2 h0
      rw [k3, k1]
      rfl
    · simp only [if_neg h0]
      exact ⟨h1, fun z => absurd (h1.symm.trans z) h0⟩

/-! the output has at most 8192 bytes, and the only errors are ErrEval and ErrFuel -/
section
variable {S : Type}
def Okay (A : St S → Int × St S) : Prop := ∀ a, a.out.length ≤ 8192 → (A a).2.out.length ≤ 8192 ∧ ((A a).1 = 0 ∨ (A a).1 = 110 ∨ (A a).1 = 111)
theorem okay_put (s : List UInt8) : Okay (S := S) (putF s) := by
  intro a ha
  unfold putF
  split
  · exact ⟨ha, .inr (.inr rfl)⟩
  · rename_i h
    exact ⟨by show (a.out ++ s).length ≤ 8192; rw [List.length_append]; omega, .inl rfl⟩
theorem okay_field (ops : Ops S) (name : ByteArray) (filters : List ByteArray) (id : Int) : Okay (fieldF ops name filters id) := by
  intro a ha
  unfold fieldF
  simp only []
  split
  · split
    · exact okay_put _ _ ha
    · exact ⟨ha, .inr (.inl rfl)⟩
  · exact ⟨ha, .inr (.inl rfl)⟩
theorem okay_ids {f : Int → St S → Int × St S} (hf : ∀ i, Okay (f i)) : ∀ l, Okay (seqIds f l)
  | [] => fun a ha => ⟨ha, .inl rfl⟩
  | i :: r => fun a ha => by
    unfold seqIds
    split
    · exact okay_ids hf r _ (hf i a ha).1
    · exact hf i a ha
mutual
theorem okay_node (ops : Ops S) {inc : ByteArray → Int → St S → Int × St S} (hinc : ∀ name id, Okay (inc name id)) : ∀ (n : Node) (id : Int), Okay (evNode ops inc n id)
  | .mk kind text name arg count filters kids els, id => by
    intro a ha
    unfold evNode
    split
    · exact okay_put _ a ha
    split
    · exact okay_field ops name filters id a ha
    split
    · simp only []
      split
      · exact okay_list ops hinc els id _ ha
      split
      · exact ⟨ha, .inl rfl⟩
      · exact okay_ids (fun i => okay_list ops hinc kids i) _ _ ha
    split
    · simp only []
      split
      · exact okay_list ops hinc kids id _ ha
      · exact okay_list ops hinc els id _ ha
    split
    · exact hinc name id a ha
    · exact ⟨ha, .inr (.inl rfl)⟩
theorem okay_list (ops : Ops S) {inc : ByteArray → Int → St S → Int × St S} (hinc : ∀ name id, Okay (inc name id)) : ∀ (l : List Node) (id : Int), Okay (evList ops inc l id)
  | [], id => fun a ha => by unfold evList; exact ⟨ha, .inl rfl⟩
  | n :: r, id => by
    intro a ha
    unfold evList
    split
    · exact ⟨ha, .inr (.inr rfl)⟩
    · simp only []
      have h1 := okay_node ops hinc n id { a with steps := a.steps + 1 } ha
      split
      · exact okay_list ops hinc r id _ h1.1
      · exact h1
end
end
theorem okay_evD {S : Type} (ops : Ops S) : ∀ (d : Nat), (∀ name id, Okay (incF ops d name id)) ∧ ∀ l id, Okay (evD ops d l id)
  | 0 => by
    have h1 : ∀ name id, Okay (incF ops 0 name id) := fun name id a ha => ⟨ha, .inr (.inr rfl)⟩
    exact ⟨h1, fun l id => by rw [evD_eq]; exact okay_list ops h1 l id⟩
  | d + 1 => by
    have ih := (okay_evD ops d).2
    have h1 : ∀ name id, Okay (incF ops (d + 1) name id) := fun name id a ha => by
      unfold incF
      simp only []
      split
      · exact ih _ id _ ha
      · exact ⟨ha, .inr (.inl rfl)⟩
    exact ⟨h1, fun l id => by rw [evD_eq]; exact okay_list ops h1 l id⟩
theorem okay_run {S : Type} (ops : Ops S) (l : List Node) (src : S) (id : Int) : (runF ops l src id).1.1.length ≤ 8192 ∧ ((runF ops l src id).1.2 = 0 ∨ (runF ops l src id).1.2 = 110 ∨ (runF ops l src id).1.2 = 111) ∧ ((runF ops l src id).1.2 ≠ 0 → (runF ops l src id).1.1 = []) := by
  have h := (okay_evD ops 3).2 l id { out := [], steps := 0, src := src } (by simp)
  unfold runF
  by_cases h0 : (evD ops 3 l id { out := [], steps := 0, src := src }).1 = 0
  · simp only [h0, if_true]
    exact ⟨h.1, .inl trivial, fun z => absurd rfl z⟩
  · simp only [if_neg h0]
    exact ⟨by simp, h.2, fun _ => trivial⟩
end Go.Proofs.YtlkaikopjjmneaaDoor

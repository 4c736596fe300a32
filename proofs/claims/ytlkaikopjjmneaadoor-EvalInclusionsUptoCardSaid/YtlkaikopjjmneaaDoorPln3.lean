/-
  WHAT IS PROVED HERE: plain facts on the evaluation of texts that are repeated, of loops over them, and of chains of inclusions. No program. No condition.
-/
import Derived.Test.YtlkaikopjjmneaaDoorPln2
namespace Go.Proofs.YtlkaikopjjmneaaDoor

def txt (c : ByteArray) : Node := .mk 1 c ⟨#[]⟩ ⟨#[]⟩ 0 [] [] []
def inode (c : ByteArray) : Node := .mk 5 ⟨#[]⟩ c ⟨#[]⟩ 0 [] [] []
section
variable {S : Type}
/-- n nodes of one byte each, from the state st -/
def Fuel (y : Int × St S) (st : St S) (n : Nat) : Prop := (st.steps + n ≤ 2000 → y.1 = 0 ∧ y.2.steps = st.steps + n ∧ y.2.out.length = st.out.length + n) ∧ (2000 < st.steps + n → y.1 = 111)
theorem evNode_txt (ops : Ops S) (inc : ByteArray → Int → St S → Int × St S) (c : ByteArray) (id : Int) (st : St S) : evNode ops inc (txt c) id st = putF c.data.toList st := by
  unfold txt evNode
  rw [if_pos rfl]
theorem fuel_texts (ops : Ops S) (d : Nat) (c : ByteArray) (hc : c.size = 1) (id : Int) : ∀ (n : Nat) (st : St S), st.out.length ≤ st.steps → st.steps ≤ 2000 → Fuel (evD ops d (List.replicate n (txt c)) id st) st n
  | 0, st, _, h2 => by
    rw [List.replicate_zero, evD_eq, evList]
    exact ⟨fun _ => ⟨rfl, rfl, rfl⟩, fun h => by omega⟩
  | n + 1, st, h1, h2 => by
    rw [List.replicate_succ, evD_cons]
    have hcl : c.data.toList.length = 1 := by rw [size_list]; exact hc
    by_cases hs : 2000 ≤ st.steps
    · rw [if_pos hs]
      exact ⟨fun h => by omega, fun _ => rfl⟩
    · rw [if_neg hs, evNode_txt]
      have hp : putF c.data.toList { st with steps := st.steps + 1 } = (0, { out := st.out ++ c.data.toList, steps := st.steps + 1, src := st.src }) := by
        unfold putF
        rw [if_neg (by show ¬ 8192 < st.out.length + c.data.toList.length; omega)]
      rw [hp, if_pos rfl]
      have ih := fuel_texts ops d c hc id n { out := st.out ++ c.data.toList, steps := st.steps + 1, src := st.src } (by show (st.out ++ c.data.toList).length ≤ st.steps + 1; rw [List.length_append]; omega) (by show st.steps + 1 ≤ 2000; omega)
      obtain ⟨i1, i2⟩ := ih
      simp only [List.length_append] at i1 i2
      refine ⟨fun h => ?_, fun h => i2 (by omega)⟩
      obtain ⟨j1, j2, j3⟩ := i1 (by omega)
      exact ⟨j1, by show (evD ops d (List.replicate n (txt c)) id { out := st.out ++ c.data.toList, steps := st.steps + 1, src := st.src }).2.steps = _; omega, by show (evD ops d (List.replicate n (txt c)) id { out := st.out ++ c.data.toList, steps := st.steps + 1, src := st.src }).2.out.length = _; omega⟩
theorem fuel_ids {f : Int → St S → Int × St S} (n : Nat) (hf : ∀ i st, st.out.length ≤ st.steps → st.steps ≤ 2000 → Fuel (f i st) st n) : ∀ (l : List Int) (st : St S), st.out.length ≤ st.steps → st.steps ≤ 2000 → Fuel (seqIds f l st) st (l.length * n)
  | [], st, _, h2 => by
    unfold seqIds
    exact ⟨fun _ => ⟨rfl, by simp, by simp⟩, fun h => by simp at h; omega⟩
  | i :: r, st, h1, h2 => by
    obtain ⟨a1, a2⟩ := hf i st h1 h2
    unfold seqIds
    have e : (i :: r).length * n = n + r.length * n := by rw [List.length_cons, Nat.succ_mul, Nat.add_comm]
    rw [e]
    by_cases hs : st.steps + n ≤ 2000
    · obtain ⟨j1, j2, j3⟩ := a1 hs
      rw [if_pos j1]
      obtain ⟨b1, b2⟩ := fuel_ids n hf r (f i st).2 (by omega) (by omega)
      refine ⟨fun h => ?_, fun h => b2 (by omega)⟩
      obtain ⟨k1, k2, k3⟩ := b1 (by omega)
      exact ⟨k1, by omega, by omega⟩
    · have := a2 (by omega)
      rw [if_neg (by omega)]
      exact ⟨fun h => by omega, fun _ => this⟩
end
def tL : ByteArray := ⟨#[108]⟩
def tXx : ByteArray := ⟨#[120]⟩
def tYy : ByteArray := ⟨#[121]⟩
def tens : List Int := [1, 2, 3, 4, 5, 6, 7, 8, 9, 10]
def dSteps : Dat := { fields := [], lists := [(0, tL, ⟨#[]⟩, tens)], snips := [] }
def forNode (inside : Nat) : Node := .mk 3 ⟨#[]⟩ tL ⟨#[]⟩ 10 [] (List.replicate inside (txt tXx)) []
theorem steps_plain (inside after : Nat) :
    (1 + 10 * inside + after ≤ 2000 → (runF (recOps dSteps) (forNode inside :: List.replicate after (txt tYy)) [] 0).1.2 = 0 ∧ (runF (recOps dSteps) (forNode inside :: List.replicate after (txt tYy)) [] 0).1.1.length = 10 * inside + after) ∧
    (2000 < 1 + 10 * inside + after → (runF (recOps dSteps) (forNode inside :: List.replicate after (txt tYy)) [] 0).1 = ([], 111)) := by
  have hl : listA dSteps 0 tL ⟨#[]⟩ 10 = tens := by decide +kernel
  have hx : ∃ st1 : St (List ACall), st1.steps = 1 ∧ st1.out = [] ∧ Fuel (evNode (recOps dSteps) (incF (recOps dSteps) 3) (forNode inside) 0 { out := [], steps := 0 + 1, src := [] }) st1 (10 * inside) := by
    refine ⟨{ out := [], steps := 1, src := ((recOps dSteps).list [] 0 tL ⟨#[]⟩ 10).2 }, rfl, rfl, ?_⟩
    unfold forNode evNode
    rw [if_neg (by decide), if_neg (by decide), if_pos rfl]
    simp only []
    rw [show ((recOps dSteps).list [] 0 tL ⟨#[]⟩ 10).1 = tens from hl, if_neg (by decide)]
    by_cases h0 : inside = 0
    · subst h0
      rw [List.replicate_zero, if_pos (by rfl)]
      exact ⟨fun _ => ⟨rfl, rfl, rfl⟩, fun h => by simp at h⟩
    · rw [if_neg (by simp [h0])]
      have := fuel_ids (S := List ACall) (f := fun i s => evD (recOps dSteps) 3 (List.replicate inside (txt tXx)) i s) inside (fun i st a b => fuel_texts (recOps dSteps) 3 tXx (by decide) i inside st a b) tens { out := [], steps := 1, src := ((recOps dSteps).list [] 0 tL ⟨#[]⟩ 10).2 } (by simp) (by simp)
      rw [evD_eq] at this
      exact this
  obtain ⟨st1, h1, h2, h3, h4⟩ := hx
  rw [h1, h2] at h3
  rw [h1] at h4
  unfold runF
  rw [evD_cons, if_neg (show ¬ 2000 ≤ 0 by decide)]
  show (_ → (if (if (evNode (recOps dSteps) (incF (recOps dSteps) 3) (forNode inside) 0 { out := [], steps := 0 + 1, src := [] }).1 = 0 then _ else _ : Int × St (List ACall)).1 = 0 then _ else _ : (List UInt8 × Int) × List ACall).1.2 = 0 ∧ _) ∧ _
  generalize evNode (recOps dSteps) (incF (recOps dSteps) 3) (forNode inside) 0 { out := [], steps := 0 + 1, src := [] } = x at *
  by_cases hs : 1 + 10 * inside ≤ 2000
  · obtain ⟨a1, a2, a3⟩ := h3 hs
    rw [if_pos a1]
    obtain ⟨b1, b2⟩ := fuel_texts (recOps dSteps) 3 tYy (by decide) 0 after x.2 (by rw [a3, a2]; simp) (by omega)
    rw [a2] at b1 b2
    rw [a3] at b1
    generalize evD (recOps dSteps) 3 (List.replicate after (txt tYy)) 0 x.2 = y at *
    refine ⟨fun h => ?_, fun h => ?_⟩
    · obtain ⟨c1, c2, c3⟩ := b1 h
      rw [if_pos c1]
      exact ⟨rfl, by simp at c3; show y.2.out.length = _; omega⟩
    · have c1 := b2 h
      rw [if_neg (by omega), c1]
  · have a1 := h4 (by omega)
    rw [if_neg (show ¬ x.1 = 0 by omega), if_neg (by omega), a1]
    exact ⟨fun h => by omega, fun _ => rfl⟩

/-! inclusions -/
section
variable {S : Type} (ops : Ops S)
theorem evNode_inc (inc : ByteArray → Int → St S → Int × St S) (c : ByteArray) (id : Int) (st : St S) : evNode ops inc (inode c) id st = inc c id st := by
  unfold inode evNode
  rw [if_neg (by decide), if_neg (by decide), if_neg (by decide), if_neg (by decide), if_pos rfl]
theorem ev_txt (d : Nat) (c : ByteArray) (r : List Node) (id : Int) (st : St S) (h1 : st.steps < 2000) (h2 : st.out.length + c.size ≤ 8192) :
    evD ops d (txt c :: r) id st = evD ops d r id { out := st.out ++ c.data.toList, steps := st.steps + 1, src := st.src } := by
  rw [evD_cons, if_neg (by omega), evNode_txt]
  have hp : putF c.data.toList { st with steps := st.steps + 1 } = (0, { out := st.out ++ c.data.toList, steps := st.steps + 1, src := st.src }) := by
    unfold putF
    rw [if_neg (by show ¬ 8192 < st.out.length + c.data.toList.length; rw [size_list]; omega)]
  rw [hp, if_pos rfl]
theorem ev_inc (d : Nat) (c : ByteArray) (nodes r : List Node) (id : Int) (st : St S) (h1 : st.steps < 2000) (hi : (ops.incl st.src c).1 = (nodes, true)) :
    evD ops (d + 1) (inode c :: r) id st = andThen (evD ops d nodes id { out := st.out, steps := st.steps + 1, src := (ops.incl st.src c).2 }) (evD ops (d + 1) r id) := by
  rw [evD_cons, if_neg (by omega), evNode_inc]
  unfold incF
  simp only []
  rw [hi]
  simp only [if_true]
  rfl
theorem ev_inc0 (c : ByteArray) (r : List Node) (id : Int) (st : St S) (h1 : st.steps < 2000) : (evD ops 0 (inode c :: r) id st).1 = 111 := by
  rw [evD_cons, if_neg (by omega), evNode_inc]
  rfl
theorem ev_nil (d : Nat) (id : Int) (st : St S) : evD ops d [] id st = (0, st) := by rw [evD_eq, evList]
end
def tOpen : ByteArray := ⟨#[40]⟩
def tShut : ByteArray := ⟨#[41]⟩
def nameOf (i : Nat) : ByteArray := ⟨#[97 + UInt8.ofNat i]⟩
def midNodes (i : Nat) : List Node := [txt tOpen, inode (nameOf (i + 1)), txt tShut]
def dIncl (n : Nat) (t : ByteArray) : Dat := { fields := [], lists := [], snips := (List.range n).map (fun i => (nameOf i, midNodes i)) ++ [(nameOf n, [txt t])] }
theorem incl_plain (n : Nat) (hn : n ≤ 6) (t : ByteArray) (ht : t.size ≤ 300) : (runF (recOps (dIncl n t)) [inode (nameOf 0)] [] 0).1 = if 3 ≤ n then ([], 111) else (List.replicate n 40 ++ t.data.toList ++ List.replicate n 41, 0) := by
  have hmid : ∀ i, i < n → ∀ s, ((recOps (dIncl n t)).incl s (nameOf i)).1 = (midNodes i, true) := fun i hi s => by
    have h : inclA (dIncl n t) (nameOf i) = some (midNodes i) := by
      have : n = 1 ∨ n = 2 ∨ n = 3 ∨ n = 4 ∨ n = 5 ∨ n = 6 := by omega
      have h2 : i = 0 ∨ i = 1 ∨ i = 2 ∨ i = 3 ∨ i = 4 ∨ i = 5 := by omega
      rcases this with rfl | rfl | rfl | rfl | rfl | rfl <;> rcases h2 with rfl | rfl | rfl | rfl | rfl | rfl <;> first | omega | rfl
    show ((inclA (dIncl n t) (nameOf i)).getD [], (inclA (dIncl n t) (nameOf i)).isSome) = _
    rw [h]; rfl
  have hend : ∀ s, ((recOps (dIncl n t)).incl s (nameOf n)).1 = ([txt t], true) := fun s => by
    have h : inclA (dIncl n t) (nameOf n) = some [txt t] := by
      have : n = 0 ∨ n = 1 ∨ n = 2 ∨ n = 3 ∨ n = 4 ∨ n = 5 ∨ n = 6 := by omega
      rcases this with rfl | rfl | rfl | rfl | rfl | rfl | rfl <;> rfl
    show ((inclA (dIncl n t) (nameOf n)).getD [], (inclA (dIncl n t) (nameOf n)).isSome) = _
    rw [h]; rfl
  have ho : tOpen.size = 1 := rfl
  have hs : tShut.size = 1 := rfl
  have hod : tOpen.data.size = 1 := rfl
  have hsd : tShut.data.size = 1 := rfl
  have htd : t.data.size ≤ 300 := ht
  generalize recOps (dIncl n t) = ops at *
  unfold runF
  by_cases h3 : 3 ≤ n
  · have hf : ∀ i, evD ops 3 [inode (nameOf 0)] 0 { out := [], steps := 0, src := [] } = i → i.1 = 111 := fun i hi => by
      subst hi
      rw [ev_inc ops 2 _ _ _ _ _ (by simp) (hmid 0 (by omega) _)]
      unfold midNodes
      rw [ev_txt _ _ _ _ _ _ (by simp) (by simp [ho] <;> omega), ev_inc ops 1 _ _ _ _ _ (by simp) (hmid 1 (by omega) _)]
      unfold midNodes
      rw [ev_txt _ _ _ _ _ _ (by simp) (by simp [ho, hod] <;> omega), ev_inc ops 0 _ _ _ _ _ (by simp) (hmid 2 (by omega) _)]
      unfold midNodes
      rw [ev_txt _ _ _ _ _ _ (by simp) (by simp [ho, hod] <;> omega)]
      have := fun st h => ev_inc0 ops (nameOf (2 + 1)) [txt tShut] 0 st h
      unfold andThen
      simp [this]
    have := hf _ rfl
    rw [if_pos h3, if_neg (by omega), this]
  · rw [if_neg h3]
    have hn3 : n = 0 ∨ n = 1 ∨ n = 2 := by omega
    have hT : t.data.toList.length ≤ 300 := by rw [size_list]; exact ht
    rcases hn3 with rfl | rfl | rfl
    · rw [ev_inc ops 2 _ _ _ _ _ (by simp) (hend _), ev_txt _ _ _ _ _ _ (by simp) (by simp <;> omega)]
      unfold andThen
      simp [ev_nil]
    · rw [ev_inc ops 2 _ _ _ _ _ (by simp) (hmid 0 (by omega) _)]
      unfold midNodes
      rw [ev_txt _ _ _ _ _ _ (by simp) (by simp [ho] <;> omega), ev_inc ops 1 _ _ _ _ _ (by simp) (hend _), ev_txt _ _ _ _ _ _ (by simp) (by simp [hod] <;> omega)]
      unfold andThen
      simp only [ev_nil, if_true]
      rw [ev_txt _ _ _ _ _ _ (by simp) (by simp [hod, hs] <;> omega)]
      simp [ev_nil, tOpen, tShut]
    · rw [ev_inc ops 2 _ _ _ _ _ (by simp) (hmid 0 (by omega) _)]
      unfold midNodes
      rw [ev_txt _ _ _ _ _ _ (by simp) (by simp [ho] <;> omega), ev_inc ops 1 _ _ _ _ _ (by simp) (hmid 1 (by omega) _)]
      unfold midNodes
      rw [ev_txt _ _ _ _ _ _ (by simp) (by simp [ho, hod] <;> omega), ev_inc ops 0 _ _ _ _ _ (by simp) (hend _), ev_txt _ _ _ _ _ _ (by simp) (by simp [hod] <;> omega)]
      unfold andThen
      simp only [ev_nil, if_true]
      rw [ev_txt _ _ _ _ _ _ (by simp) (by simp [hod, hs] <;> omega)]
      simp only [ev_nil, if_true]
      rw [ev_txt _ _ _ _ _ _ (by simp) (by simp [hod, hsd, hs] <;> omega)]
      simp [ev_nil, tOpen, tShut]
end Go.Proofs.YtlkaikopjjmneaaDoor

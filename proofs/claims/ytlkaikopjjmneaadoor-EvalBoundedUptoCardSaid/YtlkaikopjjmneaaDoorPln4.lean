/-
  WHAT IS PROVED HERE: plain: a loop within a loop over one text. No program. No condition.
-/
import Derived.Test.YtlkaikopjjmneaaDoorPln3
namespace Go.Proofs.YtlkaikopjjmneaaDoor

def tInner : ByteArray := ⟨#[105, 110, 110, 101, 114]⟩
def tOuter : ByteArray := ⟨#[111, 117, 116, 101, 114]⟩
def bndL (ids : List Int) (l : List (Int × ByteArray × ByteArray × List Int)) : Nat → List (Int × ByteArray × ByteArray × List Int)
  | 0 => (0, tOuter, ⟨#[]⟩, ids) :: l
  | k + 1 => (((k + 1 : Nat) : Int), tInner, ⟨#[]⟩, ids) :: bndL ids l k
theorem bndL_length (ids : List Int) (l : List (Int × ByteArray × ByteArray × List Int)) : ∀ k, (bndL ids l k).length = k + 1 + l.length
  | 0 => by simp [bndL]; omega
  | k + 1 => by simp only [bndL, List.length_cons, bndL_length ids l k]; omega
theorem bnd_outer (ids : List Int) (l : List (Int × ByteArray × ByteArray × List Int)) : ∀ k m, k < m → ((bndL ids l k).take m).find? (fun f => decide (f.1 = 0) && decide (f.2.1 = tOuter) && decide (f.2.2.1 = ⟨#[]⟩)) = some (0, tOuter, ⟨#[]⟩, ids)
  | 0, m + 1, _ => by
    unfold bndL
    rw [List.take_succ_cons, List.find?_cons]
    simp
  | k + 1, m + 1, h => by
    unfold bndL
    rw [List.take_succ_cons, List.find?_cons]
    have : decide ((((k + 1 : Nat) : Int)) = 0) = false := by simp; omega
    simp only [this, Bool.false_and]
    exact bnd_outer ids l k m (by omega)
theorem bnd_inner (ids : List Int) (l : List (Int × ByteArray × ByteArray × List Int)) (i : Nat) (hi : 1 ≤ i) : ∀ k m, k < m → i ≤ k → ((bndL ids l k).take m).find? (fun f => decide (f.1 = (i : Int)) && decide (f.2.1 = tInner) && decide (f.2.2.1 = ⟨#[]⟩)) = some ((i : Int), tInner, ⟨#[]⟩, ids)
  | 0, _, _, h => by omega
  | k + 1, m + 1, h, h2 => by
    unfold bndL
    rw [List.take_succ_cons, List.find?_cons]
    by_cases e : i = k + 1
    · subst e; simp
    · have : decide ((((k + 1 : Nat) : Int)) = (i : Int)) = false := by simp; omega
      simp only [this, Bool.false_and]
      exact bnd_inner ids l i hi k m (by omega) (by omega)

section
variable {S : Type}
/-- k bytes by m nodes, from the state st -/
def Puts (y : Int × St S) (st : St S) (m k : Nat) : Prop := (st.out.length + k ≤ 8192 → y.1 = 0 ∧ y.2.steps = st.steps + m ∧ y.2.out.length = st.out.length + k) ∧ (8192 < st.out.length + k → y.1 = 111)
theorem puts_ids {f : Int → St S → Int × St S} (m k B : Nat) : ∀ (l : List Int) (st : St S), (∀ i ∈ l, ∀ st, st.out.length ≤ 8192 → st.steps + m ≤ B → Puts (f i st) st m k) → st.out.length ≤ 8192 → st.steps + l.length * m ≤ B → Puts (seqIds f l st) st (l.length * m) (l.length * k)
  | [], st, _, h1, _ => by
    unfold seqIds
    exact ⟨fun _ => ⟨rfl, by simp, by simp⟩, fun h => by simp at h; omega⟩
  | i :: r, st, hf, h1, h2 => by
    have e : (i :: r).length * m = m + r.length * m := by rw [List.length_cons, Nat.succ_mul, Nat.add_comm]
    have e2 : (i :: r).length * k = k + r.length * k := by rw [List.length_cons, Nat.succ_mul, Nat.add_comm]
    rw [e] at h2
    obtain ⟨a1, a2⟩ := hf i List.mem_cons_self st h1 (by omega)
    unfold seqIds
    rw [e, e2]
    by_cases hs : st.out.length + k ≤ 8192
    · obtain ⟨j1, j2, j3⟩ := a1 hs
      rw [if_pos j1]
      obtain ⟨b1, b2⟩ := puts_ids m k B r (f i st).2 (fun i hi => hf i (List.mem_cons_of_mem _ hi)) (by omega) (by omega)
      refine ⟨fun h => ?_, fun h => b2 (by omega)⟩
      obtain ⟨k1, k2, k3⟩ := b1 (by omega)
      exact ⟨k1, by omega, by omega⟩
    · have := a2 (by omega)
      rw [if_neg (by omega)]
      exact ⟨fun h => by omega, fun _ => this⟩
theorem puts_one (ops : Ops S) (d : Nat) (c : ByteArray) (id : Int) (st : St S) (h1 : st.steps + 1 ≤ 2000) : Puts (evD ops d [txt c] id st) st 1 c.size := by
  rw [evD_cons, if_neg (by omega), evNode_txt]
  have hcl : c.data.toList.length = c.size := size_list c
  by_cases h : 8192 < st.out.length + c.data.toList.length
  · have hp : (putF c.data.toList { st with steps := st.steps + 1 }).1 = 111 := by
      unfold putF
      rw [if_pos h]
    rw [if_neg (by rw [hp]; decide)]
    exact ⟨fun z => by omega, fun _ => hp⟩
  · have hp : putF c.data.toList { st with steps := st.steps + 1 } = (0, { out := st.out ++ c.data.toList, steps := st.steps + 1, src := st.src }) := by
      unfold putF
      rw [if_neg h]
    rw [hp, if_pos rfl, ev_nil]
    exact ⟨fun _ => ⟨rfl, rfl, by show (st.out ++ c.data.toList).length = _; rw [List.length_append]; omega⟩, fun z => by omega⟩
theorem evNode_for (ops : Ops S) (inc : ByteArray → Int → St S → Int × St S) (name : ByteArray) (kids : List Node) (id : Int) (st : St S) :
    evNode ops inc (.mk 3 ⟨#[]⟩ name ⟨#[]⟩ 10 [] kids []) id st = (if (ops.list st.src id name ⟨#[]⟩ 10).1 = [] then evList ops inc [] id { st with src := (ops.list st.src id name ⟨#[]⟩ 10).2 } else if kids.isEmpty then (0, { st with src := (ops.list st.src id name ⟨#[]⟩ 10).2 })
      else seqIds (fun i s => evList ops inc kids i s) (ops.list st.src id name ⟨#[]⟩ 10).1 { st with src := (ops.list st.src id name ⟨#[]⟩ 10).2 }) := by
  unfold evNode
  rw [if_neg (by decide), if_neg (by decide), if_pos rfl]
/-- one loop, its answer known -/
theorem puts_loop (ops : Ops S) (d : Nat) (name : ByteArray) (kids : List Node) (hk : kids ≠ []) (id : Int) (ids : List Int) (hne : ids ≠ []) (hl : ∀ s, (ops.list s id name ⟨#[]⟩ 10).1 = ids) (m k B : Nat) (hB : B ≤ 2000)
    (hkids : ∀ i ∈ ids, ∀ st : St S, st.out.length ≤ 8192 → st.steps + m ≤ B → Puts (evD ops d kids i st) st m k) (st : St S) (h1 : st.out.length ≤ 8192) (h2 : st.steps + (1 + ids.length * m) ≤ B) :
    Puts (evD ops d [.mk 3 ⟨#[]⟩ name ⟨#[]⟩ 10 [] kids []] id st) st (1 + ids.length * m) (ids.length * k) := by
  rw [evD_cons, if_neg (by omega), evNode_for]
  have hk2 : ¬ kids.isEmpty = true := by rw [List.isEmpty_iff]; exact hk
  simp only []
  rw [hl, if_neg hne, if_neg hk2]
  have := puts_ids (f := fun i s => evD ops d kids i s) m k B ids { out := st.out, steps := st.steps + 1, src := (ops.list st.src id name ⟨#[]⟩ 10).2 } hkids h1 (by show st.steps + 1 + _ ≤ B; omega)
  rw [evD_eq] at this
  generalize seqIds (fun i s => evList ops (incF ops d) kids i s) ids { out := st.out, steps := st.steps + 1, src := (ops.list st.src id name ⟨#[]⟩ 10).2 } = y at *
  obtain ⟨a1, a2⟩ := this
  simp only at a1 a2
  by_cases h0 : y.1 = 0
  · rw [if_pos h0, ev_nil]
    refine ⟨fun h => ?_, fun h => ?_⟩
    · obtain ⟨b1, b2, b3⟩ := a1 h
      exact ⟨rfl, by show y.2.steps = _; omega, b3⟩
    · have := a2 h; omega
  · rw [if_neg h0]
    refine ⟨fun h => ?_, fun h => a2 h⟩
    exact absurd (a1 h).1 h0
end
def bndNode (c : ByteArray) (l : List Node) : Node := .mk 3 ⟨#[]⟩ tOuter ⟨#[]⟩ 10 [] [.mk 3 ⟨#[]⟩ tInner ⟨#[]⟩ 10 [] (txt c :: l) []] []
def bndD (d : Dat) (n : Nat) : Dat := { d with lists := bndL (tens.take n) d.lists n }
theorem bnd_plain (d : Dat) (n : Nat) (h1 : 1 ≤ n) (h10 : n ≤ 10) (c : ByteArray) (_ : c.size ≤ 300) :
    (n * (n * c.size) ≤ 8192 → (runF (recOps (bndD d n)) [bndNode c []] [] 0).1.2 = 0 ∧ (runF (recOps (bndD d n)) [bndNode c []] [] 0).1.1.length = n * (n * c.size)) ∧
    (8192 < n * (n * c.size) → (runF (recOps (bndD d n)) [bndNode c []] [] 0).1 = ([], 111)) := by
  have htl : (tens.take n).length = n := by rw [List.length_take]; show min n 10 = n; omega
  have hfin : ((tens.take n).take 10).take (10 : Int).toNat = tens.take n := by
    rw [List.take_of_length_le (by rw [List.length_take, htl]; show min 10 n ≤ 10; omega), List.take_of_length_le (by omega)]
  have ho : listA (bndD d n) 0 tOuter ⟨#[]⟩ 10 = tens.take n := by
    unfold listA bndD
    simp only []
    rw [bnd_outer _ _ n 40 (by omega)]
    exact hfin
  have hi : ∀ i ∈ tens.take n, listA (bndD d n) i tInner ⟨#[]⟩ 10 = tens.take n := fun i hi => by
    have : ∃ j : Nat, i = (j : Int) ∧ 1 ≤ j ∧ j ≤ n := by
      obtain ⟨k, hk, rfl⟩ := List.mem_iff_getElem.1 hi
      rw [htl] at hk
      refine ⟨k + 1, ?_, by omega, by omega⟩
      rw [List.getElem_take]
      have : k = 0 ∨ k = 1 ∨ k = 2 ∨ k = 3 ∨ k = 4 ∨ k = 5 ∨ k = 6 ∨ k = 7 ∨ k = 8 ∨ k = 9 := by omega
      rcases this with rfl | rfl | rfl | rfl | rfl | rfl | rfl | rfl | rfl | rfl <;> rfl
    obtain ⟨j, rfl, j1, j2⟩ := this
    unfold listA bndD
    simp only []
    rw [bnd_inner _ _ j j1 n 40 (by omega) j2]
    exact hfin
  have hne : tens.take n ≠ [] := fun h => by rw [h] at htl; simp at htl; omega
  have key := puts_loop (recOps (bndD d n)) 3 tOuter [.mk 3 ⟨#[]⟩ tInner ⟨#[]⟩ 10 [] [txt c] []] (by simp) 0 (tens.take n) hne (fun _ => ho) (1 + n * 1) (n * c.size) 2000 (Nat.le_refl _)
    (fun i hmem st a b => by
      have := puts_loop (recOps (bndD d n)) 3 tInner [txt c] (by simp) i (tens.take n) hne (fun _ => hi i hmem) 1 c.size 2000 (Nat.le_refl _) (fun i _ st _ b => puts_one _ 3 c i st b) st a (by rw [htl]; omega)
      rw [htl] at this
      exact this)
    { out := [], steps := 0, src := [] } (by simp) (by
      rw [htl]
      have : n * (1 + n * 1) ≤ 10 * 11 := Nat.mul_le_mul h10 (by omega)
      show 0 + (1 + _) ≤ 2000
      omega)
  rw [htl] at key
  obtain ⟨k1, k2⟩ := key
  unfold runF bndNode
  generalize evD (recOps (bndD d n)) 3 [.mk 3 ⟨#[]⟩ tOuter ⟨#[]⟩ 10 [] [.mk 3 ⟨#[]⟩ tInner ⟨#[]⟩ 10 [] [txt c] []] []] 0 { out := [], steps := 0, src := [] } = y at *
  simp only [List.length_nil, Nat.zero_add] at k1 k2
  refine ⟨fun h => ?_, fun h => ?_⟩
  · obtain ⟨a, _, b⟩ := k1 h
    rw [if_pos a]
    exact ⟨rfl, b⟩
  · have := k2 h
    rw [if_neg (by omega), this]
end Go.Proofs.YtlkaikopjjmneaaDoor

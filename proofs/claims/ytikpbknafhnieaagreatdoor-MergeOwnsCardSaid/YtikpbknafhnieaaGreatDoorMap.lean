/-
  WHAT IS PROVED HERE: a map with keys of type int that a call has made, as a list of its entries; what a look-up, a store of a new key, and len give. No program. No condition.
-/
import Derived.Test.YtikpbknafhnieaaGreatDoorMem
import Derived.Maps.OwnSet
import Derived.Maps.OwnOps
import Derived.Maps.OwnIn
import Derived.Maps.Ext
namespace Go.Proofs.YtikpbknafhnieaaGreatDoor
open Go.RowKit Go.Maps

/-- every value reads as itself -/
def heldV (v : Value) : Option (DataW Value × List MemPlace) := some (.held v, [])
def okI (i : Int) : Prop := -9223372036854775808 ≤ i ∧ i ≤ 9223372036854775807
theorem okI_wf {i : Int} (h : okI i) : (Lit.int .i64 i).wf = true := by
  obtain ⟨h1, h2⟩ := h
  have e1 : IntKind.i64.min = -9223372036854775808 := by decide
  have e2 : IntKind.i64.max = 9223372036854775807 := by decide
  simp only [Lit.wf, e1, e2, Bool.and_eq_true, decide_eq_true_eq]
  exact ⟨h1, h2⟩
def keysL (l : List (Int × Value)) : List Int := l.map Prod.fst
/-- the entry's value, if there is one -/
def getL (l : List (Int × Value)) (i : Int) : Option Value := (l.find? (fun p => decide (p.1 = i))).map Prod.snd
theorem getL_none {l : List (Int × Value)} {i : Int} (h : i ∉ keysL l) : getL l i = none := by
  unfold getL
  rw [List.find?_eq_none.2]
  · rfl
  · intro p hp e
    exact h (List.mem_map.2 ⟨p, hp, by simpa using e⟩)
theorem getL_isSome {l : List (Int × Value)} {i : Int} : (getL l i).isSome = decide (i ∈ keysL l) := by
  by_cases h : i ∈ keysL l
  · rw [decide_eq_true h]
    obtain ⟨p, hp, rfl⟩ := List.mem_map.1 h
    unfold getL
    rw [Option.isSome_map, List.find?_isSome]
    exact ⟨p, hp, by simp⟩
  · rw [getL_none h, decide_eq_false h]; rfl
theorem getL_snoc_same {l : List (Int × Value)} {i : Int} {v : Value} (h : i ∉ keysL l) : getL (l ++ [(i, v)]) i = some v := by
  have := getL_none h
  unfold getL at this ⊢
  rw [List.find?_append]
  rw [Option.map_eq_none_iff] at this
  rw [this]; simp
theorem getL_snoc_other {l : List (Int × Value)} {i j : Int} {v : Value} (h : i ≠ j) : getL (l ++ [(i, v)]) j = getL l j := by
  unfold getL
  rw [List.find?_append, List.find?_singleton]
  rw [if_neg (by simpa using h), Option.or_none]

/-- block b is a map (keys: type k) with the entries l -/
def IMap (P : Program) (k : TypeId) (w : World) (b : Nat) (l : List (Int × Value)) : Prop :=
  ∃ D : DataW Value, w.ownsMap P k heldV b l.length D ∧ (keysL l).Nodup ∧ (∀ p ∈ l, okI p.1) ∧ Maps.size D = l.length ∧
    ∀ i, okI i → Maps.has D (.int .i64 i) = decide (i ∈ keysL l) ∧ ∀ z, D.atKey (.int .i64 i) (.held z) = .held ((getL l i).getD z)

section
variable {P : Program} {k : TypeId} {w w' : World} {b : Nat} {l : List (Int × Value)}
theorem IMap.made (P : Program) (k : TypeId) (w : World) : IMap P k (w.alloc (.map #[] 0)) w.heap.size [] :=
  ⟨_, World.ownsMap_made w P k heldV, List.nodup_nil, by simp, rfl, fun i _ => ⟨rfl, fun _ => rfl⟩⟩
theorem IMap.lt (h : IMap P k w b l) : b < w.heap.size := by obtain ⟨D, h, _⟩ := h; exact h.lt
theorem IMap.nodup (h : IMap P k w b l) : (keysL l).Nodup := by obtain ⟨D, _, h, _⟩ := h; exact h
theorem IMap.okI (h : IMap P k w b l) : ∀ i ∈ keysL l, okI i := by
  obtain ⟨D, _, _, h, _⟩ := h
  intro i hi
  obtain ⟨p, hp, rfl⟩ := List.mem_map.1 hi
  exact h p hp
theorem IMap.of_block (h : IMap P k w b l) (e : w'.heap[b]? = w.heap[b]?) : IMap P k w' b l := by
  obtain ⟨D, ⟨es, clock, hb, r⟩, h2⟩ := h
  exact ⟨D, ⟨es, clock, e.trans hb, r⟩, h2⟩
theorem IMap.upd {F : Nat → Prop} (h : IMap P k w b l) (hu : Upd F w w') (hn : ¬ F b) : IMap P k w' b l := h.of_block (hu.block _ h.lt hn)
theorem IMap.below {B : Nat} (h : IMap P k w b l) (hu : Below B w w') (hn : b < B) : IMap P k w' b l := h.of_block (hu.block _ hn)
theorem IMap.grown {row : Option Nat} (h : IMap P k w b l) (hu : w.grownBy w' row) (hn : some b ≠ row) : IMap P k w' b l := h.of_block (hu.block _ h.lt hn)
theorem IMap.alloc (h : IMap P k w b l) (o : Obj) : IMap P k (w.alloc o) b l := h.of_block (Below.heap_alloc _ _ _ h.lt)
theorem IMap.drew (h : IMap P k w b l) : IMap P k w.drew b l := h
theorem IMap.setCell (h : IMap P k w b l) {p : Addr} (u : Value) (hn : b ≠ p.block) : IMap P k (w.setCell p u) b l := h.of_block (Below.heap_setCell _ _ _ _ hn)
/-- m[k] -/
theorem IMap.look (h : IMap P k w b l) (hk : P.underlying k = some (.int .i64)) {t e : TypeId} (ht : P.underlying t = some (.map k e)) {z : Value} (hz : (zeroValue e).run P w = .ok z w) {i : Int} (hi : Go.Proofs.YtikpbknafhnieaaGreatDoor.okI i) :
    (Instr.lookup t (.map (some b)) (.int .i64 i) false).run P w = .ok ((getL l i).getD z) w := by
  obtain ⟨D, ho, _, _, _, hD⟩ := h
  obtain ⟨v, ps, hr, hv⟩ := ho.lookup (int_keyed hk) ht hz (zd := .held z) (zp := []) rfl (keyOf_int_mk hk (okI_wf hi))
  rw [(hD i hi).2 z] at hv
  have : v = (getL l i).getD z := by
    have := (Option.some.inj hv)
    injection this with h1 _
    injection h1
  rw [← this]; exact hr
/-- v, ok := m[k] -/
theorem IMap.lookOk (h : IMap P k w b l) (hk : P.underlying k = some (.int .i64)) {t e : TypeId} (ht : P.underlying t = some (.map k e)) {z : Value} (hz : (zeroValue e).run P w = .ok z w) {i : Int} (hi : Go.Proofs.YtikpbknafhnieaaGreatDoor.okI i) :
    (Instr.lookup t (.map (some b)) (.int .i64 i) true).run P w = .ok (.tuple #[(getL l i).getD z, .bool (getL l i).isSome]) w := by
  obtain ⟨D, ho, _, _, _, hD⟩ := h
  obtain ⟨v, ps, hr, hv⟩ := ho.look_ok (int_keyed hk) ht hz (zd := .held z) (zp := []) rfl (keyOf_int_mk hk (okI_wf hi))
  rw [(hD i hi).2 z] at hv
  have : v = (getL l i).getD z := by
    have := (Option.some.inj hv)
    injection this with h1 _
    injection h1
  rw [← this, getL_isSome, ← (hD i hi).1]; exact hr
/-- m[k] = v at a key that is new -/
theorem IMap.store (h : IMap P k w b l) (hk : P.underlying k = some (.int .i64)) {t e : TypeId} (ht : P.underlying t = some (.map k e)) (hl : l.length < maxLen) {i : Int} (hi : Go.Proofs.YtikpbknafhnieaaGreatDoor.okI i) (hn : i ∉ keysL l) (v : Value) :
    ∃ w', (Instr.mapUpdate t (.map (some b)) (.int .i64 i) v).run P w = .ok () w' ∧ IMap P k w' b (l ++ [(i, v)]) ∧ w.grownBy w' (some b) := by
  obtain ⟨D, ho, h1, h2, h3, hD⟩ := h
  have hkey := keyOf_int_mk (P := P) hk (okI_wf hi)
  obtain ⟨w', hr, ho', hg⟩ := ho.update (int_keyed hk) ht hl hkey (val := v) (d := .held v) (ps := []) rfl
  have hkl : WideAt.IsKeyLit (.int .i64 i) := trivial
  have hks : keysL (l ++ [(i, v)]) = keysL l ++ [i] := by unfold keysL; simp
  refine ⟨w', hr, ⟨_, by simpa using ho', ?_, ?_, ?_, fun j hj => ?_⟩, hg⟩
  · rw [hks]
    exact List.nodup_append.2 ⟨h1, by simp, fun a ha c hc e => by simp at hc; subst hc; subst e; exact hn ha⟩
  · intro p hp
    rcases List.mem_append.1 hp with hp | hp
    · exact h2 p hp
    · simp at hp; subst hp; exact hi
  · rw [size_put (ho.tidy (int_keyed hk)), (hD i hi).1, decide_eq_false hn, h3]; simp
  · rw [hks]
    by_cases e : j = i
    · subst e
      rw [has_put_same ho.isMap hkl]
      refine ⟨by simp, fun z => ?_⟩
      rw [atKey_put_same ho.isMap hkl, getL_snoc_same hn]; rfl
    · have hne : (Lit.int .i64 j) ≠ .int .i64 i := fun h => e (by injection h)
      rw [has_put_other hne, (hD j hj).1]
      refine ⟨by simp [e], fun z => ?_⟩
      rw [atKey_put_other hne, (hD j hj).2 z, getL_snoc_other (Ne.symm e)]
theorem IMap.len (h : IMap P k w b l) {t e : TypeId} (ht : P.underlying t = some (.map k e)) (ty : TypeId) : (Builtin.len_ #[t] ty #[.map (some b)]).run P w = .ok (.int .i64 l.length) w := by
  obtain ⟨D, ho, _, _, h3, _⟩ := h
  rw [← h3]; exact ho.len ht ty
end

section
variable {P : Program} (w : World) {ops : Array Oper} {rest : List Oper} {o : Oper} {a : Act} {Q : Exit → Act → World → Prop}
theorem wpList_imap_store (hg : o.guard = none) (m x v : Operand) (t : TypeId) (hop : o.op = Op.mapUpdate t m x v) (k e : TypeId) (hk : P.underlying k = some (.int .i64)) (ht : P.underlying t = some (.map k e)) (b : Nat) (l : List (Int × Value))
    (hm : a.eval m = .map (some b)) (h : IMap P k w b l) (hl : l.length < maxLen) (i : Int) (u : Value) (hx : a.eval x = .int .i64 i) (hv : a.eval v = u) (hi : okI i) (hn : i ∉ keysL l)
    (hK : ∀ w', IMap P k w' b (l ++ [(i, u)]) → w.grownBy w' (some b) → wpList P ops Q rest (a.put o.dst undef) w') : wpList P ops Q (o :: rest) a w := by
  refine wpList_plain hg fun K' hK' => ?_
  obtain ⟨w', hrun, r1, r2⟩ := h.store hk ht hl hi hn u
  unfold Oper.wp
  simp [execOp, hop, hm, hx, hv, hrun, Result.andThen]
  exact hK' _ _ (hK w' r1 r2)
theorem wpList_imap_insert (hg : o.guard = none) (m x v : Operand) (t : TypeId) (hop : o.op = Op.insert t m x v) (k e : TypeId) (hk : P.underlying k = some (.int .i64)) (ht : P.underlying t = some (.map k e)) (b : Nat) (l : List (Int × Value))
    (hm : a.eval m = .map (some b)) (h : IMap P k w b l) (hl : l.length < maxLen) (i : Int) (u : Value) (hx : a.eval x = .int .i64 i) (hv : a.eval v = u) (hi : okI i) (hn : i ∉ keysL l)
    (hK : ∀ w', IMap P k w' b (l ++ [(i, u)]) → w.grownBy w' (some b) → wpList P ops Q rest (a.put o.dst undef) w') : wpList P ops Q (o :: rest) a w := by
  refine wpList_plain hg fun K' hK' => ?_
  obtain ⟨w', hrun, r1, r2⟩ := h.store hk ht hl hi hn u
  unfold Oper.wp
  simp [execOp, hop, hm, hx, hv, hrun, Result.andThen]
  exact hK' _ _ (hK w' r1 r2)
theorem wpList_imap_look (hg : o.guard = none) (m x : Operand) (t : TypeId) (hop : o.op = Op.lookup t m x false) (k e : TypeId) (hk : P.underlying k = some (.int .i64)) (ht : P.underlying t = some (.map k e)) {z : Value} (hz : (zeroValue e).run P w = .ok z w) (b : Nat) (l : List (Int × Value))
    (hm : a.eval m = .map (some b)) (h : IMap P k w b l) (i : Int) (hx : a.eval x = .int .i64 i) (hi : okI i) (u : Value) (hu : (getL l i).getD z = u)
    (hK : wpList P ops Q rest (a.put o.dst u) w) : wpList P ops Q (o :: rest) a w := by
  refine wpList_plain hg fun K' hK' => ?_
  have hrun := h.look hk ht hz hi
  rw [hu] at hrun
  unfold Oper.wp
  simp [execOp, hop, hm, hx, hrun, Result.andThen]
  exact hK' _ _ hK
theorem wpList_imap_lookOk (hg : o.guard = none) (m x : Operand) (t : TypeId) (hop : o.op = Op.lookup t m x true) (k e : TypeId) (hk : P.underlying k = some (.int .i64)) (ht : P.underlying t = some (.map k e)) {z : Value} (hz : (zeroValue e).run P w = .ok z w) (b : Nat) (l : List (Int × Value))
    (hm : a.eval m = .map (some b)) (h : IMap P k w b l) (i : Int) (hx : a.eval x = .int .i64 i) (hi : okI i) (u : Value) (ok : Bool) (hu : (getL l i).getD z = u) (ho : (getL l i).isSome = ok)
    (hK : wpList P ops Q rest (a.put o.dst (.tuple #[u, .bool ok])) w) : wpList P ops Q (o :: rest) a w := by
  refine wpList_plain hg fun K' hK' => ?_
  have hrun := h.lookOk hk ht hz hi
  rw [hu, ho] at hrun
  unfold Oper.wp
  simp [execOp, hop, hm, hx, hrun, Result.andThen]
  exact hK' _ _ hK
variable {F : Fence} {nF : Nat}
theorem wpListIn_imap_store (hg : o.guard = none) (m x v : Operand) (t : TypeId) (hop : o.op = Op.mapUpdate t m x v) (k e : TypeId) (hk : P.underlying k = some (.int .i64)) (ht : P.underlying t = some (.map k e)) (b : Nat) (l : List (Int × Value))
    (hm : a.eval m = .map (some b)) (h : IMap P k w b l) (hl : l.length < maxLen) (i : Int) (u : Value) (hx : a.eval x = .int .i64 i) (hv : a.eval v = u) (hi : okI i) (hn : i ∉ keysL l)
    (hK : ∀ w', IMap P k w' b (l ++ [(i, u)]) → w.grownBy w' (some b) → wpListIn F nF P ops Q rest (a.put o.dst undef) w') : wpListIn F nF P ops Q (o :: rest) a w := by
  refine wpListIn_plain hg fun K' hK' => ?_
  obtain ⟨w', hrun, r1, r2⟩ := h.store hk ht hl hi hn u
  unfold Oper.wpIn
  refine ⟨by simp [Oper.about, hop], ?_⟩
  rw [Oper.semAt_plain F _ _ (by rw [hop]; intro c hc'; cases hc')]
  simp [execOp, hop, hm, hx, hv, hrun, Result.andThen]
  exact hK' _ _ (hK w' r1 r2)
theorem wpListIn_imap_look (hg : o.guard = none) (m x : Operand) (t : TypeId) (hop : o.op = Op.lookup t m x false) (k e : TypeId) (hk : P.underlying k = some (.int .i64)) (ht : P.underlying t = some (.map k e)) {z : Value} (hz : (zeroValue e).run P w = .ok z w) (b : Nat) (l : List (Int × Value))
    (hm : a.eval m = .map (some b)) (h : IMap P k w b l) (i : Int) (hx : a.eval x = .int .i64 i) (hi : okI i) (u : Value) (hu : (getL l i).getD z = u)
    (hK : wpListIn F nF P ops Q rest (a.put o.dst u) w) : wpListIn F nF P ops Q (o :: rest) a w := by
  refine wpListIn_plain hg fun K' hK' => ?_
  have hrun := h.look hk ht hz hi
  rw [hu] at hrun
  unfold Oper.wpIn
  refine ⟨by simp [Oper.about, hop], ?_⟩
  rw [Oper.semAt_plain F _ _ (by rw [hop]; intro c hc'; cases hc')]
  simp [execOp, hop, hm, hx, hrun, Result.andThen]
  exact hK' _ _ hK
theorem wpListIn_imap_lookOk (hg : o.guard = none) (m x : Operand) (t : TypeId) (hop : o.op = Op.lookup t m x true) (k e : TypeId) (hk : P.underlying k = some (.int .i64)) (ht : P.underlying t = some (.map k e)) {z : Value} (hz : (zeroValue e).run P w = .ok z w) (b : Nat) (l : List (Int × Value))
    (hm : a.eval m = .map (some b)) (h : IMap P k w b l) (i : Int) (hx : a.eval x = .int .i64 i) (hi : okI i) (u : Value) (ok : Bool) (hu : (getL l i).getD z = u) (ho : (getL l i).isSome = ok)
    (hK : wpListIn F nF P ops Q rest (a.put o.dst (.tuple #[u, .bool ok])) w) : wpListIn F nF P ops Q (o :: rest) a w := by
  refine wpListIn_plain hg fun K' hK' => ?_
  have hrun := h.lookOk hk ht hz hi
  rw [hu, ho] at hrun
  unfold Oper.wpIn
  refine ⟨by simp [Oper.about, hop], ?_⟩
  rw [Oper.semAt_plain F _ _ (by rw [hop]; intro c hc'; cases hc')]
  simp [execOp, hop, hm, hx, hrun, Result.andThen]
  exact hK' _ _ hK
end
end Go.Proofs.YtikpbknafhnieaaGreatDoor

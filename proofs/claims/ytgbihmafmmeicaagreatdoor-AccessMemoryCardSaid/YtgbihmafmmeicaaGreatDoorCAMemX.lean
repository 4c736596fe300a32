/-
  WHAT IS PROVED HERE: a law returns true and leaves its arguments as they were, for all arguments (16 texts joined). Conditions: those of the card.
-/
import Derived.Test.YtgbihmafmmeicaaGreatDoorBn5
import Derived.Laws.MakeOwn
/-
  WHAT IS PROVED HERE: fact.Same returns at any two facts. No condition but that the facts lie in memory.
-/
namespace Go.Proofs.YtgbihmafmmeicaaGreatDoor
open Go.RowKit Mg Go.Shelf Go.Maps Go.Sort

/-- slot t holds v -/
def At (a : Act) (t : Nat) (v : Value) : Prop := a.tmps[t]? = some v
theorem At.put {a : Act} {t d : Nat} {v u : Value} (h : At a t v) (hne : d ≠ t) : At (a.put (some d) u) t v := by
  unfold At Act.put at *
  simp only []
  rw [Array.getElem?_setIfInBounds_ne hne]; exact h
theorem At.new {a : Act} {d : Nat} {u : Value} (h : d < a.tmps.size) : At (a.put (some d) u) d u := by
  unfold At Act.put
  simp only []
  rw [Array.getElem?_setIfInBounds_self_of_lt h]
theorem At.eval {a : Act} {t : Nat} {v : Value} (h : At a t v) : a.eval (.tmp t) = v := by
  unfold At at h
  show a.tmps.getD t undef = v
  rw [Array.getD_eq_getD_getElem?, h]; rfl
/-- a frame that holds two facts' places -/
structure FrS (n b1 b2 : Nat) (a : Act) : Prop where
  size : a.tmps.size = n
  t2 : At a 2 (.pointer (some ⟨b1, 0, none⟩))
  t3 : At a 3 (.pointer (some ⟨b2, 0, none⟩))
theorem FrS.put {n b1 b2 : Nat} {a : Act} {t : Nat} {v : Value} (h : FrS n b1 b2 a) (h4 : 4 ≤ t) : FrS n b1 b2 (a.put (some t) v) :=
  ⟨by unfold Act.put; simp [h.size], h.t2.put (by omega), h.t3.put (by omega)⟩
section
variable {P : Program} {ops : Array Oper} {Q : Exit → Act → World → Prop} {rest : List Oper}
theorem wpList_val {o : Oper} {a : Act} {w : World} {v : Value} (hw : Region.wanted o (yielded ops a.tmps) = true) (hr : (execOp a.eval o).run P w = .ok (.value v) w) (h : wpList P ops Q rest (a.put o.dst v) w) : wpList P ops Q (o :: rest) a w :=
  wpList_step fun K hK => by
    rw [if_pos hw]
    unfold Oper.wp
    rw [hr]
    exact hK _ _ h
theorem wanted_at {o : Oper} {g m : Nat} {c b : Bool} {a : Act} (hgd : o.guard = some (g, b)) (hg : (ops[g]?).bind (·.dst) = some m) (h : At a m (.bool c)) : Region.wanted o (yielded ops a.tmps) = (c == b) := by
  unfold At at h
  unfold Region.wanted yielded
  rw [hgd]
  simp only []
  rw [hg]
  simp [h]
theorem wanted_free {o : Oper} {a : Act} (hgd : o.guard = none) : Region.wanted o (yielded ops a.tmps) = true := by
  unfold Region.wanted
  rw [hgd]
/-- one comparison of the chain: its operations -/
structure Cyc (ops : Array Oper) (S T f g m : Nat) (o1 o2 o3 o4 o5 o6 : Oper) : Prop where
  e1 : o1.op = .fieldAddr S (.tmp 2) f
  e2 : o2.op = .load T (.tmp (m + 1))
  e3 : o3.op = .fieldAddr S (.tmp 3) f
  e4 : o4.op = .load T (.tmp (m + 3))
  e6 : o6.op = .pick (.tmp m) (.tmp (m + 5)) (.const (.bool false))
  d1 : o1.dst = some (m + 1)
  d2 : o2.dst = some (m + 2)
  d3 : o3.dst = some (m + 3)
  d4 : o4.dst = some (m + 4)
  d5 : o5.dst = some (m + 5)
  d6 : o6.dst = some (m + 6)
  g1 : o1.guard = some (g, true)
  g2 : o2.guard = some (g, true)
  g3 : o3.guard = some (g, true)
  g4 : o4.guard = some (g, true)
  g5 : o5.guard = some (g, true)
  g6 : o6.guard = none
  hg : (ops[g]?).bind (·.dst) = some m
theorem cyc {S T f g m n b1 b2 : Nat} {d : Act → Prop} (hd : ∀ a t v, d a → d (Act.put a (some t) v)) (I : World → Prop) {o1 o2 o3 o4 o5 o6 : Oper} (e : Cyc ops S T f g m o1 o2 o3 o4 o5 o6) {a : Act} {w : World} {c : Bool} (hm : At a m (.bool c)) (hF : FrS n b1 b2 a) (hda : d a) (hI : I w) (h4 : 4 ≤ m) (hn : m + 6 < n)
    {p1 p2 : Addr} {x y : Value} (hA : (Instr.fieldAt S (.pointer (some ⟨b1, 0, none⟩)) f).run P w = .ok (.pointer (some p1)) w) (hB : (Instr.fieldAt S (.pointer (some ⟨b2, 0, none⟩)) f).run P w = .ok (.pointer (some p2)) w)
    (hX : (Instr.loadAt T (.pointer (some p1))).run P w = .ok x w) (hY : (Instr.loadAt T (.pointer (some p2))).run P w = .ok y w)
    (hq : ∀ a, a.eval (.tmp (m + 2)) = x → a.eval (.tmp (m + 4)) = y → ∀ K : Act → World → Prop, (∀ q w', I w' → K (a.put (some (m + 5)) (.bool q)) w') → o5.wp P a w K Q)
    (h : ∀ a' w' c', I w' → d a' → At a' (m + 6) (.bool c') → FrS n b1 b2 a' → wpList P ops Q rest a' w') : wpList P ops Q (o1 :: o2 :: o3 :: o4 :: o5 :: o6 :: rest) a w := by
  cases c with
  | false =>
    have sk : ∀ {o : Oper} {a : Act} {l : List Oper}, o.guard = some (g, true) → At a m (.bool false) → wpList P ops Q l (a.put o.dst undef) w → wpList P ops Q (o :: l) a w := fun hgd hm h => wpList_skip ((wanted_at hgd e.hg hm).trans rfl) h
    refine sk e.g1 hm ?_
    rw [e.d1]
    have m1 := hm.put (d := m + 1) (u := undef) (by omega)
    refine sk e.g2 m1 ?_
    rw [e.d2]
    have m2 := m1.put (d := m + 2) (u := undef) (by omega)
    refine sk e.g3 m2 ?_
    rw [e.d3]
    have m3 := m2.put (d := m + 3) (u := undef) (by omega)
    refine sk e.g4 m3 ?_
    rw [e.d4]
    have m4 := m3.put (d := m + 4) (u := undef) (by omega)
    refine sk e.g5 m4 ?_
    rw [e.d5]
    have m5 := m4.put (d := m + 5) (u := undef) (by omega)
    have F5 := ((((hF.put (t := m + 1) (v := undef) (by omega)).put (t := m + 2) (v := undef) (by omega)).put (t := m + 3) (v := undef) (by omega)).put (t := m + 4) (v := undef) (by omega)).put (t := m + 5) (v := undef) (by omega)
    have D5 := hd _ (m + 5) undef (hd _ (m + 4) undef (hd _ (m + 3) undef (hd _ (m + 2) undef (hd _ (m + 1) undef hda))))
    refine wpList_val (v := .bool false) (wanted_free e.g6) ?_ ?_
    · unfold execOp
      simp only [e.e6, m5.eval, asBool]
      rfl
    · rw [e.d6]
      exact h _ _ false hI (hd _ _ _ D5) (At.new (by rw [F5.size]; omega)) (F5.put (by omega))
  | true =>
    refine wpList_val (v := .pointer (some p1)) ((wanted_at e.g1 e.hg hm).trans rfl) (by unfold execOp; simp only [e.e1, hF.t2.eval, Sem.run_bind, hA, Result.andThen_ok, Sem.run_pure]) ?_
    rw [e.d1]
    have m1 := hm.put (d := m + 1) (u := .pointer (some p1)) (by omega)
    have F1 := hF.put (t := m + 1) (v := .pointer (some p1)) (by omega)
    have D1 := hd _ (m + 1) (.pointer (some p1)) hda
    have A1 : At (a.put (some (m + 1)) (.pointer (some p1))) (m + 1) (.pointer (some p1)) := At.new (by rw [hF.size]; omega)
    generalize a.put (some (m + 1)) (.pointer (some p1)) = a1 at *
    refine wpList_val (v := x) ((wanted_at e.g2 e.hg m1).trans rfl) (by unfold execOp; simp only [e.e2, A1.eval, Sem.run_bind, hX, Result.andThen_ok, Sem.run_pure]) ?_
    rw [e.d2]
    have m2 := m1.put (d := m + 2) (u := x) (by omega)
    have F2 := F1.put (t := m + 2) (v := x) (by omega)
    have D2 := hd _ (m + 2) x D1
    have A2 : At (a1.put (some (m + 2)) x) (m + 2) x := At.new (by rw [F1.size]; omega)
    generalize a1.put (some (m + 2)) x = a2 at *
    refine wpList_val (v := .pointer (some p2)) ((wanted_at e.g3 e.hg m2).trans rfl) (by unfold execOp; simp only [e.e3, F2.t3.eval, Sem.run_bind, hB, Result.andThen_ok, Sem.run_pure]) ?_
    rw [e.d3]
    have m3 := m2.put (d := m + 3) (u := .pointer (some p2)) (by omega)
    have F3 := F2.put (t := m + 3) (v := .pointer (some p2)) (by omega)
    have D3 := hd _ (m + 3) (.pointer (some p2)) D2
    have A3 : At (a2.put (some (m + 3)) (.pointer (some p2))) (m + 3) (.pointer (some p2)) := At.new (by rw [F2.size]; omega)
    have A32 := A2.put (d := m + 3) (u := .pointer (some p2)) (by omega)
    generalize a2.put (some (m + 3)) (.pointer (some p2)) = a3 at *
    refine wpList_val (v := y) ((wanted_at e.g4 e.hg m3).trans rfl) (by unfold execOp; simp only [e.e4, A3.eval, Sem.run_bind, hY, Result.andThen_ok, Sem.run_pure]) ?_
    rw [e.d4]
    have m4 := m3.put (d := m + 4) (u := y) (by omega)
    have F4 := F3.put (t := m + 4) (v := y) (by omega)
    have D4 := hd _ (m + 4) y D3
    have A4 : At (a3.put (some (m + 4)) y) (m + 4) y := At.new (by rw [F3.size]; omega)
    have A42 := A32.put (d := m + 4) (u := y) (by omega)
    generalize a3.put (some (m + 4)) y = a4 at *
    refine wpList_step fun K hK => ?_
    rw [if_pos (show Region.wanted o5 (yielded ops a4.tmps) = true from (wanted_at e.g5 e.hg m4).trans rfl)]
    refine hq a4 A42.eval A4.eval K fun q w' hI' => hK _ _ ?_
    have m5 := m4.put (d := m + 5) (u := .bool q) (by omega)
    have F5 := F4.put (t := m + 5) (v := .bool q) (by omega)
    have D5 := hd _ (m + 5) (.bool q) D4
    have A5 : At (a4.put (some (m + 5)) (.bool q)) (m + 5) (.bool q) := At.new (by rw [F4.size]; omega)
    generalize a4.put (some (m + 5)) (.bool q) = a5 at *
    refine wpList_val (v := .bool q) (wanted_free e.g6) ?_ ?_
    · unfold execOp
      simp only [e.e6, m5.eval, A5.eval, asBool]
      rfl
    · rw [e.d6]
      exact h _ _ q hI' (hd _ _ _ D5) (At.new (by rw [F5.size]; omega)) (F5.put (by omega))
/-- the first comparison, which nothing guards -/
theorem cyc0 {S T f m n b1 b2 : Nat} {d : Act → Prop} (hd : ∀ a t v, d a → d (Act.put a (some t) v)) (I : World → Prop) {o1 o2 o3 o4 o5 : Oper}
    (e1 : o1.op = .fieldAddr S (.tmp 2) f) (e2 : o2.op = .load T (.tmp (m + 1))) (e3 : o3.op = .fieldAddr S (.tmp 3) f) (e4 : o4.op = .load T (.tmp (m + 3)))
    (d1 : o1.dst = some (m + 1)) (d2 : o2.dst = some (m + 2)) (d3 : o3.dst = some (m + 3)) (d4 : o4.dst = some (m + 4)) (g1 : o1.guard = none) (g2 : o2.guard = none) (g3 : o3.guard = none) (g4 : o4.guard = none) (g5 : o5.guard = none)
    {a : Act} {w : World} (hF : FrS n b1 b2 a) (hda : d a) (h4 : 4 ≤ m) (hn : m + 5 < n)
    {p1 p2 : Addr} {x y : Value} (hA : (Instr.fieldAt S (.pointer (some ⟨b1, 0, none⟩)) f).run P w = .ok (.pointer (some p1)) w) (hB : (Instr.fieldAt S (.pointer (some ⟨b2, 0, none⟩)) f).run P w = .ok (.pointer (some p2)) w)
    (hX : (Instr.loadAt T (.pointer (some p1))).run P w = .ok x w) (hY : (Instr.loadAt T (.pointer (some p2))).run P w = .ok y w)
    (hq : ∀ a, a.eval (.tmp (m + 2)) = x → a.eval (.tmp (m + 4)) = y → ∀ K : Act → World → Prop, (∀ q w', I w' → K (a.put (some (m + 5)) (.bool q)) w') → o5.wp P a w K Q)
    (h : ∀ a' w' c', I w' → d a' → At a' (m + 5) (.bool c') → FrS n b1 b2 a' → wpList P ops Q rest a' w') : wpList P ops Q (o1 :: o2 :: o3 :: o4 :: o5 :: rest) a w := by
  refine wpList_val (v := .pointer (some p1)) (wanted_free g1) (by unfold execOp; simp only [e1, hF.t2.eval, Sem.run_bind, hA, Result.andThen_ok, Sem.run_pure]) ?_
  rw [d1]
  have F1 := hF.put (t := m + 1) (v := .pointer (some p1)) (by omega)
  have D1 := hd _ (m + 1) (.pointer (some p1)) hda
  have A1 : At (a.put (some (m + 1)) (.pointer (some p1))) (m + 1) (.pointer (some p1)) := At.new (by rw [hF.size]; omega)
  generalize a.put (some (m + 1)) (.pointer (some p1)) = a1 at *
  refine wpList_val (v := x) (wanted_free g2) (by unfold execOp; simp only [e2, A1.eval, Sem.run_bind, hX, Result.andThen_ok, Sem.run_pure]) ?_
  rw [d2]
  have F2 := F1.put (t := m + 2) (v := x) (by omega)
  have D2 := hd _ (m + 2) x D1
  have A2 : At (a1.put (some (m + 2)) x) (m + 2) x := At.new (by rw [F1.size]; omega)
  generalize a1.put (some (m + 2)) x = a2 at *
  refine wpList_val (v := .pointer (some p2)) (wanted_free g3) (by unfold execOp; simp only [e3, F2.t3.eval, Sem.run_bind, hB, Result.andThen_ok, Sem.run_pure]) ?_
  rw [d3]
  have F3 := F2.put (t := m + 3) (v := .pointer (some p2)) (by omega)
  have D3 := hd _ (m + 3) (.pointer (some p2)) D2
  have A3 : At (a2.put (some (m + 3)) (.pointer (some p2))) (m + 3) (.pointer (some p2)) := At.new (by rw [F2.size]; omega)
  have A32 := A2.put (d := m + 3) (u := .pointer (some p2)) (by omega)
  generalize a2.put (some (m + 3)) (.pointer (some p2)) = a3 at *
  refine wpList_val (v := y) (wanted_free g4) (by unfold execOp; simp only [e4, A3.eval, Sem.run_bind, hY, Result.andThen_ok, Sem.run_pure]) ?_
  rw [d4]
  have F4 := F3.put (t := m + 4) (v := y) (by omega)
  have D4 := hd _ (m + 4) y D3
  have A4 : At (a3.put (some (m + 4)) y) (m + 4) y := At.new (by rw [F3.size]; omega)
  have A42 := A32.put (d := m + 4) (u := y) (by omega)
  generalize a3.put (some (m + 4)) y = a4 at *
  refine wpList_step fun K hK => ?_
  rw [if_pos (wanted_free g5)]
  refine hq a4 A42.eval A4.eval K fun q w' hI' => hK _ _ ?_
  exact h _ _ q hI' (hd _ _ _ D4) (At.new (by rw [F4.size]; omega)) (F4.put (by omega))
/-- a value moved on -/
theorem mvb {n b1 b2 t s : Nat} {d : Act → Prop} (hd : ∀ a t v, d a → d (Act.put a (some t) v)) {o : Oper} (ho : o.op = .move (.tmp s) ∨ o.op = .assign (.tmp s)) (hg : o.guard = none) (ht : o.dst = some t) {a : Act} {w : World} {c : Bool} (hm : At a s (.bool c)) (hF : FrS n b1 b2 a) (hda : d a) (h4 : 4 ≤ t) (hn : t < n)
    (h : ∀ a', d a' → At a' t (.bool c) → FrS n b1 b2 a' → wpList P ops Q rest a' w) : wpList P ops Q (o :: rest) a w := by
  refine wpList_val (v := .bool c) (wanted_free hg) ?_ ?_
  · unfold execOp
    rcases ho with ho | ho <;> (simp only [ho, hm.eval]; rfl)
  · rw [ht]
    exact h _ (hd _ _ _ hda) (At.new (by rw [hF.size]; omega)) (hF.put h4)
end
section
variable {Q : Exit → Act → World → Prop}
theorem hq_int {I : World → Prop} {m : Nat} {o : Oper} (ho : o.op = .binOp .eql 3 (.tmp (m + 2)) (.tmp (m + 4)) 3) (hd : o.dst = some (m + 5)) {x y : Int} {w : World} (hI : I w) :
    ∀ a : Act, a.eval (.tmp (m + 2)) = .int .i64 x → a.eval (.tmp (m + 4)) = .int .i64 y → ∀ K : Act → World → Prop, (∀ q w', I w' → K (a.put (some (m + 5)) (.bool q)) w') → o.wp Tryz.prog a w K Q := by
  intro a hx hy K hK
  have hr : (execOp a.eval o).run Tryz.prog w = .ok (.value (.bool (x == y))) w := by
    unfold execOp
    simp only [ho, hx, hy]
    go_simp
  unfold Oper.wp
  rw [hr]
  have := hK (x == y) w hI
  rw [← hd] at this
  exact this
theorem hq_str {I : World → Prop} {m : Nat} {o : Oper} (ho : o.op = .binOp .eql 9 (.tmp (m + 2)) (.tmp (m + 4)) 9) (hd : o.dst = some (m + 5)) {x y : ByteArray} {w : World} (hI : I w) :
    ∀ a : Act, a.eval (.tmp (m + 2)) = .string x → a.eval (.tmp (m + 4)) = .string y → ∀ K : Act → World → Prop, (∀ q w', I w' → K (a.put (some (m + 5)) (.bool q)) w') → o.wp Tryz.prog a w K Q := by
  intro a hx hy K hK
  have hr : ∃ q, (execOp a.eval o).run Tryz.prog w = .ok (.value (.bool q)) w := by
    refine ⟨?_, ?_⟩
    rotate_left
    · unfold execOp
      simp only [ho, hx, hy]
      go_simp
      rfl
  obtain ⟨q, hr⟩ := hr
  unfold Oper.wp
  rw [hr]
  have := hK q w hI
  rw [← hd] at this
  exact this
end
end Go.Proofs.YtgbihmafmmeicaaGreatDoor
/-
  WHAT IS PROVED HERE: fact.Same returns at any two facts (printed by tools/aht.py). No condition but that the facts lie in memory.
-/
namespace Go.Proofs.YtgbihmafmmeicaaGreatDoor
open Go.RowKit Mg Go.Shelf Go.Maps Go.Sort

/-- what the comparison keeps -/
structure SameI (mem : Addr → Option Value) (w : World) (b1 b2 : Nat) (e1 e2 : FctE) (W : World) : Prop where
  h1 : W.heap[b1]? = some (.cells e1.cells 45 (0, 0))
  h2 : W.heap[b2]? = some (.cells e2.cells 45 (0, 0))
  bel : Below w.heap.size w W
  see : Sees mem W
theorem SameI.below {mem : Addr → Option Value} {w : World} {b1 b2 : Nat} {e1 e2 : FctE} {W W' : World} (h : SameI mem w b1 b2 e1 e2 W) (hb : Below W.heap.size W W') : SameI mem w b1 b2 e1 e2 W' :=
  ⟨(hb.block _ (Go.Proofs.YtgbihmafmmeicaaGreatDoor.hlt h.h1)).trans h.h1, (hb.block _ (Go.Proofs.YtgbihmafmmeicaaGreatDoor.hlt h.h2)).trans h.h2, h.bel.trans (hb.mono h.bel.size), h.see.bel hb⟩
theorem hq_call {I : World → Prop} {Q : Exit → Act → World → Prop} {m g : Nat} {o : Oper} {t1 t2 : TypeId} (ho : o.op = .call { callee := .value (.func g), args := #[.tmp (m + 2), .tmp (m + 4)], argTypes := #[t1, t2] }) (hd : o.dst = some (m + 5)) {x y : Value} {w : World} (hcf : ∀ x y w, (callFunc g #[x, y]).run Tryz.prog w = .ok (.enter g #[x, y]) w)
    (hc : Calls Tryz.prog g #[x, y] w fun e w' => (∃ b, e = .returned (.bool b)) ∧ I w') :
    ∀ a : Act, a.eval (.tmp (m + 2)) = x → a.eval (.tmp (m + 4)) = y → ∀ K : Act → World → Prop, (∀ q w', I w' → K (a.put (some (m + 5)) (.bool q)) w') → o.wp Tryz.prog a w K Q := by
  intro a hx hy K hK
  have hr : (execOp a.eval o).run Tryz.prog w = .ok (.enter g #[x, y]) w := by
    unfold execOp
    simp only [ho, resolve, List.map_toArray, List.map_cons, List.map_nil, hx, hy]
    clear hx hy hK hc hd ho
    go_simp
    try exact hcf x y w
  unfold Oper.wp
  rw [hr]
  refine hc.mono ?_
  rintro e w' ⟨⟨b, rfl⟩, hI⟩
  have := hK b w' hI
  rw [← hd] at this
  exact this
set_option maxRecDepth 100000 in
set_option maxHeartbeats 2000000 in
theorem fsame : FSame := by
  intro mem e1 e2 w hs h1 h2
  have HT : Hid (∀ W, Sees mem W → Calls Tryz.prog 81 #[e1.tv, e2.tv] W fun e w' => (∃ b, e = .returned (.bool b)) ∧ Below W.heap.size W w') := Lib.hid fun W hW => (equalS_any _ _ _ _ h1.parts.1 h2.parts.1 W hW).mono fun e w' h => ⟨⟨_, h.1⟩, h.2⟩
  have HL : Hid (∀ W, Sees mem W → Calls Tryz.prog 82 #[e1.bv, e2.bv] W fun e w' => (∃ b, e = .returned (.bool b)) ∧ Below W.heap.size W w') := Lib.hid fun W hW => (sameList_any h1.parts.2.1 h2.parts.2.1 W hW).mono fun e w' h => ⟨⟨_, h.1⟩, h.2⟩
  have HM : Hid (∀ W, Sees mem W → Calls Tryz.prog 83 #[.agg (labCells e1.f.lab e1.av), .agg (labCells e2.f.lab e2.av)] W fun e w' => (∃ b, e = .returned (.bool b)) ∧ Below W.heap.size W w') := Lib.hid fun W hW => (labSame_any _ _ _ _ h1.parts.2.2 h2.parts.2.2 W hW).mono fun e w' h => ⟨⟨_, h.1⟩, h.2⟩
  have H0 : Hid (SameI mem w w.heap.size (w.heap.size + 1) e1 e2 ((w.alloc (.cells e1.cells 45)).alloc (.cells e2.cells 45))) := Lib.hid ⟨heap_new1 w _ _, heap_new2 w _ _, ((Below.refl _ w).alloc (Nat.le_refl _) _).alloc (by simp) _, (hs.alloc _).alloc _⟩
  clear hs h1 h2
  go_enter Tryz.func67, Tryz.ntmps67
  go_upto_region 1 with fail
  rename_i Q0 K0 hK0
  generalize World.alloc (World.alloc w _) _ = W1 at *
  generalize w.heap.size = b1 at *
  obtain ⟨b2, hb2⟩ : ∃ b2, b2 = b1 + 1 := ⟨_, rfl⟩
  have hI0 := H0.out
  rw [← hb2] at hI0 ⊢
  clear H0 hb2
  refine wp_region_lit ?_
  refine (?_ : ∀ a : Act, FrS 143 b1 b2 a → a.defers = [] → wpList _ _ _ _ a W1) _ ⟨rfl, rfl, rfl⟩ rfl
  intro a hF hD
  have hd : ∀ (a : Act) t v, a.defers = [] → (Act.put a (some t) v).defers = [] := fun a t v h => h
  refine cyc0 (m := 4) (d := fun a => a.defers = []) hd (SameI mem w b1 b2 e1 e2) rfl rfl rfl rfl rfl rfl rfl rfl rfl rfl rfl rfl rfl hF hD (by omega) (by omega) (p1 := ⟨b1, 0, none⟩) (p2 := ⟨b2, 0, none⟩) (x := .int .i64 e1.f.n) (y := .int .i64 e2.f.n) (by go_simp) (by go_simp) (by have q := (blk_cell hI0.h1 0).trans (show _ = some (.int .i64 e1.f.n) from rfl); go_simp) (by have q := (blk_cell hI0.h2 0).trans (show _ = some (.int .i64 e2.f.n) from rfl); go_simp) (hq_int rfl rfl hI0) ?_
  clear hF hD a
  intro a W2 c hI1 hD hA hF
  refine mvb (t := 10) hd (.inl rfl) rfl rfl hA hF hD (by omega) (by omega) ?_
  clear hA hF hD a hI0
  intro a hD hA hF
  refine cyc (m := 10) (d := fun a => a.defers = []) hd (SameI mem w b1 b2 e1 e2) ⟨rfl, rfl, rfl, rfl, rfl, rfl, rfl, rfl, rfl, rfl, rfl, rfl, rfl, rfl, rfl, rfl, rfl, rfl⟩ hA hF hD hI1 (by omega) (by omega) (p1 := ⟨b1, 1, none⟩) (p2 := ⟨b2, 1, none⟩) (x := .int .i64 e1.f.time) (y := .int .i64 e2.f.time) (by go_simp) (by go_simp) (by have q := (blk_cell hI1.h1 1).trans (show _ = some (.int .i64 e1.f.time) from rfl); go_simp) (by have q := (blk_cell hI1.h2 1).trans (show _ = some (.int .i64 e2.f.time) from rfl); go_simp) (hq_int rfl rfl hI1) ?_
  clear hA hF hD a c
  intro a W3 c hI2 hD hA hF
  refine mvb (t := 17) hd (.inl rfl) rfl rfl hA hF hD (by omega) (by omega) ?_
  clear hA hF hD a hI1
  intro a hD hA hF
  refine cyc (m := 17) (d := fun a => a.defers = []) hd (SameI mem w b1 b2 e1 e2) ⟨rfl, rfl, rfl, rfl, rfl, rfl, rfl, rfl, rfl, rfl, rfl, rfl, rfl, rfl, rfl, rfl, rfl, rfl⟩ hA hF hD hI2 (by omega) (by omega) (p1 := ⟨b1, 2, none⟩) (p2 := ⟨b2, 2, none⟩) (x := .int .i64 e1.f.kind) (y := .int .i64 e2.f.kind) (by go_simp) (by go_simp) (by have q := (blk_cell hI2.h1 2).trans (show _ = some (.int .i64 e1.f.kind) from rfl); go_simp) (by have q := (blk_cell hI2.h2 2).trans (show _ = some (.int .i64 e2.f.kind) from rfl); go_simp) (hq_int rfl rfl hI2) ?_
  clear hA hF hD a c
  intro a W4 c hI3 hD hA hF
  refine mvb (t := 24) hd (.inl rfl) rfl rfl hA hF hD (by omega) (by omega) ?_
  clear hA hF hD a hI2
  intro a hD hA hF
  refine cyc (m := 24) (d := fun a => a.defers = []) hd (SameI mem w b1 b2 e1 e2) ⟨rfl, rfl, rfl, rfl, rfl, rfl, rfl, rfl, rfl, rfl, rfl, rfl, rfl, rfl, rfl, rfl, rfl, rfl⟩ hA hF hD hI3 (by omega) (by omega) (p1 := ⟨b1, 3, none⟩) (p2 := ⟨b2, 3, none⟩) (x := .int .i64 e1.f.story) (y := .int .i64 e2.f.story) (by go_simp) (by go_simp) (by have q := (blk_cell hI3.h1 3).trans (show _ = some (.int .i64 e1.f.story) from rfl); go_simp) (by have q := (blk_cell hI3.h2 3).trans (show _ = some (.int .i64 e2.f.story) from rfl); go_simp) (hq_int rfl rfl hI3) ?_
  clear hA hF hD a c
  intro a W5 c hI4 hD hA hF
  refine mvb (t := 31) hd (.inl rfl) rfl rfl hA hF hD (by omega) (by omega) ?_
  clear hA hF hD a hI3
  intro a hD hA hF
  refine cyc (m := 31) (d := fun a => a.defers = []) hd (SameI mem w b1 b2 e1 e2) ⟨rfl, rfl, rfl, rfl, rfl, rfl, rfl, rfl, rfl, rfl, rfl, rfl, rfl, rfl, rfl, rfl, rfl, rfl⟩ hA hF hD hI4 (by omega) (by omega) (p1 := ⟨b1, 4, none⟩) (p2 := ⟨b2, 4, none⟩) (x := .string e1.f.lang) (y := .string e2.f.lang) (by go_simp) (by go_simp) (by have q := (blk_cell hI4.h1 4).trans (show _ = some (.string e1.f.lang) from rfl); go_simp) (by have q := (blk_cell hI4.h2 4).trans (show _ = some (.string e2.f.lang) from rfl); go_simp) (hq_str rfl rfl hI4) ?_
  clear hA hF hD a c
  intro a W6 c hI5 hD hA hF
  refine mvb (t := 38) hd (.inl rfl) rfl rfl hA hF hD (by omega) (by omega) ?_
  clear hA hF hD a hI4
  intro a hD hA hF
  refine cyc (m := 38) (d := fun a => a.defers = []) hd (SameI mem w b1 b2 e1 e2) ⟨rfl, rfl, rfl, rfl, rfl, rfl, rfl, rfl, rfl, rfl, rfl, rfl, rfl, rfl, rfl, rfl, rfl, rfl⟩ hA hF hD hI5 (by omega) (by omega) (p1 := ⟨b1, 5, none⟩) (p2 := ⟨b2, 5, none⟩) (x := .int .i64 e1.f.rev) (y := .int .i64 e2.f.rev) (by go_simp) (by go_simp) (by have q := (blk_cell hI5.h1 5).trans (show _ = some (.int .i64 e1.f.rev) from rfl); go_simp) (by have q := (blk_cell hI5.h2 5).trans (show _ = some (.int .i64 e2.f.rev) from rfl); go_simp) (hq_int rfl rfl hI5) ?_
  clear hA hF hD a c
  intro a W7 c hI6 hD hA hF
  refine mvb (t := 45) hd (.inl rfl) rfl rfl hA hF hD (by omega) (by omega) ?_
  clear hA hF hD a hI5
  intro a hD hA hF
  refine cyc (m := 45) (d := fun a => a.defers = []) hd (SameI mem w b1 b2 e1 e2) ⟨rfl, rfl, rfl, rfl, rfl, rfl, rfl, rfl, rfl, rfl, rfl, rfl, rfl, rfl, rfl, rfl, rfl, rfl⟩ hA hF hD hI6 (by omega) (by omega) (p1 := ⟨b1, 6, none⟩) (p2 := ⟨b2, 6, none⟩) (x := .int .i64 e1.f.base) (y := .int .i64 e2.f.base) (by go_simp) (by go_simp) (by have q := (blk_cell hI6.h1 6).trans (show _ = some (.int .i64 e1.f.base) from rfl); go_simp) (by have q := (blk_cell hI6.h2 6).trans (show _ = some (.int .i64 e2.f.base) from rfl); go_simp) (hq_int rfl rfl hI6) ?_
  clear hA hF hD a c
  intro a W8 c hI7 hD hA hF
  refine mvb (t := 52) hd (.inl rfl) rfl rfl hA hF hD (by omega) (by omega) ?_
  clear hA hF hD a hI6
  intro a hD hA hF
  refine cyc (m := 52) (d := fun a => a.defers = []) hd (SameI mem w b1 b2 e1 e2) ⟨rfl, rfl, rfl, rfl, rfl, rfl, rfl, rfl, rfl, rfl, rfl, rfl, rfl, rfl, rfl, rfl, rfl, rfl⟩ hA hF hD hI7 (by omega) (by omega) (p1 := ⟨b1, 7, none⟩) (p2 := ⟨b2, 7, none⟩) (x := .string e1.f.title) (y := .string e2.f.title) (by go_simp) (by go_simp) (by have q := (blk_cell hI7.h1 7).trans (show _ = some (.string e1.f.title) from rfl); go_simp) (by have q := (blk_cell hI7.h2 7).trans (show _ = some (.string e2.f.title) from rfl); go_simp) (hq_str rfl rfl hI7) ?_
  clear hA hF hD a c
  intro a W9 c hI8 hD hA hF
  refine mvb (t := 59) hd (.inl rfl) rfl rfl hA hF hD (by omega) (by omega) ?_
  clear hA hF hD a hI7
  intro a hD hA hF
  refine cyc (m := 59) (d := fun a => a.defers = []) hd (SameI mem w b1 b2 e1 e2) ⟨rfl, rfl, rfl, rfl, rfl, rfl, rfl, rfl, rfl, rfl, rfl, rfl, rfl, rfl, rfl, rfl, rfl, rfl⟩ hA hF hD hI8 (by omega) (by omega) (p1 := ⟨b1, 8, none⟩) (p2 := ⟨b2, 8, none⟩) (x := .string e1.f.author) (y := .string e2.f.author) (by go_simp) (by go_simp) (by have q := (blk_cell hI8.h1 8).trans (show _ = some (.string e1.f.author) from rfl); go_simp) (by have q := (blk_cell hI8.h2 8).trans (show _ = some (.string e2.f.author) from rfl); go_simp) (hq_str rfl rfl hI8) ?_
  clear hA hF hD a c
  intro a W10 c hI9 hD hA hF
  refine mvb (t := 66) hd (.inl rfl) rfl rfl hA hF hD (by omega) (by omega) ?_
  clear hA hF hD a hI8
  intro a hD hA hF
  refine cyc (m := 66) (d := fun a => a.defers = []) hd (SameI mem w b1 b2 e1 e2) ⟨rfl, rfl, rfl, rfl, rfl, rfl, rfl, rfl, rfl, rfl, rfl, rfl, rfl, rfl, rfl, rfl, rfl, rfl⟩ hA hF hD hI9 (by omega) (by omega) (p1 := ⟨b1, 9, none⟩) (p2 := ⟨b2, 9, none⟩) (x := e1.tv) (y := e2.tv) (by go_simp) (by go_simp) (by have q := (blk_cell hI9.h1 9).trans (show _ = some e1.tv from rfl); go_simp) (by have q := (blk_cell hI9.h2 9).trans (show _ = some e2.tv from rfl); go_simp) (hq_call rfl rfl (fun x y w => by go_simp) ((HT.out _ hI9.see).mono fun e w' h => ⟨h.1, hI9.below h.2⟩)) ?_
  clear hA hF hD a c
  intro a W11 c hI10 hD hA hF
  refine mvb (t := 73) hd (.inl rfl) rfl rfl hA hF hD (by omega) (by omega) ?_
  clear hA hF hD a hI9
  intro a hD hA hF
  refine cyc (m := 73) (d := fun a => a.defers = []) hd (SameI mem w b1 b2 e1 e2) ⟨rfl, rfl, rfl, rfl, rfl, rfl, rfl, rfl, rfl, rfl, rfl, rfl, rfl, rfl, rfl, rfl, rfl, rfl⟩ hA hF hD hI10 (by omega) (by omega) (p1 := ⟨b1, 10, none⟩) (p2 := ⟨b2, 10, none⟩) (x := e1.bv) (y := e2.bv) (by go_simp) (by go_simp) (by have q := (blk_cell hI10.h1 10).trans (show _ = some e1.bv from rfl); go_simp) (by have q := (blk_cell hI10.h2 10).trans (show _ = some e2.bv from rfl); go_simp) (hq_call rfl rfl (fun x y w => by go_simp) ((HL.out _ hI10.see).mono fun e w' h => ⟨h.1, hI10.below h.2⟩)) ?_
  clear hA hF hD a c
  intro a W12 c hI11 hD hA hF
  refine mvb (t := 80) hd (.inl rfl) rfl rfl hA hF hD (by omega) (by omega) ?_
  clear hA hF hD a hI10
  intro a hD hA hF
  refine cyc (m := 80) (d := fun a => a.defers = []) hd (SameI mem w b1 b2 e1 e2) ⟨rfl, rfl, rfl, rfl, rfl, rfl, rfl, rfl, rfl, rfl, rfl, rfl, rfl, rfl, rfl, rfl, rfl, rfl⟩ hA hF hD hI11 (by omega) (by omega) (p1 := ⟨b1, 11, none⟩) (p2 := ⟨b2, 11, none⟩) (x := .agg (labCells e1.f.lab e1.av)) (y := .agg (labCells e2.f.lab e2.av)) (by go_simp) (by go_simp) (by have q := (blk_cell hI11.h1 11).trans (show _ = some (.int .i64 e1.f.lab.till) from rfl); have q2 := (blk_cell hI11.h1 12).trans (show _ = some e1.av from rfl); have q3 := (blk_cell hI11.h1 13).trans (show _ = some (.int .i64 e1.f.lab.appr) from rfl); have q4 := (blk_cell hI11.h1 14).trans (show _ = some (.int .i64 e1.f.lab.denied) from rfl); go_simp) (by have q := (blk_cell hI11.h2 11).trans (show _ = some (.int .i64 e2.f.lab.till) from rfl); have q2 := (blk_cell hI11.h2 12).trans (show _ = some e2.av from rfl); have q3 := (blk_cell hI11.h2 13).trans (show _ = some (.int .i64 e2.f.lab.appr) from rfl); have q4 := (blk_cell hI11.h2 14).trans (show _ = some (.int .i64 e2.f.lab.denied) from rfl); go_simp) (hq_call rfl rfl (fun x y w => by go_simp) ((HM.out _ hI11.see).mono fun e w' h => ⟨h.1, hI11.below h.2⟩)) ?_
  clear hA hF hD a c
  intro a W13 c hI12 hD hA hF
  refine mvb (t := 87) hd (.inl rfl) rfl rfl hA hF hD (by omega) (by omega) ?_
  clear hA hF hD a hI11
  intro a hD hA hF
  refine cyc (m := 87) (d := fun a => a.defers = []) hd (SameI mem w b1 b2 e1 e2) ⟨rfl, rfl, rfl, rfl, rfl, rfl, rfl, rfl, rfl, rfl, rfl, rfl, rfl, rfl, rfl, rfl, rfl, rfl⟩ hA hF hD hI12 (by omega) (by omega) (p1 := ⟨b1, 15, none⟩) (p2 := ⟨b2, 15, none⟩) (x := .int .i64 e1.f.editor) (y := .int .i64 e2.f.editor) (by go_simp) (by go_simp) (by have q := (blk_cell hI12.h1 15).trans (show _ = some (.int .i64 e1.f.editor) from rfl); go_simp) (by have q := (blk_cell hI12.h2 15).trans (show _ = some (.int .i64 e2.f.editor) from rfl); go_simp) (hq_int rfl rfl hI12) ?_
  clear hA hF hD a c
  intro a W14 c hI13 hD hA hF
  refine mvb (t := 94) hd (.inl rfl) rfl rfl hA hF hD (by omega) (by omega) ?_
  clear hA hF hD a hI12
  intro a hD hA hF
  refine cyc (m := 94) (d := fun a => a.defers = []) hd (SameI mem w b1 b2 e1 e2) ⟨rfl, rfl, rfl, rfl, rfl, rfl, rfl, rfl, rfl, rfl, rfl, rfl, rfl, rfl, rfl, rfl, rfl, rfl⟩ hA hF hD hI13 (by omega) (by omega) (p1 := ⟨b1, 16, none⟩) (p2 := ⟨b2, 16, none⟩) (x := .int .i64 e1.f.block) (y := .int .i64 e2.f.block) (by go_simp) (by go_simp) (by have q := (blk_cell hI13.h1 16).trans (show _ = some (.int .i64 e1.f.block) from rfl); go_simp) (by have q := (blk_cell hI13.h2 16).trans (show _ = some (.int .i64 e2.f.block) from rfl); go_simp) (hq_int rfl rfl hI13) ?_
  clear hA hF hD a c
  intro a W15 c hI14 hD hA hF
  refine mvb (t := 101) hd (.inl rfl) rfl rfl hA hF hD (by omega) (by omega) ?_
  clear hA hF hD a hI13
  intro a hD hA hF
  refine cyc (m := 101) (d := fun a => a.defers = []) hd (SameI mem w b1 b2 e1 e2) ⟨rfl, rfl, rfl, rfl, rfl, rfl, rfl, rfl, rfl, rfl, rfl, rfl, rfl, rfl, rfl, rfl, rfl, rfl⟩ hA hF hD hI14 (by omega) (by omega) (p1 := ⟨b1, 17, none⟩) (p2 := ⟨b2, 17, none⟩) (x := .int .i64 e1.f.sentence) (y := .int .i64 e2.f.sentence) (by go_simp) (by go_simp) (by have q := (blk_cell hI14.h1 17).trans (show _ = some (.int .i64 e1.f.sentence) from rfl); go_simp) (by have q := (blk_cell hI14.h2 17).trans (show _ = some (.int .i64 e2.f.sentence) from rfl); go_simp) (hq_int rfl rfl hI14) ?_
  clear hA hF hD a c
  intro a W16 c hI15 hD hA hF
  refine mvb (t := 108) hd (.inl rfl) rfl rfl hA hF hD (by omega) (by omega) ?_
  clear hA hF hD a hI14
  intro a hD hA hF
  refine cyc (m := 108) (d := fun a => a.defers = []) hd (SameI mem w b1 b2 e1 e2) ⟨rfl, rfl, rfl, rfl, rfl, rfl, rfl, rfl, rfl, rfl, rfl, rfl, rfl, rfl, rfl, rfl, rfl, rfl⟩ hA hF hD hI15 (by omega) (by omega) (p1 := ⟨b1, 18, none⟩) (p2 := ⟨b2, 18, none⟩) (x := .string e1.f.text) (y := .string e2.f.text) (by go_simp) (by go_simp) (by have q := (blk_cell hI15.h1 18).trans (show _ = some (.string e1.f.text) from rfl); go_simp) (by have q := (blk_cell hI15.h2 18).trans (show _ = some (.string e2.f.text) from rfl); go_simp) (hq_str rfl rfl hI15) ?_
  clear hA hF hD a c
  intro a W17 c hI16 hD hA hF
  refine mvb (t := 115) hd (.inl rfl) rfl rfl hA hF hD (by omega) (by omega) ?_
  clear hA hF hD a hI15
  intro a hD hA hF
  refine cyc (m := 115) (d := fun a => a.defers = []) hd (SameI mem w b1 b2 e1 e2) ⟨rfl, rfl, rfl, rfl, rfl, rfl, rfl, rfl, rfl, rfl, rfl, rfl, rfl, rfl, rfl, rfl, rfl, rfl⟩ hA hF hD hI16 (by omega) (by omega) (p1 := ⟨b1, 19, none⟩) (p2 := ⟨b2, 19, none⟩) (x := .string e1.f.name) (y := .string e2.f.name) (by go_simp) (by go_simp) (by have q := (blk_cell hI16.h1 19).trans (show _ = some (.string e1.f.name) from rfl); go_simp) (by have q := (blk_cell hI16.h2 19).trans (show _ = some (.string e2.f.name) from rfl); go_simp) (hq_str rfl rfl hI16) ?_
  clear hA hF hD a c
  intro a W18 c hI17 hD hA hF
  refine mvb (t := 122) hd (.inl rfl) rfl rfl hA hF hD (by omega) (by omega) ?_
  clear hA hF hD a hI16
  intro a hD hA hF
  refine cyc (m := 122) (d := fun a => a.defers = []) hd (SameI mem w b1 b2 e1 e2) ⟨rfl, rfl, rfl, rfl, rfl, rfl, rfl, rfl, rfl, rfl, rfl, rfl, rfl, rfl, rfl, rfl, rfl, rfl⟩ hA hF hD hI17 (by omega) (by omega) (p1 := ⟨b1, 20, none⟩) (p2 := ⟨b2, 20, none⟩) (x := .int .i64 e1.f.partner) (y := .int .i64 e2.f.partner) (by go_simp) (by go_simp) (by have q := (blk_cell hI17.h1 20).trans (show _ = some (.int .i64 e1.f.partner) from rfl); go_simp) (by have q := (blk_cell hI17.h2 20).trans (show _ = some (.int .i64 e2.f.partner) from rfl); go_simp) (hq_int rfl rfl hI17) ?_
  clear hA hF hD a c
  intro a W19 c hI18 hD hA hF
  refine mvb (t := 129) hd (.inl rfl) rfl rfl hA hF hD (by omega) (by omega) ?_
  clear hA hF hD a hI17
  intro a hD hA hF
  refine cyc (m := 129) (d := fun a => a.defers = []) hd (SameI mem w b1 b2 e1 e2) ⟨rfl, rfl, rfl, rfl, rfl, rfl, rfl, rfl, rfl, rfl, rfl, rfl, rfl, rfl, rfl, rfl, rfl, rfl⟩ hA hF hD hI18 (by omega) (by omega) (p1 := ⟨b1, 21, none⟩) (p2 := ⟨b2, 21, none⟩) (x := .int .i64 e1.f.cls) (y := .int .i64 e2.f.cls) (by go_simp) (by go_simp) (by have q := (blk_cell hI18.h1 21).trans (show _ = some (.int .i64 e1.f.cls) from rfl); go_simp) (by have q := (blk_cell hI18.h2 21).trans (show _ = some (.int .i64 e2.f.cls) from rfl); go_simp) (hq_int rfl rfl hI18) ?_
  clear hA hF hD a c
  intro a W20 c hI19 hD hA hF
  refine mvb (t := 136) hd (.inl rfl) rfl rfl hA hF hD (by omega) (by omega) ?_
  clear hA hF hD a hI18
  intro a hD hA hF
  refine cyc (m := 136) (d := fun a => a.defers = []) hd (SameI mem w b1 b2 e1 e2) ⟨rfl, rfl, rfl, rfl, rfl, rfl, rfl, rfl, rfl, rfl, rfl, rfl, rfl, rfl, rfl, rfl, rfl, rfl⟩ hA hF hD hI19 (by omega) (by omega) (p1 := ⟨b1, 22, none⟩) (p2 := ⟨b2, 22, none⟩) (x := .int .i64 e1.f.till) (y := .int .i64 e2.f.till) (by go_simp) (by go_simp) (by have q := (blk_cell hI19.h1 22).trans (show _ = some (.int .i64 e1.f.till) from rfl); go_simp) (by have q := (blk_cell hI19.h2 22).trans (show _ = some (.int .i64 e2.f.till) from rfl); go_simp) (hq_int rfl rfl hI19) ?_
  clear hA hF hD a c
  intro a W21 c hI20 hD hA hF
  refine mvb (t := 4) hd (.inr rfl) rfl rfl hA hF hD (by omega) (by omega) ?_
  clear hA hF hD a hI19
  intro a hD hA hF
  refine hK0 _ _ ?_
  refine wp_ret ?_
  have h4 : a.tmps[4]? = some (.bool c) := hA
  refine bodyPost_ret (v := .bool c) (by simp [results, Tryz.results67, h4]) hD ?_
  exact ⟨_, rfl, trivial, hI20.bel⟩
end Go.Proofs.YtgbihmafmmeicaaGreatDoor
/-
  WHAT IS PROVED HERE: the reference's Same at two equal facts, SameList at two equal lists: true. No condition but that the facts lie in memory.
-/
namespace Go.Proofs.YtgbihmafmmeicaaGreatDoor
open Go.RowKit Mg Go.Shelf

set_option maxRecDepth 100000 in
set_option maxHeartbeats 8000000 in
theorem rsame_any {mem : Addr → Option Value} (e1 e2 : FctE) (h1 : e1.ok mem) (h2 : e2.ok mem) (he : e1.f = e2.f) (w : World) (hs : Sees mem w) :
    Calls Tryz.prog 41 #[.agg e1.cells, .agg e2.cells] w fun e w' => e = .returned (.bool true) ∧ Below w.heap.size w w' := by
  obtain ⟨f, ta, tc, ba, bc, aa, ac⟩ := e1
  obtain ⟨f', ta2, tc2, ba2, bc2, aa2, ac2⟩ := e2
  obtain rfl : f = f' := he
  have hp : Parts mem f (.slice ta f.topics.length tc) (.slice ba f.blocks.length bc) (.slice aa f.lab.after.length ac) := h1.parts
  have hq : Parts mem f (.slice ta2 f.topics.length tc2) (.slice ba2 f.blocks.length bc2) (.slice aa2 f.lab.after.length ac2) := h2.parts
  have HS := Lib.hid hs
  obtain ⟨ta', tc', tb, tq, et, htc, htm, hta, hts, htt⟩ := hp.1.open_ (w := w) hs
  obtain ⟨ta2', tc2', tb2, tq2, et2, htc2, htm2, hta2, hts2, htt2⟩ := hq.1.open_ (w := w) hs
  injection et with et1 et2' et3
  subst et1 et3
  injection et2 with eu1 eu2 eu3
  subst eu1 eu3
  have H2 : Hid (∀ W, Sees mem W → Calls Tryz.prog 56 #[.slice ba f.blocks.length bc, .slice ba2 f.blocks.length bc2] W fun e w' => e = .returned (.bool true) ∧ Below W.heap.size W w') := Lib.hid fun W hW => by
    have h := sameListR_any hp.2.1 hq.2.1 W hW
    rwa [decide_eq_true rfl] at h
  have H3 : Hid (∀ W, Sees mem W → Calls Tryz.prog 26 #[.agg (labCells f.lab (.slice aa f.lab.after.length ac)), .agg (labCells f.lab (.slice aa2 f.lab.after.length ac2))] W fun e w' => e = .returned (.bool true) ∧ Below W.heap.size W w') := Lib.hid fun W hW => by
    have h := labSameR_any f.lab f.lab _ _ hp.2.2 hq.2.2 W hW
    rwa [decide_eq_true rfl] at h
  have HTA := Lib.hid (And.intro hta hta2)
  have HTT := Lib.hid (And.intro htt htt2)
  have htl : (f.topics.length : Int) ≤ 9223372036854775807 := by unfold maxLen at htm; omega
  have HN1 := Lib.hid (heap_new1 w (.cells (⟨f, ta, tc, ba, bc, aa, ac⟩ : FctE).cells 45) (.cells (⟨f, ta2, tc2, ba2, bc2, aa2, ac2⟩ : FctE).cells 45))
  have HN2 := Lib.hid (heap_new2 w (.cells (⟨f, ta, tc, ba, bc, aa, ac⟩ : FctE).cells 45) (.cells (⟨f, ta2, tc2, ba2, bc2, aa2, ac2⟩ : FctE).cells 45))
  have HB : Hid (Below w.heap.size w ((w.alloc (.cells (⟨f, ta, tc, ba, bc, aa, ac⟩ : FctE).cells 45)).alloc (.cells (⟨f, ta2, tc2, ba2, bc2, aa2, ac2⟩ : FctE).cells 45))) := Lib.hid (((Below.refl _ w).alloc (Nat.le_refl _) _).alloc (by simp) _)
  clear hp hq hs h1 h2 hta hta2 htt htt2 htc htm htc2 htm2 hts hts2 et2' eu2
  go_enter Tryz.func41, Tryz.ntmps41
  go_upto_region 1 with fail
  generalize hW1 : World.alloc (World.alloc w _) _ = W1 at *
  clear hW1
  have d9 : W1.cell? ⟨w.heap.size, 9, none⟩ = some (.slice ta f.topics.length tc) := blk_cell HN1.out 9
  have k9 : W1.cell? ⟨w.heap.size + 1, 9, none⟩ = some (.slice ta2 f.topics.length tc2) := blk_cell HN2.out 9
  go_wp2_with fail
  clear d9 k9
  go_loopw [5] (fun i wr => ∃ k : Nat, k ≤ f.topics.length ∧ i = .int .i64 k ∧ Below W1.heap.size W1 wr) (fun i _ => f.topics.length - (intOf i).toNat)
  case atStart => exact ⟨0, Nat.zero_le _, rfl, Below.refl _ _⟩
  case round =>
    obtain ⟨k, hk, rfl, hb⟩ := hrel
    obtain ⟨wo, rfl⟩ : ∃ wo, wo = wr := ⟨_, rfl⟩
    have hg1 := (hb.block _ (Go.Proofs.YtgbihmafmmeicaaGreatDoor.hlt HN1.out)).trans HN1.out
    have hg2 := (hb.block _ (Go.Proofs.YtgbihmafmmeicaaGreatDoor.hlt HN2.out)).trans HN2.out
    have HBW := Lib.hid hb
    have HG := Lib.hid (And.intro hg1 hg2)
    have d9 : wo.cell? ⟨w.heap.size, 9, none⟩ = some (.slice ta f.topics.length tc) := blk_cell hg1 9
    have k9 : wo.cell? ⟨w.heap.size + 1, 9, none⟩ = some (.slice ta2 f.topics.length tc2) := blk_cell hg2 9
    by_cases hlt : k < f.topics.length
    · obtain rfl := HTA.out.1 (by omega)
      obtain rfl := HTA.out.2 (by omega)
      have hbw := HB.out.trans (hb.mono HB.out.size)
      have c1 := (hbw.cell (World.block_lt_of_cell? _ _ (HTT.out.1 k hlt))).trans (HTT.out.1 k hlt)
      have c2 := (hbw.cell (World.block_lt_of_cell? _ _ (HTT.out.2 k hlt))).trans (HTT.out.2 k hlt)
      have hkl : (k : Int) < f.topics.length := by omega
      generalize f.topics[k] = s at c1 c2
      have HSS : Hid (wo.drew.cell? ⟨w.heap.size, 9, none⟩ = some (.slice (some ⟨tb, tq, none⟩) f.topics.length tc) ∧ wo.drew.cell? ⟨w.heap.size + 1, 9, none⟩ = some (.slice (some ⟨tb2, tq2, none⟩) f.topics.length tc2) ∧ wo.drew.cell? ⟨tb, tq + k, none⟩ = some (.string s) ∧ wo.drew.cell? ⟨tb2, tq2 + k, none⟩ = some (.string s)) := Lib.hid ⟨d9, k9, c1, c2⟩
      clear hb hg1 hg2 hbw c1 c2
      go_upto_region 6 with fail
      clear d9 k9
      refine wp_mix [mT, mT, mT, mT, mT, mT, mT, mT, mT, mT, mF] 1000 (fun W2 => W2.cell? ⟨w.heap.size, 9, none⟩ = some (.slice (some ⟨tb, tq, none⟩) f.topics.length tc) ∧ W2.cell? ⟨w.heap.size + 1, 9, none⟩ = some (.slice (some ⟨tb2, tq2, none⟩) f.topics.length tc2) ∧ W2.cell? ⟨tb, tq + k, none⟩ = some (.string s) ∧ W2.cell? ⟨tb2, tq2 + k, none⟩ = some (.string s)) (by kernel_rfl) (by kernel_rfl) HSS.out ?_
      refine wpMix_take (.pointer (some ⟨w.heap.size, 9, none⟩)) (fun _ _ _ _ h => h) HSS.out (by rfl) (fun W2 hW => by go_simp) ?_
      simp only [Act.put, List.setIfInBounds_toArray, List.set_cons_zero, List.set_cons_succ]
      refine wpMix_take (.slice (some ⟨tb, tq, none⟩) f.topics.length tc) (fun _ _ _ _ h => h) HSS.out (by rfl) (fun W2 hW => by have q0 := hW.1; go_simp) ?_
      simp only [Act.put, List.setIfInBounds_toArray, List.set_cons_zero, List.set_cons_succ]
      refine wpMix_take (.int .i64 k) (fun _ _ _ _ h => h) HSS.out (by rfl) (fun W2 hW => by go_simp) ?_
      simp only [Act.put, List.setIfInBounds_toArray, List.set_cons_zero, List.set_cons_succ]
      refine wpMix_take (.pointer (some ⟨tb, tq + k, none⟩)) (fun _ _ _ _ h => h) HSS.out (by rfl) (fun W2 hW => by go_simp) ?_
      simp only [Act.put, List.setIfInBounds_toArray, List.set_cons_zero, List.set_cons_succ]
      refine wpMix_take (.string s) (fun _ _ _ _ h => h) HSS.out (by rfl) (fun W2 hW => by have q0 := hW.2.2.1; go_simp) ?_
      simp only [Act.put, List.setIfInBounds_toArray, List.set_cons_zero, List.set_cons_succ]
      refine wpMix_take (.pointer (some ⟨w.heap.size + 1, 9, none⟩)) (fun _ _ _ _ h => h) HSS.out (by rfl) (fun W2 hW => by go_simp) ?_
      simp only [Act.put, List.setIfInBounds_toArray, List.set_cons_zero, List.set_cons_succ]
      refine wpMix_take (.slice (some ⟨tb2, tq2, none⟩) f.topics.length tc2) (fun _ _ _ _ h => h) HSS.out (by rfl) (fun W2 hW => by have q0 := hW.2.1; go_simp) ?_
      simp only [Act.put, List.setIfInBounds_toArray, List.set_cons_zero, List.set_cons_succ]
      refine wpMix_take (.int .i64 k) (fun _ _ _ _ h => h) HSS.out (by rfl) (fun W2 hW => by go_simp) ?_
      simp only [Act.put, List.setIfInBounds_toArray, List.set_cons_zero, List.set_cons_succ]
      refine wpMix_take (.pointer (some ⟨tb2, tq2 + k, none⟩)) (fun _ _ _ _ h => h) HSS.out (by rfl) (fun W2 hW => by go_simp) ?_
      simp only [Act.put, List.setIfInBounds_toArray, List.set_cons_zero, List.set_cons_succ]
      refine wpMix_take (.string s) (fun _ _ _ _ h => h) HSS.out (by rfl) (fun W2 hW => by have q0 := hW.2.2.2; go_simp) ?_
      simp only [Act.put, List.setIfInBounds_toArray, List.set_cons_zero, List.set_cons_succ]
      refine wpMix_step (fun K hK => ?_); go_simp; refine hK _ _ HSS.out ?_; clear hK K
      refine wpMix_nil ?_
      go_wp2_with fail
      go_roundw
      case rel => exact ⟨k + 1, by omega, by go_num, HBW.out.drew⟩
      case measure => simp [intOf]; omega
    · have HBw := Lib.hid (HB.out.trans (hb.mono HB.out.size))
      clear hb hg1 hg2
      go_upto_region 8 with fail
      have d10 : wo.cell? ⟨w.heap.size, 10, none⟩ = some (.slice ba f.blocks.length bc) := blk_cell HG.out.1 10
      have k10 : wo.cell? ⟨w.heap.size + 1, 10, none⟩ = some (.slice ba2 f.blocks.length bc2) := blk_cell HG.out.2 10
      clear d9 k9 hk hlt
      go_wp2_with fail
      refine (H2.out _ (HS.out.bel HBw.out)).mono ?_
      rintro e w2 ⟨rfl, hb⟩
      clear d10 k10
      have hg1 := (hb.block _ (Go.Proofs.YtgbihmafmmeicaaGreatDoor.hlt HG.out.1)).trans HG.out.1
      have hg2 := (hb.block _ (Go.Proofs.YtgbihmafmmeicaaGreatDoor.hlt HG.out.2)).trans HG.out.2
      have HG2 := Lib.hid (And.intro hg1 hg2)
      have HB2 := Lib.hid (HBw.out.trans (hb.mono HBw.out.size))
      have d11 : w2.cell? ⟨w.heap.size, 11, none⟩ = some (.int .i64 f.lab.till) := blk_cell hg1 11
      have d12 : w2.cell? ⟨w.heap.size, 12, none⟩ = some (.slice aa f.lab.after.length ac) := blk_cell hg1 12
      have d13 : w2.cell? ⟨w.heap.size, 13, none⟩ = some (.int .i64 f.lab.appr) := blk_cell hg1 13
      have d14 : w2.cell? ⟨w.heap.size, 14, none⟩ = some (.int .i64 f.lab.denied) := blk_cell hg1 14
      have k11 : w2.cell? ⟨w.heap.size + 1, 11, none⟩ = some (.int .i64 f.lab.till) := blk_cell hg2 11
      have k12 : w2.cell? ⟨w.heap.size + 1, 12, none⟩ = some (.slice aa2 f.lab.after.length ac2) := blk_cell hg2 12
      have k13 : w2.cell? ⟨w.heap.size + 1, 13, none⟩ = some (.int .i64 f.lab.appr) := blk_cell hg2 13
      have k14 : w2.cell? ⟨w.heap.size + 1, 14, none⟩ = some (.int .i64 f.lab.denied) := blk_cell hg2 14
      clear hb hg1 hg2 HG HBw
      go_wp2_with fail
      refine (H3.out _ (HS.out.bel HB2.out)).mono ?_
      rintro e w3 ⟨rfl, hb⟩
      clear d11 d12 d13 d14 k11 k12 k13 k14
      have hg1 := (hb.block _ (Go.Proofs.YtgbihmafmmeicaaGreatDoor.hlt HG2.out.1)).trans HG2.out.1
      have hg2 := (hb.block _ (Go.Proofs.YtgbihmafmmeicaaGreatDoor.hlt HG2.out.2)).trans HG2.out.2
      have HB3 := Lib.hid (HB2.out.trans (hb.mono HB2.out.size))
      have d0 : w3.cell? ⟨w.heap.size, 0, none⟩ = some (.int .i64 f.n) := blk_cell hg1 0
      have k0 : w3.cell? ⟨w.heap.size + 1, 0, none⟩ = some (.int .i64 f.n) := blk_cell hg2 0
      have d1 : w3.cell? ⟨w.heap.size, 1, none⟩ = some (.int .i64 f.time) := blk_cell hg1 1
      have k1 : w3.cell? ⟨w.heap.size + 1, 1, none⟩ = some (.int .i64 f.time) := blk_cell hg2 1
      have d2 : w3.cell? ⟨w.heap.size, 2, none⟩ = some (.int .i64 f.kind) := blk_cell hg1 2
      have k2 : w3.cell? ⟨w.heap.size + 1, 2, none⟩ = some (.int .i64 f.kind) := blk_cell hg2 2
      have d3 : w3.cell? ⟨w.heap.size, 3, none⟩ = some (.int .i64 f.story) := blk_cell hg1 3
      have k3 : w3.cell? ⟨w.heap.size + 1, 3, none⟩ = some (.int .i64 f.story) := blk_cell hg2 3
      have d4 : w3.cell? ⟨w.heap.size, 4, none⟩ = some (.string f.lang) := blk_cell hg1 4
      have k4 : w3.cell? ⟨w.heap.size + 1, 4, none⟩ = some (.string f.lang) := blk_cell hg2 4
      have d5 : w3.cell? ⟨w.heap.size, 5, none⟩ = some (.int .i64 f.rev) := blk_cell hg1 5
      have k5 : w3.cell? ⟨w.heap.size + 1, 5, none⟩ = some (.int .i64 f.rev) := blk_cell hg2 5
      have d6 : w3.cell? ⟨w.heap.size, 6, none⟩ = some (.int .i64 f.base) := blk_cell hg1 6
      have k6 : w3.cell? ⟨w.heap.size + 1, 6, none⟩ = some (.int .i64 f.base) := blk_cell hg2 6
      have d7 : w3.cell? ⟨w.heap.size, 7, none⟩ = some (.string f.title) := blk_cell hg1 7
      have k7 : w3.cell? ⟨w.heap.size + 1, 7, none⟩ = some (.string f.title) := blk_cell hg2 7
      have d8 : w3.cell? ⟨w.heap.size, 8, none⟩ = some (.string f.author) := blk_cell hg1 8
      have k8 : w3.cell? ⟨w.heap.size + 1, 8, none⟩ = some (.string f.author) := blk_cell hg2 8
      have d15 : w3.cell? ⟨w.heap.size, 15, none⟩ = some (.int .i64 f.editor) := blk_cell hg1 15
      have k15 : w3.cell? ⟨w.heap.size + 1, 15, none⟩ = some (.int .i64 f.editor) := blk_cell hg2 15
      have d16 : w3.cell? ⟨w.heap.size, 16, none⟩ = some (.int .i64 f.block) := blk_cell hg1 16
      have k16 : w3.cell? ⟨w.heap.size + 1, 16, none⟩ = some (.int .i64 f.block) := blk_cell hg2 16
      have d17 : w3.cell? ⟨w.heap.size, 17, none⟩ = some (.int .i64 f.sentence) := blk_cell hg1 17
      have k17 : w3.cell? ⟨w.heap.size + 1, 17, none⟩ = some (.int .i64 f.sentence) := blk_cell hg2 17
      have d18 : w3.cell? ⟨w.heap.size, 18, none⟩ = some (.string f.text) := blk_cell hg1 18
      have k18 : w3.cell? ⟨w.heap.size + 1, 18, none⟩ = some (.string f.text) := blk_cell hg2 18
      have d19 : w3.cell? ⟨w.heap.size, 19, none⟩ = some (.string f.name) := blk_cell hg1 19
      have k19 : w3.cell? ⟨w.heap.size + 1, 19, none⟩ = some (.string f.name) := blk_cell hg2 19
      have d20 : w3.cell? ⟨w.heap.size, 20, none⟩ = some (.int .i64 f.partner) := blk_cell hg1 20
      have k20 : w3.cell? ⟨w.heap.size + 1, 20, none⟩ = some (.int .i64 f.partner) := blk_cell hg2 20
      have d21 : w3.cell? ⟨w.heap.size, 21, none⟩ = some (.int .i64 f.cls) := blk_cell hg1 21
      have k21 : w3.cell? ⟨w.heap.size + 1, 21, none⟩ = some (.int .i64 f.cls) := blk_cell hg2 21
      have d22 : w3.cell? ⟨w.heap.size, 22, none⟩ = some (.int .i64 f.till) := blk_cell hg1 22
      have k22 : w3.cell? ⟨w.heap.size + 1, 22, none⟩ = some (.int .i64 f.till) := blk_cell hg2 22
      clear hb hg1 hg2 HG2 HB2 H2 H3 HS HB HTA HTT HN1 HN2
      go_wp2_with fail
      go_ret
      exact ⟨rfl, HB3.out⟩
set_option maxRecDepth 100000 in
set_option maxHeartbeats 2000000 in
theorem rsameList_any {mem : Addr → Option Value} (v1 v2 : Value) (es1 es2 : List FctE) (h1 : EsM mem v1 es1) (h2 : EsM mem v2 es2) (he : es1.map FctE.f = es2.map FctE.f) (w : World) (hs : Sees mem w) :
    Calls Tryz.prog 23 #[v1, v2] w fun e w' => e = .returned (.bool true) ∧ Below w.heap.size w w' := by
  obtain ⟨a1, c1, b1, o1, rfl, hm1, ha1, he1⟩ := h1.open_
  obtain ⟨a2, c2, b2, o2, rfl, hm2, ha2, he2⟩ := h2.open_
  unfold maxLen at hm1 hm2
  have hlen : es1.length = es2.length := by have := congrArg List.length he; rwa [List.length_map, List.length_map] at this
  have HLEN := Lib.hid hlen
  have HS := Lib.hid hs
  have HA1 := Lib.hid ha1
  have HA2 := Lib.hid ha2
  have HE1 := Lib.hid he1
  have HE2 := Lib.hid he2
  have HF : Hid (∀ k (h1 : k < es1.length) (h2 : k < es2.length), es1[k].f = es2[k].f) := Lib.hid (fun k h1 h2 => by
    have e1 : (es1.map FctE.f)[k]? = (es2.map FctE.f)[k]? := by rw [he]
    rw [List.getElem?_map, List.getElem?_map, List.getElem?_eq_getElem h1, List.getElem?_eq_getElem h2] at e1
    simpa using e1)
  have hl1 : (es1.length : Int) ≤ 9223372036854775807 := by omega
  rw [show (Value.slice a2 es2.length c2) = .slice a2 es1.length c2 by rw [hlen]]
  clear hs ha1 ha2 he1 he2 h1 h2 hm1 hm2 hlen he
  go_enter Tryz.func23, Tryz.ntmps23
  go_wp2_with fail
  go_loopw [5] (fun i wr => ∃ k : Nat, k ≤ es1.length ∧ i = .int .i64 k ∧ Below w.heap.size w wr) (fun i _ => es1.length - (intOf i).toNat)
  case atStart => exact ⟨0, Nat.zero_le _, rfl, Below.refl _ _⟩
  case round =>
    obtain ⟨k, hk, rfl, hb⟩ := hrel
    obtain ⟨wo, rfl⟩ : ∃ wo, wo = wr := ⟨_, rfl⟩
    by_cases hlt : k < es1.length
    · obtain rfl := HA1.out (by omega)
      obtain rfl := HA2.out (by have := HLEN.out; omega)
      have hlt2 : k < es2.length := by have := HLEN.out; omega
      obtain ⟨hok1, hat1⟩ := HE1.out k hlt
      obtain ⟨hok2, hat2⟩ := HE2.out k hlt2
      have hsw := HS.out.bel hb
      have HAT1 : Hid (es1[k].at (fun p => wo.cell? p) b1 (o1 + k * 23)) := Lib.hid (fun j u hj => hsw _ _ (hat1 j u hj))
      have HAT2 : Hid (es2[k].at (fun p => wo.cell? p) b2 (o2 + k * 23)) := Lib.hid (fun j u hj => hsw _ _ (hat2 j u hj))
      have HC := Lib.hid (rsame_any es1[k] es2[k] hok1 hok2 (HF.out k hlt hlt2) wo.drew hsw)
      have HB := Lib.hid hb
      clear hok1 hat1 hok2 hat2 hsw hb
      generalize es1[k] = x at *
      generalize es2[k] = y at *
      clear hlt2
      have HSS : Hid (x.at (fun p => wo.drew.cell? p) b1 (o1 + k * 23) ∧ y.at (fun p => wo.drew.cell? p) b2 (o2 + k * 23)) := Lib.hid ⟨HAT1.out, HAT2.out⟩
      go_upto_region 6 with fail
      refine wp_mix [mT, mT, mT, mT, mT, mT, mT, mT, mF, mF] 1000 (fun W2 => x.at (fun p => W2.cell? p) b1 (o1 + k * 23) ∧ y.at (fun p => W2.cell? p) b2 (o2 + k * 23)) (by kernel_rfl) (by kernel_rfl) HSS.out ?_
      refine wpMix_take (.slice (some ⟨b1, o1, none⟩) es1.length c1) (fun _ _ _ _ h => h) HSS.out (by rfl) (fun W2 hW => by go_simp) ?_
      simp only [Act.put, List.setIfInBounds_toArray, List.set_cons_zero, List.set_cons_succ]
      refine wpMix_take (.int .i64 k) (fun _ _ _ _ h => h) HSS.out (by rfl) (fun W2 hW => by go_simp) ?_
      simp only [Act.put, List.setIfInBounds_toArray, List.set_cons_zero, List.set_cons_succ]
      refine wpMix_take (.pointer (some ⟨b1, o1 + k * 23, none⟩)) (fun _ _ _ _ h => h) HSS.out (by rfl) (fun W2 hW => by go_simp) ?_
      simp only [Act.put, List.setIfInBounds_toArray, List.set_cons_zero, List.set_cons_succ]
      refine wpMix_take (.agg x.cells) (fun _ _ _ _ h => h) HSS.out (by rfl) (fun W2 hW => exec_fct_mid _ rfl (by simp [Act.eval]) hW.1) ?_
      simp only [Act.put, List.setIfInBounds_toArray, List.set_cons_zero, List.set_cons_succ]
      refine wpMix_take (.slice (some ⟨b2, o2, none⟩) es1.length c2) (fun _ _ _ _ h => h) HSS.out (by rfl) (fun W2 hW => by go_simp) ?_
      simp only [Act.put, List.setIfInBounds_toArray, List.set_cons_zero, List.set_cons_succ]
      refine wpMix_take (.int .i64 k) (fun _ _ _ _ h => h) HSS.out (by rfl) (fun W2 hW => by go_simp) ?_
      simp only [Act.put, List.setIfInBounds_toArray, List.set_cons_zero, List.set_cons_succ]
      refine wpMix_take (.pointer (some ⟨b2, o2 + k * 23, none⟩)) (fun _ _ _ _ h => h) HSS.out (by rfl) (fun W2 hW => by go_simp) ?_
      simp only [Act.put, List.setIfInBounds_toArray, List.set_cons_zero, List.set_cons_succ]
      refine wpMix_take (.agg y.cells) (fun _ _ _ _ h => h) HSS.out (by rfl) (fun W2 hW => exec_fct_mid _ rfl (by simp [Act.eval]) hW.2) ?_
      simp only [Act.put, List.setIfInBounds_toArray, List.set_cons_zero, List.set_cons_succ]
      refine wpMix_step (fun K hK => ?_)
      go_simp
      refine (HC.out.mono ?_)
      rintro e w3 ⟨rfl, hb3⟩
      dsimp only
      have HB3 : Hid (Below w.heap.size w w3) := Lib.hid (HB.out.drew.trans (hb3.mono HB.out.size))
      have HSS3 : Hid (x.at (fun p => w3.cell? p) b1 (o1 + k * 23) ∧ y.at (fun p => w3.cell? p) b2 (o2 + k * 23)) := Lib.hid ⟨fun j u hj => sees_bel hb3 _ _ (HSS.out.1 j u hj), fun j u hj => sees_bel hb3 _ _ (HSS.out.2 j u hj)⟩
      refine hK _ _ HSS3.out ?_
      clear hK K hb3
      refine wpMix_step (fun K hK => ?_); go_simp; refine hK _ _ HSS3.out ?_; clear hK K
      refine wpMix_nil ?_
      go_wp2_with fail
      go_roundw
      case rel => exact ⟨k + 1, by omega, by go_num, HB3.out⟩
      case measure => simp [intOf]; omega
    · obtain rfl : k = es1.length := by omega
      have HB := Lib.hid hb
      clear hb
      go_wp2_with fail
      go_ret
      exact ⟨rfl, HB.out⟩
end Go.Proofs.YtgbihmafmmeicaaGreatDoor
/-
  WHAT IS PROVED HERE: the walks of the reference's isText, isSource, areTopics. Condition: strings are within Go's.
-/
namespace Go.Proofs.YtgbihmafmmeicaaGreatDoor
open Go.RowKit Mg Go.Shelf

theorem isText5_any (s : ByteArray) (w : World) (hs : s.size ≤ maxLen) : Calls Tryz.prog 60 #[.string s] w fun e w' => e = .returned (.bool (fullOK s)) ∧ w = w' := by
  have c1 := Lib.hid (isTextR_any s w hs)
  by_cases hem : s.data.toList = []
  · have q1 := lang_t s hem
    have HZ : Hid (fullOK s = false) := Lib.hid (by
      unfold fullOK
      have : s.size = 0 := by
        have := congrArg List.length hem
        simpa using this
      rw [this]; rfl)
    clear hem hs
    go_enter Tryz.func60, Tryz.ntmps60
    go_wp2_with fail
    go_ret
    exact ⟨by rw [HZ.out]; rfl, rfl⟩
  · have q1 := lang_f s hem
    have q2 : (!s.toList.isEmpty) = true := by rw [q1]; rfl
    have HZ : Hid (fullOK s = textOK s) := Lib.hid (by
      unfold fullOK
      have : 1 ≤ s.size := by
        rcases Nat.eq_zero_or_pos s.size with h | h
        · exfalso
          apply hem
          apply List.eq_nil_of_length_eq_zero
          simpa using h
        · exact h
      rw [decide_eq_true this]; rfl)
    clear hem hs
    generalize textOK s = q at c1 HZ
    go_enter Tryz.func60, Tryz.ntmps60
    go_wp2_with fail
    refine c1.out.mono ?_
    rintro e w' ⟨rfl, rfl⟩
    cases q
    all_goals
      go_wp2_with fail
      go_ret
      exact ⟨by rw [HZ.out]; rfl, rfl⟩
theorem all_take5 {p : UInt8 → Bool} {l : List UInt8} {k : Nat} (hk : k < l.length) (h : (l.take k).all p = true) : (l.take (k + 1)).all p = p l[k] := by
  rw [List.take_succ_eq_append_getElem hk, List.all_append, h]; simp
theorem all_bad5 {p : UInt8 → Bool} {l : List UInt8} {k : Nat} (hk : k < l.length) (h : p l[k] = false) : l.all p = false := by
  rw [List.all_eq_false]
  exact ⟨l[k], List.getElem_mem hk, by rw [h]; decide⟩
set_option maxHeartbeats 1000000 in
theorem isSource5_any (s : ByteArray) (w : World) (hs : s.size ≤ maxLen) : Calls Tryz.prog 63 #[.string s] w fun e w' => e = .returned (.bool (srcOK s)) ∧ w = w' := by
  unfold maxLen at hs
  have hl : s.data.toList.length = s.size := by simp
  have HL := Lib.hid hl
  clear hl
  go_enter Tryz.func63, Tryz.ntmps63
  go_wp2_with fail
  go_loop [3] (fun i => ∃ k : Nat, k ≤ s.size ∧ i = .int .i64 k ∧ Hid ((s.data.toList.take k).all srcByte = true)) (fun i => s.size - (intOf i).toNat)
  case atStart => exact ⟨0, Nat.zero_le _, rfl, Lib.hid rfl⟩
  case round =>
    obtain ⟨k, hk, rfl, hu⟩ := hrel
    by_cases hlt : k < s.size
    · have hk2 : k < s.data.toList.length := by rw [HL.out]; exact hlt
      have HN := Lib.hid (all_take5 hk2 hu.out)
      have HF := Lib.hid (fun h => all_bad5 (p := srcByte) hk2 h)
      have HE : Hid (s.data.toList[k] = s[k]) := Lib.hid (by simp; rfl)
      have HB : Hid (srcByte s[k] = (decide (s[k].toNat = 10) || (decide (32 ≤ s[k].toNat) && decide (s[k].toNat ≤ 126)))) := Lib.hid rfl
      clear hu
      by_cases h10 : s[k].toNat = 10
      · have HT : Hid ((s.data.toList.take (k + 1)).all srcByte = true) := Lib.hid (by rw [HN.out, HE.out, HB.out, h10]; rfl)
        have b10 : ((s[k].toNat : Nat) : Int) = 10 := by omega
        clear h10
        go_wp2_with fail
        go_round
        case rel => exact ⟨k + 1, by omega, by go_num, HT⟩
        case measure => simp [intOf]; omega
      · have b10 : ((((s[k].toNat : Nat) : Int)) != 10) = true := by simpa using (fun h => h10 (by omega))
        by_cases h32 : s[k].toNat < 32
        · have HSF : Hid (srcOK s = false) := Lib.hid (by unfold srcOK; rw [HF.out (by rw [HE.out, HB.out]; simp; omega)]; simp)
          have b32 : ((s[k].toNat : Nat) : Int) < 32 := by omega
          clear h10 h32
          go_wp2_with fail
          go_ret
          exact ⟨by rw [HSF.out]; rfl, rfl⟩
        · have b32 : ¬ ((s[k].toNat : Nat) : Int) < 32 := by omega
          by_cases h126 : s[k].toNat ≤ 126
          · have HT : Hid ((s.data.toList.take (k + 1)).all srcByte = true) := Lib.hid (by rw [HN.out, HE.out, HB.out]; simp; omega)
            have b126 : ¬ 126 < ((s[k].toNat : Nat) : Int) := by omega
            clear h10 h32 h126
            go_wp2_with fail
            go_round
            case rel => exact ⟨k + 1, by omega, by go_num, HT⟩
            case measure => simp [intOf]; omega
          · have HSF : Hid (srcOK s = false) := Lib.hid (by unfold srcOK; rw [HF.out (by rw [HE.out, HB.out]; simp; omega)]; simp)
            have b126 : 126 < ((s[k].toNat : Nat) : Int) := by omega
            clear h10 h32 h126
            go_wp2_with fail
            go_ret
            exact ⟨by rw [HSF.out]; rfl, rfl⟩
    · obtain rfl : k = s.size := by omega
      have HU : Hid (srcOK s = decide ((s.size : Int) ≤ 1000)) := Lib.hid (by
        have h := hu.out
        rw [← HL.out, List.take_length] at h
        unfold srcOK
        rw [h, Bool.and_true]
        exact decide_eq_decide.2 (by omega))
      clear hu
      by_cases h1 : s.size ≤ 1000
      · have b1 : (s.size : Int) ≤ 1000 := by omega
        have HV : Hid (srcOK s = true) := Lib.hid (by rw [HU.out]; exact decide_eq_true b1)
        clear h1
        go_wp2_with fail
        go_ret
        exact ⟨by rw [HV.out]; rfl, rfl⟩
      · have b1 : ¬ (s.size : Int) ≤ 1000 := by omega
        have HV : Hid (srcOK s = false) := Lib.hid (by rw [HU.out]; exact decide_eq_false b1)
        clear h1
        go_wp2_with fail
        go_ret
        exact ⟨by rw [HV.out]; rfl, rfl⟩
set_option maxRecDepth 10000 in
set_option maxHeartbeats 2000000 in
theorem areTopics5_any {mem : Addr → Option Value} {v : Value} {l : List ByteArray} (h : StrsM mem v l) (w : World) (hs : Sees mem w) :
    Calls Tryz.prog 61 #[v] w fun e w' => e = .returned (.bool (topicsOK l)) ∧ Below w.heap.size w w' := by
  obtain ⟨ao, cap, b, o, rfl, hcap, hm, hao, hsz, hcells⟩ := h.open_ hs
  have HA := Lib.hid hao
  have HC := Lib.hid hcells
  have HZ := Lib.hid (fun j (hj : j < l.length) => hsz l[j] (List.getElem_mem hj))
  have hlen : (l.length : Int) ≤ 9223372036854775807 := by unfold maxLen at hm; omega
  have HSF : Hid (topicsUp l = false → topicsOK l = false) := Lib.hid (fun h => by unfold topicsOK; rw [h, Bool.and_false])
  clear hao hcells hs h hcap hm hsz
  go_enter Tryz.func61, Tryz.ntmps61
  go_wp2_with fail
  go_loopw [3] (fun i wr => ∃ k : Nat, k ≤ l.length ∧ i = .int .i64 k ∧ Hid (topicsUp (l.take k) = true) ∧ Below w.heap.size w wr) (fun i _ => l.length - (intOf i).toNat)
  case atStart => exact ⟨0, Nat.zero_le _, rfl, Lib.hid rfl, Below.refl _ _⟩
  case round =>
    obtain ⟨k, hk, rfl, hu, hb⟩ := hrel
    obtain ⟨wo, rfl⟩ : ∃ wo, wo = wr := ⟨_, rfl⟩
    have HB := Lib.hid hb
    by_cases hlt : k < l.length
    · have c0 := (hb.cell (World.block_lt_of_cell? _ _ (HC.out k hlt))).trans (HC.out k hlt)
      obtain rfl := HA.out (by omega)
      obtain ⟨s1, s2⟩ := topics_step hlt hu.out
      have S1 := Lib.hid s1
      have S2 := Lib.hid s2
      have cn := Lib.hid (isNameR_any l[k] wo (HZ.out k hlt))
      clear s1 s2 hu hb
      cases hq : nameOK l[k] with
      | false =>
        rw [hq] at cn
        have HF := Lib.hid (HSF.out (S2.out (by rw [hq]; rfl)))
        clear hq S1 S2
        generalize l[k] = t at *
        go_wp2_with fail
        refine cn.out.mono ?_
        rintro e w' ⟨rfl, rfl⟩
        go_upto_region 5 with fail
        refine wp_mix [mT, mT, mT, mT, mT, mT, mT, mT, mT, mT, mT, mT, mT, mT, mT, mT, mF, mF] 1000 (fun _ => True) (by kernel_rfl) (by kernel_rfl) trivial ?_
        refine wpMix_take (.bool false) (fun _ _ _ _ h => h) trivial (by rfl) (fun W2 hW => by go_simp) ?_
        simp only [Act.put, List.setIfInBounds_toArray, List.set_cons_zero, List.set_cons_succ]
        refine wpMix_take (.bool true) (fun _ _ _ _ h => h) trivial (by rfl) (fun W2 hW => by go_simp) ?_
        simp only [Act.put, List.setIfInBounds_toArray, List.set_cons_zero, List.set_cons_succ]
        refine wpMix_take (.bool true) (fun _ _ _ _ h => h) trivial (by rfl) (fun W2 hW => by go_simp) ?_
        simp only [Act.put, List.setIfInBounds_toArray, List.set_cons_zero, List.set_cons_succ]
        refine wpMix_skip (fun _ _ _ _ h => h) trivial (by rfl) ?_
        simp only [Act.put, List.setIfInBounds_toArray, List.set_cons_zero, List.set_cons_succ]
        refine wpMix_skip (fun _ _ _ _ h => h) trivial (by rfl) ?_
        simp only [Act.put, List.setIfInBounds_toArray, List.set_cons_zero, List.set_cons_succ]
        refine wpMix_skip (fun _ _ _ _ h => h) trivial (by rfl) ?_
        simp only [Act.put, List.setIfInBounds_toArray, List.set_cons_zero, List.set_cons_succ]
        refine wpMix_skip (fun _ _ _ _ h => h) trivial (by rfl) ?_
        simp only [Act.put, List.setIfInBounds_toArray, List.set_cons_zero, List.set_cons_succ]
        refine wpMix_skip (fun _ _ _ _ h => h) trivial (by rfl) ?_
        simp only [Act.put, List.setIfInBounds_toArray, List.set_cons_zero, List.set_cons_succ]
        refine wpMix_skip (fun _ _ _ _ h => h) trivial (by rfl) ?_
        simp only [Act.put, List.setIfInBounds_toArray, List.set_cons_zero, List.set_cons_succ]
        refine wpMix_skip (fun _ _ _ _ h => h) trivial (by rfl) ?_
        simp only [Act.put, List.setIfInBounds_toArray, List.set_cons_zero, List.set_cons_succ]
        refine wpMix_skip (fun _ _ _ _ h => h) trivial (by rfl) ?_
        simp only [Act.put, List.setIfInBounds_toArray, List.set_cons_zero, List.set_cons_succ]
        refine wpMix_skip (fun _ _ _ _ h => h) trivial (by rfl) ?_
        simp only [Act.put, List.setIfInBounds_toArray, List.set_cons_zero, List.set_cons_succ]
        refine wpMix_skip (fun _ _ _ _ h => h) trivial (by rfl) ?_
        simp only [Act.put, List.setIfInBounds_toArray, List.set_cons_zero, List.set_cons_succ]
        refine wpMix_skip (fun _ _ _ _ h => h) trivial (by rfl) ?_
        simp only [Act.put, List.setIfInBounds_toArray, List.set_cons_zero, List.set_cons_succ]
        refine wpMix_skip (fun _ _ _ _ h => h) trivial (by rfl) ?_
        simp only [Act.put, List.setIfInBounds_toArray, List.set_cons_zero, List.set_cons_succ]
        refine wpMix_skip (fun _ _ _ _ h => h) trivial (by rfl) ?_
        simp only [Act.put, List.setIfInBounds_toArray, List.set_cons_zero, List.set_cons_succ]
        refine wpMix_step (fun K hK => ?_); go_simp; refine hK _ _ trivial ?_; clear hK K
        refine wpMix_step (fun K hK => ?_); go_simp; refine hK _ _ trivial ?_; clear hK K
        refine wpMix_nil ?_
        go_wp2_with fail
        go_ret
        exact ⟨by rw [HF.out]; rfl, HB.out.drew⟩
      | true =>
        rw [hq] at cn
        have HQ := Lib.hid hq
        clear hq
        cases k with
        | zero =>
          have HE : Hid (topicsUp (l.take (0 + 1)) = true) := Lib.hid (by rw [S1.out, HQ.out, lastUp_zero]; rfl)
          clear HQ S1 S2
          simp only [Nat.add_zero] at c0
          generalize l[0] = t at *
          go_wp2_with fail
          refine cn.out.mono ?_
          rintro e w' ⟨rfl, rfl⟩
          go_upto_region 5 with fail
          refine wp_mix [mT, mT, mT, mT, mT, mT, mT, mT, mT, mT, mT, mT, mT, mT, mT, mT, mF, mF] 1000 (fun _ => True) (by kernel_rfl) (by kernel_rfl) trivial ?_
          refine wpMix_take (.bool true) (fun _ _ _ _ h => h) trivial (by rfl) (fun W2 hW => by go_simp) ?_
          simp only [Act.put, List.setIfInBounds_toArray, List.set_cons_zero, List.set_cons_succ]
          refine wpMix_take (.bool false) (fun _ _ _ _ h => h) trivial (by rfl) (fun W2 hW => by go_simp) ?_
          simp only [Act.put, List.setIfInBounds_toArray, List.set_cons_zero, List.set_cons_succ]
          refine wpMix_take (.bool false) (fun _ _ _ _ h => h) trivial (by rfl) (fun W2 hW => by go_simp) ?_
          simp only [Act.put, List.setIfInBounds_toArray, List.set_cons_zero, List.set_cons_succ]
          refine wpMix_take (.int .i64 0) (fun _ _ _ _ h => h) trivial (by rfl) (fun W2 hW => by go_simp) ?_
          simp only [Act.put, List.setIfInBounds_toArray, List.set_cons_zero, List.set_cons_succ]
          refine wpMix_take (.bool false) (fun _ _ _ _ h => h) trivial (by rfl) (fun W2 hW => by go_simp) ?_
          simp only [Act.put, List.setIfInBounds_toArray, List.set_cons_zero, List.set_cons_succ]
          refine wpMix_take (.bool false) (fun _ _ _ _ h => h) trivial (by rfl) (fun W2 hW => by go_simp) ?_
          simp only [Act.put, List.setIfInBounds_toArray, List.set_cons_zero, List.set_cons_succ]
          refine wpMix_skip (fun _ _ _ _ h => h) trivial (by rfl) ?_
          simp only [Act.put, List.setIfInBounds_toArray, List.set_cons_zero, List.set_cons_succ]
          refine wpMix_skip (fun _ _ _ _ h => h) trivial (by rfl) ?_
          simp only [Act.put, List.setIfInBounds_toArray, List.set_cons_zero, List.set_cons_succ]
          refine wpMix_skip (fun _ _ _ _ h => h) trivial (by rfl) ?_
          simp only [Act.put, List.setIfInBounds_toArray, List.set_cons_zero, List.set_cons_succ]
          refine wpMix_skip (fun _ _ _ _ h => h) trivial (by rfl) ?_
          simp only [Act.put, List.setIfInBounds_toArray, List.set_cons_zero, List.set_cons_succ]
          refine wpMix_skip (fun _ _ _ _ h => h) trivial (by rfl) ?_
          simp only [Act.put, List.setIfInBounds_toArray, List.set_cons_zero, List.set_cons_succ]
          refine wpMix_skip (fun _ _ _ _ h => h) trivial (by rfl) ?_
          simp only [Act.put, List.setIfInBounds_toArray, List.set_cons_zero, List.set_cons_succ]
          refine wpMix_skip (fun _ _ _ _ h => h) trivial (by rfl) ?_
          simp only [Act.put, List.setIfInBounds_toArray, List.set_cons_zero, List.set_cons_succ]
          refine wpMix_skip (fun _ _ _ _ h => h) trivial (by rfl) ?_
          simp only [Act.put, List.setIfInBounds_toArray, List.set_cons_zero, List.set_cons_succ]
          refine wpMix_skip (fun _ _ _ _ h => h) trivial (by rfl) ?_
          simp only [Act.put, List.setIfInBounds_toArray, List.set_cons_zero, List.set_cons_succ]
          refine wpMix_skip (fun _ _ _ _ h => h) trivial (by rfl) ?_
          simp only [Act.put, List.setIfInBounds_toArray, List.set_cons_zero, List.set_cons_succ]
          refine wpMix_step (fun K hK => ?_); go_simp; refine hK _ _ trivial ?_; clear hK K
          refine wpMix_step (fun K hK => ?_); go_simp; refine hK _ _ trivial ?_; clear hK K
          refine wpMix_nil ?_
          go_wp2_with fail
          go_roundw
          case rel => exact ⟨0 + 1, by omega, by go_num, HE, HB.out.drew⟩
          case measure => simp [intOf]; omega
        | succ k =>
          have hk' : k < l.length := by omega
          have c1 := (HB.out.cell (World.block_lt_of_cell? _ _ (HC.out k hk'))).trans (HC.out k hk')
          have L1 := Lib.hid (lastUp_succ hk' l[k + 1])
          have N1 := Lib.hid (less_not l[k + 1].toList l[k].toList)
          have HSS : Hid (wo.drew.cell? ⟨b, o + k, none⟩ = some (.string l[k]) ∧ wo.drew.cell? ⟨b, o + (k + 1), none⟩ = some (.string l[k + 1])) := Lib.hid ⟨c1, c0⟩
          have HG : Hid ((Op.bytesLess l[k].toList l[k + 1].toList = true → topicsUp (l.take (k + 1 + 1)) = true) ∧ (Op.bytesLess l[k].toList l[k + 1].toList = false → topicsOK l = false)) := Lib.hid ⟨fun h => by rw [S1.out, HQ.out, L1.out, h]; rfl, fun h => HSF.out (S2.out (by rw [HQ.out, L1.out, h]; rfl))⟩
          clear HQ S1 S2 L1 N1 c1
          generalize l[k + 1] = t at *
          generalize l[k] = p at *
          generalize hless : Op.bytesLess p.toList t.toList = q at HG
          have HLS := Lib.hid hless
          clear hless
          go_wp2_with fail
          refine cn.out.mono ?_
          rintro e w' ⟨rfl, rfl⟩
          go_upto_region 5 with fail
          clear c0
          have hkk : ((k + 1 : Nat) : Int) - 1 = (k : Nat) := by omega
          have hk3 : ((k + 1 : Nat) : Int) < l.length := by omega
          have hk4 : ((k : Nat) : Int) < l.length := by omega
          refine wp_mix [mT, mT, mT, mT, mT, mT, mT, mT, mT, mT, mT, mT, mT, mT, mT, mT, mF, mF] 1000 (fun W2 => W2.cell? ⟨b, o + k, none⟩ = some (.string p) ∧ W2.cell? ⟨b, o + (k + 1), none⟩ = some (.string t)) (by kernel_rfl) (by kernel_rfl) HSS.out ?_
          refine wpMix_take (.bool true) (fun _ _ _ _ h => h) HSS.out (by rfl) (fun W2 hW => by go_simp) ?_
          simp only [Act.put, List.setIfInBounds_toArray, List.set_cons_zero, List.set_cons_succ]
          refine wpMix_take (.bool false) (fun _ _ _ _ h => h) HSS.out (by rfl) (fun W2 hW => by go_simp) ?_
          simp only [Act.put, List.setIfInBounds_toArray, List.set_cons_zero, List.set_cons_succ]
          refine wpMix_take (.bool false) (fun _ _ _ _ h => h) HSS.out (by rfl) (fun W2 hW => by go_simp) ?_
          simp only [Act.put, List.setIfInBounds_toArray, List.set_cons_zero, List.set_cons_succ]
          refine wpMix_take (.int .i64 ((k + 1 : Nat) : Int)) (fun _ _ _ _ h => h) HSS.out (by rfl) (fun W2 hW => by go_simp) ?_
          simp only [Act.put, List.setIfInBounds_toArray, List.set_cons_zero, List.set_cons_succ]
          refine wpMix_take (.bool true) (fun _ _ _ _ h => h) HSS.out (by rfl) (fun W2 hW => by go_simp) ?_
          simp only [Act.put, List.setIfInBounds_toArray, List.set_cons_zero, List.set_cons_succ]
          refine wpMix_take (.bool true) (fun _ _ _ _ h => h) HSS.out (by rfl) (fun W2 hW => by go_simp) ?_
          simp only [Act.put, List.setIfInBounds_toArray, List.set_cons_zero, List.set_cons_succ]
          refine wpMix_take (.slice (some ⟨b, o, none⟩) l.length cap) (fun _ _ _ _ h => h) HSS.out (by rfl) (fun W2 hW => by go_simp) ?_
          simp only [Act.put, List.setIfInBounds_toArray, List.set_cons_zero, List.set_cons_succ]
          refine wpMix_take (.int .i64 ((k + 1 : Nat) : Int)) (fun _ _ _ _ h => h) HSS.out (by rfl) (fun W2 hW => by go_simp) ?_
          simp only [Act.put, List.setIfInBounds_toArray, List.set_cons_zero, List.set_cons_succ]
          refine wpMix_take (.int .i64 (k : Nat)) (fun _ _ _ _ h => h) HSS.out (by rfl) (fun W2 hW => by go_simp; rw [IntWalk.i64_in _ ⟨by omega, by omega⟩]; try omega) ?_
          simp only [Act.put, List.setIfInBounds_toArray, List.set_cons_zero, List.set_cons_succ]
          refine wpMix_take (.pointer (some ⟨b, o + k, none⟩)) (fun _ _ _ _ h => h) HSS.out (by rfl) (fun W2 hW => by go_simp) ?_
          simp only [Act.put, List.setIfInBounds_toArray, List.set_cons_zero, List.set_cons_succ]
          refine wpMix_take (.string p) (fun _ _ _ _ h => h) HSS.out (by rfl) (fun W2 hW => by have q0 := hW.1; go_simp) ?_
          simp only [Act.put, List.setIfInBounds_toArray, List.set_cons_zero, List.set_cons_succ]
          refine wpMix_take (.slice (some ⟨b, o, none⟩) l.length cap) (fun _ _ _ _ h => h) HSS.out (by rfl) (fun W2 hW => by go_simp) ?_
          simp only [Act.put, List.setIfInBounds_toArray, List.set_cons_zero, List.set_cons_succ]
          refine wpMix_take (.int .i64 ((k + 1 : Nat) : Int)) (fun _ _ _ _ h => h) HSS.out (by rfl) (fun W2 hW => by go_simp) ?_
          simp only [Act.put, List.setIfInBounds_toArray, List.set_cons_zero, List.set_cons_succ]
          refine wpMix_take (.pointer (some ⟨b, o + (k + 1), none⟩)) (fun _ _ _ _ h => h) HSS.out (by rfl) (fun W2 hW => by have q1 : ¬ ((k : Int) + 1 < 0) := (by omega); go_simp) ?_
          simp only [Act.put, List.setIfInBounds_toArray, List.set_cons_zero, List.set_cons_succ]
          refine wpMix_take (.string t) (fun _ _ _ _ h => h) HSS.out (by rfl) (fun W2 hW => by have q0 := hW.2; go_simp) ?_
          simp only [Act.put, List.setIfInBounds_toArray, List.set_cons_zero, List.set_cons_succ]
          refine wpMix_take (.bool !q) (fun _ _ _ _ h => h) HSS.out (by rfl) (fun W2 hW => by have q0 := HLS.out; go_simp; try simp [q0]) ?_
          simp only [Act.put, List.setIfInBounds_toArray, List.set_cons_zero, List.set_cons_succ]
          refine wpMix_step (fun K hK => ?_); go_simp; refine hK _ _ HSS.out ?_; clear hK K
          refine wpMix_step (fun K hK => ?_); go_simp; refine hK _ _ HSS.out ?_; clear hK K
          refine wpMix_nil ?_
          cases q
          · have HF := Lib.hid (HG.out.2 rfl)
            go_wp2_with fail
            go_ret
            exact ⟨by rw [HF.out]; rfl, HB.out.drew⟩
          · have HE := Lib.hid (HG.out.1 rfl)
            go_wp2_with fail
            go_roundw
            case rel => exact ⟨k + 1 + 1, by omega, by go_num, HE, HB.out.drew⟩
            case measure => simp [intOf]; omega
    · obtain rfl : k = l.length := by omega
      have HE : Hid (topicsOK l = decide ((l.length : Int) ≤ 4)) := Lib.hid (by
        have h := hu.out
        rw [List.take_length] at h
        unfold topicsOK
        rw [h, Bool.and_true]
        exact decide_eq_decide.2 (by omega))
      clear hu hb
      by_cases h4 : l.length ≤ 4
      · have b4 : (l.length : Int) ≤ 4 := by omega
        have HV : Hid (topicsOK l = true) := Lib.hid (by rw [HE.out]; exact decide_eq_true b4)
        clear h4
        go_wp2_with fail
        go_ret
        exact ⟨by rw [HV.out]; rfl, HB.out⟩
      · have b4 : ¬ (l.length : Int) ≤ 4 := by omega
        have HV : Hid (topicsOK l = false) := Lib.hid (by rw [HE.out]; exact decide_eq_false b4)
        clear h4
        go_wp2_with fail
        go_ret
        exact ⟨by rw [HV.out]; rfl, HB.out⟩
end Go.Proofs.YtgbihmafmmeicaaGreatDoor
/-
  WHAT IS PROVED HERE: the walks of the reference's Valid and ValidList for blocks. No condition. (Printed by tools/valr.py.)
-/
namespace Go.Proofs.YtgbihmafmmeicaaGreatDoor
open Go.RowKit Mg Go.Shelf

theorem name_text {s : ByteArray} (h : nameOK s = true) : textOK s = true := by
  unfold nameOK at h
  simp only [Bool.and_eq_true, decide_eq_true_eq] at h
  obtain ⟨⟨_, h2⟩, h3⟩ := h
  rw [textOK_eq, decide_eq_true (by omega), Bool.true_and, List.all_eq_true]
  intro c hc
  have h4 := (nameB_iff c).1 (List.all_eq_true.1 h3 c hc)
  exact okT_yes (by omega)
/-- when a block is valid, by its kind -/
structure KindF (kind : Int) (text : ByteArray) (story ref : Int) (r : Bool) : Prop where
  plain : kind = 1 ∨ kind = 2 ∨ kind = 4 → r = (decide (1 ≤ text.size) && decide (story = 0) && decide (ref = 0))
  count : kind = 5 → r = (nameOK text && decide (story = 0) && decide (ref = 0))
  quote : kind = 3 → r = (decide (1 ≤ story) && decide (story ≤ 64) && decide (1 ≤ ref) && decide (ref ≤ 1000))
  none_ : kind ≠ 1 → kind ≠ 2 → kind ≠ 4 → kind ≠ 5 → kind ≠ 3 → r = false
theorem kindF_of (x : Blk) (h1 : 1 ≤ x.id ∧ x.id ≤ 1000) (h2 : validLab x.lab = true) (h3 : textOK x.text = true) : KindF x.kind x.text x.story x.ref (validBlk x) := by
  have e : validBlk x = kindOK x := by unfold validBlk; rw [decide_eq_true h1.1, decide_eq_true h1.2, h2]; rfl
  refine ⟨fun h => ?_, fun h => ?_, fun h => ?_, fun n1 n2 n4 n5 n3 => ?_⟩
  · rw [e]; unfold kindOK; rw [if_pos h, h3, Bool.and_true]
  · rw [e]; unfold kindOK; rw [if_neg (by omega), if_pos h]
  · rw [e]; unfold kindOK; rw [if_neg (by omega), if_neg (by omega), if_pos h, h3, Bool.true_and]
  · rw [e]; unfold kindOK; rw [if_neg (by omega), if_neg n5, if_neg n3]
theorem valid_no1 {x : Blk} (h : ¬ (1 ≤ x.id ∧ x.id ≤ 1000)) : validBlk x = false := by
  rw [Bool.eq_false_iff]; intro e; unfold validBlk at e; simp only [Bool.and_eq_true, decide_eq_true_eq] at e; exact h e.1.1
theorem valid_no2 {x : Blk} (h : validLab x.lab = false) : validBlk x = false := by unfold validBlk; rw [h]; simp
theorem valid_no3 {x : Blk} (h : textOK x.text = false) : validBlk x = false := by
  have hn : nameOK x.text = false := by
    rw [Bool.eq_false_iff]; intro e; have := name_text e; rw [h] at this; cases this
  unfold validBlk kindOK
  rw [h, hn]
  simp

set_option maxRecDepth 10000 in
set_option maxHeartbeats 8000000 in
theorem validR_any {mem : Addr → Option Value} (x : Blk) (av : Value) (hi : IntsM mem av x.lab.after) (ht : x.text.size ≤ maxLen) (w : World) (hs : Sees mem w) :
    Calls Tryz.prog 80 #[.agg (blkCells x av)] w fun e w' => e = .returned (.bool (validBlk x)) ∧ Below w.heap.size w w' := by
  have HK := Lib.hid (kindF_of x)
  have HN1 := Lib.hid (@valid_no1 x)
  have HN2 := Lib.hid (@valid_no2 x)
  have HN3 := Lib.hid (@valid_no3 x)
  have HT := Lib.hid (fun W => isTextR_any x.text W ht)
  have HNM := Lib.hid (fun W => isNameR_any x.text W ht)
  have HL := Lib.hid (fun W hW => labValidR_any x.lab _ hi W hW)
  obtain ⟨ao, cap, rfl⟩ := hi.slice
  have HS := Lib.hid hs
  clear hi ht hs
  generalize validBlk x = R at *
  obtain ⟨id, kind, text, story, ref, lab⟩ := x
  dsimp only at *
  go_enter Tryz.func80, Tryz.ntmps80
  go_wp2_with fail
  refine (HT.out _).mono ?_
  rintro e w1 ⟨rfl, rfl⟩
  go_wp2_with fail
  refine (HL.out _ (HS.out.alloc _)).mono ?_
  rintro e w1 ⟨rfl, hb⟩
  have hB : Below w.heap.size w w1 := ((Below.refl _ w).alloc (Nat.le_refl _) _).trans (hb.mono (by simp))
  have hz : w.heap.size < w1.heap.size := by have := hb.size; simp at this; omega
  have hc : ∀ (j : Nat) (u : Value), (blkCells ⟨id, kind, text, story, ref, lab⟩ (.slice ao lab.after.length cap))[j]? = some u → w1.cell? ⟨w.heap.size, j, none⟩ = some u := fun j u hu => (hb.cell (p := ⟨w.heap.size, j, none⟩) (by simp)).trans (cell_new rfl hu)
  have c0 := hc 0 _ rfl
  have c1 := hc 1 _ rfl
  have c2 := hc 2 _ rfl
  have c3 := hc 3 _ rfl
  have c4 := hc 4 _ rfl
  clear hc hb HT HL HS
  generalize hTT : textOK text = T at *
  generalize hVV : validLab lab = V at *
  clear hTT hVV
  by_cases hid : 1 ≤ id ∧ id ≤ 1000
  · cases T with
    | false =>
      have HX := Lib.hid (HN3.out rfl)
      clear HK HN1 HN2 HN3
      obtain ⟨i1, i2⟩ := hid
      go_wp2_with fail
      go_ret
      exact ⟨ret_false HX.out, hB⟩
    | true =>
      cases V with
      | false =>
        have HX := Lib.hid (HN2.out rfl)
        clear HK HN1 HN2 HN3
        obtain ⟨i1, i2⟩ := hid
        go_wp2_with fail
        go_ret
        exact ⟨ret_false HX.out, hB⟩
      | true =>
        have HF := Lib.hid (HK.out hid rfl rfl)
        clear HK HN1 HN2 HN3
        obtain ⟨i1, i2⟩ := hid
        by_cases k1 : kind = 1
        · have hk := HF.out.plain (by omega)
          have HH := Lib.hid hk
          clear hk
          subst k1
          rcases size_pos text with ⟨z1, z2, z3⟩ | ⟨z1, z2, z3⟩
          · have HY : Hid (R = false) := Lib.hid (by rw [HH.out, z3, Bool.false_and, Bool.false_and])
            clear HF z3 HH
            go_wp2_with fail
            go_ret
            exact ⟨ret_false HY.out, hB⟩
          · have HG : Hid (R = (decide (story = 0) && decide (ref = 0))) := Lib.hid (by rw [HH.out, z3, Bool.true_and])
            clear z3 HH
            by_cases s0 : story = 0
            · subst s0
              by_cases r0 : ref = 0
              · subst r0
                have HY : Hid (R = true) := Lib.hid (by rw [HG.out]; rfl)
                clear HF
                go_wp2_with fail
                go_ret
                exact ⟨ret_true HY.out, hB⟩
              · have HY : Hid (R = false) := Lib.hid (by rw [HG.out, decide_eq_false r0, Bool.and_false])
                have n : (ref == 0) = false := by simpa using r0
                clear HF r0
                go_wp2_with fail
                go_ret
                exact ⟨ret_false HY.out, hB⟩
            · have HY : Hid (R = false) := Lib.hid (by rw [HG.out, decide_eq_false s0, Bool.false_and])
              have n : (story == 0) = false := by simpa using s0
              clear HF s0
              go_wp2_with fail
              go_ret
              exact ⟨ret_false HY.out, hB⟩
        by_cases k2 : kind = 2
        · have hk := HF.out.plain (by omega)
          have HH := Lib.hid hk
          clear hk
          subst k2
          rcases size_pos text with ⟨z1, z2, z3⟩ | ⟨z1, z2, z3⟩
          · have HY : Hid (R = false) := Lib.hid (by rw [HH.out, z3, Bool.false_and, Bool.false_and])
            clear HF z3 HH
            go_wp2_with fail
            go_ret
            exact ⟨ret_false HY.out, hB⟩
          · have HG : Hid (R = (decide (story = 0) && decide (ref = 0))) := Lib.hid (by rw [HH.out, z3, Bool.true_and])
            clear z3 HH
            by_cases s0 : story = 0
            · subst s0
              by_cases r0 : ref = 0
              · subst r0
                have HY : Hid (R = true) := Lib.hid (by rw [HG.out]; rfl)
                clear HF
                go_wp2_with fail
                go_ret
                exact ⟨ret_true HY.out, hB⟩
              · have HY : Hid (R = false) := Lib.hid (by rw [HG.out, decide_eq_false r0, Bool.and_false])
                have n : (ref == 0) = false := by simpa using r0
                clear HF r0
                go_wp2_with fail
                go_ret
                exact ⟨ret_false HY.out, hB⟩
            · have HY : Hid (R = false) := Lib.hid (by rw [HG.out, decide_eq_false s0, Bool.false_and])
              have n : (story == 0) = false := by simpa using s0
              clear HF s0
              go_wp2_with fail
              go_ret
              exact ⟨ret_false HY.out, hB⟩
        by_cases k4 : kind = 4
        · have hk := HF.out.plain (by omega)
          have HH := Lib.hid hk
          clear hk
          subst k4
          rcases size_pos text with ⟨z1, z2, z3⟩ | ⟨z1, z2, z3⟩
          · have HY : Hid (R = false) := Lib.hid (by rw [HH.out, z3, Bool.false_and, Bool.false_and])
            clear HF z3 HH
            go_wp2_with fail
            go_ret
            exact ⟨ret_false HY.out, hB⟩
          · have HG : Hid (R = (decide (story = 0) && decide (ref = 0))) := Lib.hid (by rw [HH.out, z3, Bool.true_and])
            clear z3 HH
            by_cases s0 : story = 0
            · subst s0
              by_cases r0 : ref = 0
              · subst r0
                have HY : Hid (R = true) := Lib.hid (by rw [HG.out]; rfl)
                clear HF
                go_wp2_with fail
                go_ret
                exact ⟨ret_true HY.out, hB⟩
              · have HY : Hid (R = false) := Lib.hid (by rw [HG.out, decide_eq_false r0, Bool.and_false])
                have n : (ref == 0) = false := by simpa using r0
                clear HF r0
                go_wp2_with fail
                go_ret
                exact ⟨ret_false HY.out, hB⟩
            · have HY : Hid (R = false) := Lib.hid (by rw [HG.out, decide_eq_false s0, Bool.false_and])
              have n : (story == 0) = false := by simpa using s0
              clear HF s0
              go_wp2_with fail
              go_ret
              exact ⟨ret_false HY.out, hB⟩
        by_cases k5 : kind = 5
        · have hk := HF.out.count k5
          have HH := Lib.hid hk
          clear hk
          subst k5
          go_wp2_with fail
          refine (HNM.out _).mono ?_
          rintro e w2 ⟨rfl, rfl⟩
          generalize nameOK text = N at *
          cases N with
          | false =>
            have HY : Hid (R = false) := Lib.hid (by rw [HH.out, Bool.false_and, Bool.false_and])
            clear HF HH
            go_wp2_with fail
            go_ret
            exact ⟨ret_false HY.out, hB⟩
          | true =>
            have HG : Hid (R = (decide (story = 0) && decide (ref = 0))) := Lib.hid (by rw [HH.out, Bool.true_and])
            clear HH
            by_cases s0 : story = 0
            · subst s0
              by_cases r0 : ref = 0
              · subst r0
                have HY : Hid (R = true) := Lib.hid (by rw [HG.out]; rfl)
                clear HF
                go_wp2_with fail
                go_ret
                exact ⟨ret_true HY.out, hB⟩
              · have HY : Hid (R = false) := Lib.hid (by rw [HG.out, decide_eq_false r0, Bool.and_false])
                have n : (ref == 0) = false := by simpa using r0
                clear HF r0
                go_wp2_with fail
                go_ret
                exact ⟨ret_false HY.out, hB⟩
            · have HY : Hid (R = false) := Lib.hid (by rw [HG.out, decide_eq_false s0, Bool.false_and])
              have n : (story == 0) = false := by simpa using s0
              clear HF s0
              go_wp2_with fail
              go_ret
              exact ⟨ret_false HY.out, hB⟩
        by_cases k3 : kind = 3
        · have hk := HF.out.quote k3
          have HH := Lib.hid hk
          clear hk HF
          subst k3
          by_cases q4 : 1 ≤ story
          · by_cases q3 : story ≤ 64
            · by_cases q2 : 1 ≤ ref
              · by_cases q1 : ref ≤ 1000
                · have HY : Hid (R = true) := Lib.hid (by rw [HH.out, decide_eq_true q4, decide_eq_true q3, decide_eq_true q2, decide_eq_true q1]; rfl)
                  clear HH
                  go_wp2_with fail
                  go_ret
                  exact ⟨ret_true HY.out, hB⟩
                · have HY : Hid (R = false) := Lib.hid (by rw [HH.out, decide_eq_false q1]; simp)
                  have nq1 : decide (ref ≤ 1000) = false := decide_eq_false q1
                  clear HH q1
                  go_wp2_with fail
                  go_ret
                  exact ⟨ret_false HY.out, hB⟩
              · have HY : Hid (R = false) := Lib.hid (by rw [HH.out, decide_eq_false q2]; simp)
                have nq2 : decide (1 ≤ ref) = false := decide_eq_false q2
                clear HH q2
                go_wp2_with fail
                go_ret
                exact ⟨ret_false HY.out, hB⟩
            · have HY : Hid (R = false) := Lib.hid (by rw [HH.out, decide_eq_false q3]; simp)
              have nq3 : decide (story ≤ 64) = false := decide_eq_false q3
              clear HH q3
              go_wp2_with fail
              go_ret
              exact ⟨ret_false HY.out, hB⟩
          · have HY : Hid (R = false) := Lib.hid (by rw [HH.out, decide_eq_false q4]; simp)
            have nq4 : decide (1 ≤ story) = false := decide_eq_false q4
            clear HH q4
            go_wp2_with fail
            go_ret
            exact ⟨ret_false HY.out, hB⟩
        have HY : Hid (R = false) := Lib.hid (HF.out.none_ k1 k2 k4 k5 k3)
        have n1 : (kind == 1) = false := by simpa using k1
        have n2 : (kind == 2) = false := by simpa using k2
        have n4 : (kind == 4) = false := by simpa using k4
        have n5 : (kind == 5) = false := by simpa using k5
        have n3 : (kind == 3) = false := by simpa using k3
        clear HF k1 k2 k4 k5 k3
        go_wp2_with fail
        go_ret
        exact ⟨ret_false HY.out, hB⟩
  · have HX := Lib.hid (HN1.out hid)
    have HI := Lib.hid hid
    clear HK HN1 HN2 HN3 hid
    go_wp2_with fail
    all_goals first
      | (go_ret
         exact ⟨ret_false HX.out, hB⟩)
      | (exfalso; exact HI.out ⟨by omega, by omega⟩)

set_option maxRecDepth 10000 in
set_option maxHeartbeats 4000000 in
theorem validListR_any {mem : Addr → Option Value} {v : Value} {l : List Blk} (h : BlksM mem v l) (w : World) (hs : Sees mem w) :
    Calls Tryz.prog 62 #[v] w fun e w' => e = .returned (.bool (decide (ValidL l))) ∧ Below w.heap.size w w' := by
  obtain ⟨ao, cap, b, o, rfl, hcap, hm, hao, hblks⟩ := h.open_
  have HAO := Lib.hid hao
  have HB := Lib.hid hblks
  have HS := Lib.hid hs
  have hlen : (l.length : Int) ≤ 9223372036854775807 := by unfold maxLen at hm; omega
  clear h hao hblks hs hm
  by_cases h24 : l.length ≤ 24
  · have HOK : Hid (PreOK l l.length → decide (ValidL l) = true) := Lib.hid (fun h => decide_eq_true (validL_all h24 h))
    go_enter Tryz.func62, Tryz.ntmps62
    go_wp2_with fail
    go_loopw [3, 4, 5] (fun i _ _ wr => ∃ k : Nat, k ≤ l.length ∧ i = .int .i64 k ∧ Below w.heap.size w wr ∧ Hid (PreOK l k)) (fun i _ _ _ => l.length - (intOf i).toNat)
    case atStart => exact ⟨0, Nat.zero_le _, rfl, Below.refl _ _, Lib.hid (PreOK.zero l)⟩
    case round =>
      obtain ⟨k, hk, rfl, hb, hp⟩ := hrel
      obtain ⟨wo, rfl⟩ : ∃ wo, wo = wr := ⟨_, rfl⟩
      by_cases hlt : k < l.length
      · obtain ⟨⟨t1, _, _⟩, lo, lc, hi, hc9⟩ := (HB.out k hlt).nine (HS.out.bel hb)
        obtain rfl := HAO.out (by omega)
        obtain ⟨c0, c1, c2, c3, c4, c5, c6, c7, c8⟩ := hc9
        have hbl : b < wo.heap.size := World.block_lt_of_cell? wo _ c0
        have HF : Hid (Calls Tryz.prog 80 #[.agg (blkCells l[k] (.slice lo l[k].lab.after.length lc))] wo fun e w' => e = .returned (.bool (validBlk l[k])) ∧ Below wo.heap.size wo w') :=
          Lib.hid (validR_any l[k] _ hi t1 wo (HS.out.bel hb))
        have HNB : Hid (validBlk l[k] = false → decide (ValidL l) = false) := Lib.hid (fun h => decide_eq_false (validL_bad hlt h))
        have HNT : Hid (∀ j (hj : j < k), l[j].id = l[k].id → decide (ValidL l) = false) := Lib.hid (fun j hj e => decide_eq_false (validL_twice hj hlt e))
        have HST : Hid (validBlk l[k] = true → (∀ j (hj : j < k), l[j].id ≠ l[k].id) → PreOK l (k + 1)) := Lib.hid (fun h1 h2 => PreOK.succ hlt hp.out h1 h2)
        have hkc : (k : Int) ≤ cap := by omega
        have hk0 : (0 : Int) ≤ k := by omega
        have hk1 : (k : Int) < l.length := by omega
        clear hi t1 hp
        generalize hx : l[k] = x at *
        obtain ⟨id, kind, text, story, ref, till, after, appr, denied⟩ := x
        clear hx
        dsimp only at *
        go_wp2_with fail
        refine HF.out.mono ?_
        rintro e w3 ⟨rfl, hb3⟩
        have hB3 : Below w.heap.size w w3 := hb.trans (hb3.mono hb.size)
        replace c0 := (hb3.cell (p := ⟨b, o + k * 9, none⟩) hbl).trans c0
        have hbl3 : b < w3.heap.size := Nat.lt_of_lt_of_le hbl hb3.size
        generalize hV : validBlk ⟨id, kind, text, story, ref, ⟨till, after, appr, denied⟩⟩ = V at *
        clear hV
        cases V with
        | false =>
          have HNB2 := Lib.hid (HNB.out rfl)
          clear HNB HST HNT HF
          go_wp2_with fail
          go_ret
          exact ⟨ret_false HNB2.out, hB3⟩
        | true =>
          have HST2 := Lib.hid (HST.out rfl)
          clear HNB HST HF hb3 c1 c2 c3 c4 c5 c6 c7 c8
          go_wp2_with fail
          go_loopw [5] (fun i wi => ∃ j : Nat, j ≤ k ∧ i = .int .i64 j ∧ Below w3.heap.size w3 wi ∧ Hid (∀ m (hm : m < j) (hm2 : m < l.length), l[m].id ≠ id)) (fun i _ => k - (intOf i).toNat)
          case atStart => exact ⟨0, Nat.zero_le _, rfl, Below.refl _ _, Lib.hid (fun m hm => absurd hm (by omega))⟩
          case round =>
            obtain ⟨j, hj, rfl, hbi, hne⟩ := hrel
            have hBi : Below w.heap.size w wr := hB3.trans (hbi.mono hB3.size)
            by_cases hjk : j < k
            · have hjl : j < l.length := by omega
              have hj0 : (0 : Int) ≤ j := by omega
              have hj1 : (j : Int) < l.length := by omega
              obtain ⟨_, lo2, lc2, _, d9⟩ := (HB.out j hjl).nine (HS.out.bel hBi)
              have d0 := d9.c0
              have c0' := (hbi.cell (p := ⟨b, o + k * 9, none⟩) hbl3).trans c0
              have HEQ : Hid (l[j].id = id → decide (ValidL l) = false) := Lib.hid (fun e => HNT.out j hjk e)
              have HNE : Hid (l[j].id ≠ id → ∀ m (hm : m < j + 1) (hm2 : m < l.length), l[m].id ≠ id) := Lib.hid (fun e m hm hm2 => by
                by_cases h : m = j
                · subst h; exact e
                · exact hne.out m (by omega) hm2)
              clear hne d9
              generalize l[j].id = id2 at *
              by_cases he : id2 = id
              · have e1 : (id2 == id) = true := by simpa using he
                have HF := Lib.hid (HEQ.out he)
                clear he HEQ HNE
                go_wp2_with fail
                go_quiet (fail)
                go_wp2_with fail
                go_ret
                exact ⟨ret_false HF.out, below_drewN hBi _⟩
              · have e1 : (id2 == id) = false := by simpa using he
                have HF := Lib.hid (HNE.out he)
                clear he HEQ HNE
                go_wp2_with fail
                go_quiet (fail)
                go_wp2_with fail
                go_roundw
                case rel => exact ⟨j + 1, by omega, by go_num, below_drewN hbi _, HF⟩
                case measure => simp [intOf]; omega
            · have e : j = k := by omega
              subst e
              have HP : Hid (PreOK l (j + 1)) := Lib.hid (HST2.out (fun m hm => hne.out m hm (by omega)))
              go_wp2_with fail
              go_roundw
              case rel => exact ⟨j + 1, by omega, by go_num, hBi, HP⟩
              case measure => simp [intOf]; omega
      · have e : k = l.length := by omega
        subst e
        have HF := Lib.hid (HOK.out hp.out)
        go_wp2_with fail
        go_ret
        exact ⟨ret_true HF.out, hb⟩
  · have HF : Hid (decide (ValidL l) = false) := Lib.hid (decide_eq_false (fun h => h24 h.1))
    go_enter Tryz.func62, Tryz.ntmps62
    go_wp2_with fail
    go_ret
    exact ⟨ret_false HF.out, Below.refl _ _⟩
end Go.Proofs.YtgbihmafmmeicaaGreatDoor
/-
  WHAT IS PROVED HERE: the reference's Fields at the laws' kinds, and right, field by field. No condition but that the fact lies in memory. Printed by tools/ahi.py.
-/
namespace Go.Proofs.YtgbihmafmmeicaaGreatDoor
open Go.RowKit Mg Go.Shelf

def fieldsB (k : Int) : ByteArray :=
  if k = 1 then ⟨#[115, 108, 114, 97, 116, 117, 111, 98, 76]⟩ else
  if k = 2 then ⟨#[115, 101]⟩ else
  if k = 3 then ⟨#[115, 76]⟩ else
  if k = 4 then ⟨#[115, 108, 107, 110, 120]⟩ else
  if k = 5 then ⟨#[115, 120]⟩ else
  if k = 6 then ⟨#[115]⟩ else
  if k = 7 then ⟨#[109, 120]⟩ else
  if k = 10 then ⟨#[115]⟩ else
  ⟨#[]⟩
set_option maxRecDepth 10000 in
theorem fields_1 (w : World) : Calls Tryz.prog 43 #[.int .i64 1] w fun e w' => e = .returned (.string ⟨#[115, 108, 114, 97, 116, 117, 111, 98, 76]⟩) ∧ w = w' := by
  go_enter Tryz.func43, Tryz.ntmps43
  go_wp2_with fail
  go_ret
  exact ⟨rfl, rfl⟩
set_option maxRecDepth 10000 in
theorem fields_2 (w : World) : Calls Tryz.prog 43 #[.int .i64 2] w fun e w' => e = .returned (.string ⟨#[115, 101]⟩) ∧ w = w' := by
  go_enter Tryz.func43, Tryz.ntmps43
  go_wp2_with fail
  go_ret
  exact ⟨rfl, rfl⟩
set_option maxRecDepth 10000 in
theorem fields_3 (w : World) : Calls Tryz.prog 43 #[.int .i64 3] w fun e w' => e = .returned (.string ⟨#[115, 76]⟩) ∧ w = w' := by
  go_enter Tryz.func43, Tryz.ntmps43
  go_wp2_with fail
  go_ret
  exact ⟨rfl, rfl⟩
set_option maxRecDepth 10000 in
theorem fields_4 (w : World) : Calls Tryz.prog 43 #[.int .i64 4] w fun e w' => e = .returned (.string ⟨#[115, 108, 107, 110, 120]⟩) ∧ w = w' := by
  go_enter Tryz.func43, Tryz.ntmps43
  go_wp2_with fail
  go_ret
  exact ⟨rfl, rfl⟩
set_option maxRecDepth 10000 in
theorem fields_5 (w : World) : Calls Tryz.prog 43 #[.int .i64 5] w fun e w' => e = .returned (.string ⟨#[115, 120]⟩) ∧ w = w' := by
  go_enter Tryz.func43, Tryz.ntmps43
  go_wp2_with fail
  go_ret
  exact ⟨rfl, rfl⟩
set_option maxRecDepth 10000 in
theorem fields_6 (w : World) : Calls Tryz.prog 43 #[.int .i64 6] w fun e w' => e = .returned (.string ⟨#[115]⟩) ∧ w = w' := by
  go_enter Tryz.func43, Tryz.ntmps43
  go_wp2_with fail
  go_ret
  exact ⟨rfl, rfl⟩
set_option maxRecDepth 10000 in
theorem fields_7 (w : World) : Calls Tryz.prog 43 #[.int .i64 7] w fun e w' => e = .returned (.string ⟨#[109, 120]⟩) ∧ w = w' := by
  go_enter Tryz.func43, Tryz.ntmps43
  go_wp2_with fail
  go_ret
  exact ⟨rfl, rfl⟩
set_option maxRecDepth 10000 in
theorem fields_10 (w : World) : Calls Tryz.prog 43 #[.int .i64 10] w fun e w' => e = .returned (.string ⟨#[115]⟩) ∧ w = w' := by
  go_enter Tryz.func43, Tryz.ntmps43
  go_wp2_with fail
  go_ret
  exact ⟨rfl, rfl⟩
theorem fields_any (k : Int) (hk : k = 1 ∨ k = 2 ∨ k = 3 ∨ k = 4 ∨ k = 5 ∨ k = 6 ∨ k = 7 ∨ k = 10) (w : World) : Calls Tryz.prog 43 #[.int .i64 k] w fun e w' => e = .returned (.string (fieldsB k)) ∧ w = w' := by
  rcases hk with rfl | rfl | rfl | rfl | rfl | rfl | rfl | rfl
  · exact fields_1 w
  · exact fields_2 w
  · exact fields_3 w
  · exact fields_4 w
  · exact fields_5 w
  · exact fields_6 w
  · exact fields_7 w
  · exact fields_10 w
set_option maxRecDepth 100000 in
set_option maxHeartbeats 2000000 in
theorem right_115 {mem : Addr → Option Value} (e : FctE) (h : e.ok mem) (w : World) (hs : Sees mem w) :
    Calls Tryz.prog 44 #[.agg e.cells, .int .u8 115] w fun r w' => r = .returned (.bool (inR e.f.story 1 64)) ∧ Below w.heap.size w w' := by
  obtain ⟨f, ta, tc, ba, bc, aa, ac⟩ := e
  have HN := Lib.hid (World.alloc_heap_new w (.cells (⟨f, ta, tc, ba, bc, aa, ac⟩ : FctE).cells 45))
  have HB := Lib.hid ((Below.refl w.heap.size w).alloc (Nat.le_refl _) (.cells (⟨f, ta, tc, ba, bc, aa, ac⟩ : FctE).cells 45))
  have HS := Lib.hid (hs.bel HB.out)
  have HE : Hid (inR f.story 1 64 = (decide (1 ≤ f.story) && decide (f.story ≤ 64))) := Lib.hid rfl
  clear hs h
  go_enter Tryz.func44, Tryz.ntmps44
  go_upto_region 1 with fail
  generalize hW1 : World.alloc w _ = W1 at *
  clear hW1
  have d3 : W1.cell? ⟨w.heap.size, 3, none⟩ = some (.int .i64 f.story) := blk_cell HN.out 3
  obtain ⟨x, hx⟩ : ∃ x, f.story = x := ⟨_, rfl⟩
  rw [hx] at d3 HE
  have HX := Lib.hid hx
  clear hx
  by_cases k1 : (1 : Int) ≤ x
  · by_cases k2 : x ≤ 64
    · have HV : Hid (inR x 1 64 = true) := Lib.hid (HE.out.trans (by rw [decide_eq_true k1, decide_eq_true k2]; rfl))
      have k3 : x ≤64 := by omega
      go_wp2_with fail
      go_ret
      exact ⟨by show _ = Ending.returned (.bool (inR f.story 1 64)); rw [HX.out, HV.out]; rfl, HB.out⟩
    · have HV : Hid (inR x 1 64 = false) := Lib.hid (HE.out.trans (by rw [decide_eq_false k2, Bool.and_false]))
      have k3 : ¬ x ≤64 := by omega
      go_wp2_with fail
      go_ret
      exact ⟨by show _ = Ending.returned (.bool (inR f.story 1 64)); rw [HX.out, HV.out]; rfl, HB.out⟩
  · have HV : Hid (inR x 1 64 = false) := Lib.hid (HE.out.trans (by rw [decide_eq_false k1, Bool.false_and]))
    go_wp2_with fail
    go_ret
    exact ⟨by show _ = Ending.returned (.bool (inR f.story 1 64)); rw [HX.out, HV.out]; rfl, HB.out⟩
set_option maxRecDepth 100000 in
set_option maxHeartbeats 2000000 in
theorem right_114 {mem : Addr → Option Value} (e : FctE) (h : e.ok mem) (w : World) (hs : Sees mem w) :
    Calls Tryz.prog 44 #[.agg e.cells, .int .u8 114] w fun r w' => r = .returned (.bool (inR e.f.rev 1 100)) ∧ Below w.heap.size w w' := by
  obtain ⟨f, ta, tc, ba, bc, aa, ac⟩ := e
  have HN := Lib.hid (World.alloc_heap_new w (.cells (⟨f, ta, tc, ba, bc, aa, ac⟩ : FctE).cells 45))
  have HB := Lib.hid ((Below.refl w.heap.size w).alloc (Nat.le_refl _) (.cells (⟨f, ta, tc, ba, bc, aa, ac⟩ : FctE).cells 45))
  have HS := Lib.hid (hs.bel HB.out)
  have HE : Hid (inR f.rev 1 100 = (decide (1 ≤ f.rev) && decide (f.rev ≤ 100))) := Lib.hid rfl
  clear hs h
  go_enter Tryz.func44, Tryz.ntmps44
  go_upto_region 1 with fail
  generalize hW1 : World.alloc w _ = W1 at *
  clear hW1
  have d5 : W1.cell? ⟨w.heap.size, 5, none⟩ = some (.int .i64 f.rev) := blk_cell HN.out 5
  obtain ⟨x, hx⟩ : ∃ x, f.rev = x := ⟨_, rfl⟩
  rw [hx] at d5 HE
  have HX := Lib.hid hx
  clear hx
  by_cases k1 : (1 : Int) ≤ x
  · by_cases k2 : x ≤ 100
    · have HV : Hid (inR x 1 100 = true) := Lib.hid (HE.out.trans (by rw [decide_eq_true k1, decide_eq_true k2]; rfl))
      have k3 : x ≤100 := by omega
      go_wp2_with fail
      go_ret
      exact ⟨by show _ = Ending.returned (.bool (inR f.rev 1 100)); rw [HX.out, HV.out]; rfl, HB.out⟩
    · have HV : Hid (inR x 1 100 = false) := Lib.hid (HE.out.trans (by rw [decide_eq_false k2, Bool.and_false]))
      have k3 : ¬ x ≤100 := by omega
      go_wp2_with fail
      go_ret
      exact ⟨by show _ = Ending.returned (.bool (inR f.rev 1 100)); rw [HX.out, HV.out]; rfl, HB.out⟩
  · have HV : Hid (inR x 1 100 = false) := Lib.hid (HE.out.trans (by rw [decide_eq_false k1, Bool.false_and]))
    go_wp2_with fail
    go_ret
    exact ⟨by show _ = Ending.returned (.bool (inR f.rev 1 100)); rw [HX.out, HV.out]; rfl, HB.out⟩
set_option maxRecDepth 100000 in
set_option maxHeartbeats 2000000 in
theorem right_101 {mem : Addr → Option Value} (e : FctE) (h : e.ok mem) (w : World) (hs : Sees mem w) :
    Calls Tryz.prog 44 #[.agg e.cells, .int .u8 101] w fun r w' => r = .returned (.bool (inR e.f.editor 1 5)) ∧ Below w.heap.size w w' := by
  obtain ⟨f, ta, tc, ba, bc, aa, ac⟩ := e
  have HN := Lib.hid (World.alloc_heap_new w (.cells (⟨f, ta, tc, ba, bc, aa, ac⟩ : FctE).cells 45))
  have HB := Lib.hid ((Below.refl w.heap.size w).alloc (Nat.le_refl _) (.cells (⟨f, ta, tc, ba, bc, aa, ac⟩ : FctE).cells 45))
  have HS := Lib.hid (hs.bel HB.out)
  have HE : Hid (inR f.editor 1 5 = (decide (1 ≤ f.editor) && decide (f.editor ≤ 5))) := Lib.hid rfl
  clear hs h
  go_enter Tryz.func44, Tryz.ntmps44
  go_upto_region 1 with fail
  generalize hW1 : World.alloc w _ = W1 at *
  clear hW1
  have d15 : W1.cell? ⟨w.heap.size, 15, none⟩ = some (.int .i64 f.editor) := blk_cell HN.out 15
  obtain ⟨x, hx⟩ : ∃ x, f.editor = x := ⟨_, rfl⟩
  rw [hx] at d15 HE
  have HX := Lib.hid hx
  clear hx
  by_cases k1 : (1 : Int) ≤ x
  · by_cases k2 : x ≤ 5
    · have HV : Hid (inR x 1 5 = true) := Lib.hid (HE.out.trans (by rw [decide_eq_true k1, decide_eq_true k2]; rfl))
      have k3 : x ≤5 := by omega
      go_wp2_with fail
      go_ret
      exact ⟨by show _ = Ending.returned (.bool (inR f.editor 1 5)); rw [HX.out, HV.out]; rfl, HB.out⟩
    · have HV : Hid (inR x 1 5 = false) := Lib.hid (HE.out.trans (by rw [decide_eq_false k2, Bool.and_false]))
      have k3 : ¬ x ≤5 := by omega
      go_wp2_with fail
      go_ret
      exact ⟨by show _ = Ending.returned (.bool (inR f.editor 1 5)); rw [HX.out, HV.out]; rfl, HB.out⟩
  · have HV : Hid (inR x 1 5 = false) := Lib.hid (HE.out.trans (by rw [decide_eq_false k1, Bool.false_and]))
    go_wp2_with fail
    go_ret
    exact ⟨by show _ = Ending.returned (.bool (inR f.editor 1 5)); rw [HX.out, HV.out]; rfl, HB.out⟩
set_option maxRecDepth 100000 in
set_option maxHeartbeats 2000000 in
theorem right_107 {mem : Addr → Option Value} (e : FctE) (h : e.ok mem) (w : World) (hs : Sees mem w) :
    Calls Tryz.prog 44 #[.agg e.cells, .int .u8 107] w fun r w' => r = .returned (.bool (inR e.f.block 1 1000)) ∧ Below w.heap.size w w' := by
  obtain ⟨f, ta, tc, ba, bc, aa, ac⟩ := e
  have HN := Lib.hid (World.alloc_heap_new w (.cells (⟨f, ta, tc, ba, bc, aa, ac⟩ : FctE).cells 45))
  have HB := Lib.hid ((Below.refl w.heap.size w).alloc (Nat.le_refl _) (.cells (⟨f, ta, tc, ba, bc, aa, ac⟩ : FctE).cells 45))
  have HS := Lib.hid (hs.bel HB.out)
  have HE : Hid (inR f.block 1 1000 = (decide (1 ≤ f.block) && decide (f.block ≤ 1000))) := Lib.hid rfl
  clear hs h
  go_enter Tryz.func44, Tryz.ntmps44
  go_upto_region 1 with fail
  generalize hW1 : World.alloc w _ = W1 at *
  clear hW1
  have d16 : W1.cell? ⟨w.heap.size, 16, none⟩ = some (.int .i64 f.block) := blk_cell HN.out 16
  obtain ⟨x, hx⟩ : ∃ x, f.block = x := ⟨_, rfl⟩
  rw [hx] at d16 HE
  have HX := Lib.hid hx
  clear hx
  by_cases k1 : (1 : Int) ≤ x
  · by_cases k2 : x ≤ 1000
    · have HV : Hid (inR x 1 1000 = true) := Lib.hid (HE.out.trans (by rw [decide_eq_true k1, decide_eq_true k2]; rfl))
      have k3 : x ≤1000 := by omega
      go_wp2_with fail
      go_ret
      exact ⟨by show _ = Ending.returned (.bool (inR f.block 1 1000)); rw [HX.out, HV.out]; rfl, HB.out⟩
    · have HV : Hid (inR x 1 1000 = false) := Lib.hid (HE.out.trans (by rw [decide_eq_false k2, Bool.and_false]))
      have k3 : ¬ x ≤1000 := by omega
      go_wp2_with fail
      go_ret
      exact ⟨by show _ = Ending.returned (.bool (inR f.block 1 1000)); rw [HX.out, HV.out]; rfl, HB.out⟩
  · have HV : Hid (inR x 1 1000 = false) := Lib.hid (HE.out.trans (by rw [decide_eq_false k1, Bool.false_and]))
    go_wp2_with fail
    go_ret
    exact ⟨by show _ = Ending.returned (.bool (inR f.block 1 1000)); rw [HX.out, HV.out]; rfl, HB.out⟩
set_option maxRecDepth 100000 in
set_option maxHeartbeats 2000000 in
theorem right_110 {mem : Addr → Option Value} (e : FctE) (h : e.ok mem) (w : World) (hs : Sees mem w) :
    Calls Tryz.prog 44 #[.agg e.cells, .int .u8 110] w fun r w' => r = .returned (.bool (inR e.f.sentence 0 299)) ∧ Below w.heap.size w w' := by
  obtain ⟨f, ta, tc, ba, bc, aa, ac⟩ := e
  have HN := Lib.hid (World.alloc_heap_new w (.cells (⟨f, ta, tc, ba, bc, aa, ac⟩ : FctE).cells 45))
  have HB := Lib.hid ((Below.refl w.heap.size w).alloc (Nat.le_refl _) (.cells (⟨f, ta, tc, ba, bc, aa, ac⟩ : FctE).cells 45))
  have HS := Lib.hid (hs.bel HB.out)
  have HE : Hid (inR f.sentence 0 299 = (decide (0 ≤ f.sentence) && decide (f.sentence ≤ 299))) := Lib.hid rfl
  clear hs h
  go_enter Tryz.func44, Tryz.ntmps44
  go_upto_region 1 with fail
  generalize hW1 : World.alloc w _ = W1 at *
  clear hW1
  have d17 : W1.cell? ⟨w.heap.size, 17, none⟩ = some (.int .i64 f.sentence) := blk_cell HN.out 17
  obtain ⟨x, hx⟩ : ∃ x, f.sentence = x := ⟨_, rfl⟩
  rw [hx] at d17 HE
  have HX := Lib.hid hx
  clear hx
  by_cases k1 : (0 : Int) ≤ x
  · by_cases k2 : x ≤ 299
    · have HV : Hid (inR x 0 299 = true) := Lib.hid (HE.out.trans (by rw [decide_eq_true k1, decide_eq_true k2]; rfl))
      have k3 : x <300 := by omega
      go_wp2_with fail
      go_ret
      exact ⟨by show _ = Ending.returned (.bool (inR f.sentence 0 299)); rw [HX.out, HV.out]; rfl, HB.out⟩
    · have HV : Hid (inR x 0 299 = false) := Lib.hid (HE.out.trans (by rw [decide_eq_false k2, Bool.and_false]))
      have k3 : ¬ x <300 := by omega
      go_wp2_with fail
      go_ret
      exact ⟨by show _ = Ending.returned (.bool (inR f.sentence 0 299)); rw [HX.out, HV.out]; rfl, HB.out⟩
  · have HV : Hid (inR x 0 299 = false) := Lib.hid (HE.out.trans (by rw [decide_eq_false k1, Bool.false_and]))
    go_wp2_with fail
    go_ret
    exact ⟨by show _ = Ending.returned (.bool (inR f.sentence 0 299)); rw [HX.out, HV.out]; rfl, HB.out⟩
set_option maxRecDepth 100000 in
set_option maxHeartbeats 2000000 in
theorem right_97 {mem : Addr → Option Value} (e : FctE) (h : e.ok mem) (w : World) (hs : Sees mem w) :
    Calls Tryz.prog 44 #[.agg e.cells, .int .u8 97] w fun r w' => r = .returned (.bool (inR e.f.base 0 (e.f.rev - 1))) ∧ Below w.heap.size w w' := by
  obtain ⟨f, ta, tc, ba, bc, aa, ac⟩ := e
  have HN := Lib.hid (World.alloc_heap_new w (.cells (⟨f, ta, tc, ba, bc, aa, ac⟩ : FctE).cells 45))
  have HB := Lib.hid ((Below.refl w.heap.size w).alloc (Nat.le_refl _) (.cells (⟨f, ta, tc, ba, bc, aa, ac⟩ : FctE).cells 45))
  have HS := Lib.hid (hs.bel HB.out)
  have HE : Hid (inR f.base 0 (f.rev - 1) = (decide (0 ≤ f.base) && decide (f.base ≤ f.rev - 1))) := Lib.hid rfl
  clear hs h
  go_enter Tryz.func44, Tryz.ntmps44
  go_upto_region 1 with fail
  generalize hW1 : World.alloc w _ = W1 at *
  clear hW1
  have d5 : W1.cell? ⟨w.heap.size, 5, none⟩ = some (.int .i64 f.rev) := blk_cell HN.out 5
  have d6 : W1.cell? ⟨w.heap.size, 6, none⟩ = some (.int .i64 f.base) := blk_cell HN.out 6
  obtain ⟨x, hx⟩ : ∃ x, f.base = x := ⟨_, rfl⟩
  obtain ⟨y, hy⟩ : ∃ y, f.rev = y := ⟨_, rfl⟩
  rw [hx] at d6 HE
  rw [hy] at d5 HE
  have HX := Lib.hid hx
  have HY := Lib.hid hy
  clear hx hy
  by_cases k1 : (0 : Int) ≤ x
  · by_cases k2 : x ≤ y - 1
    · have HV : Hid (inR x 0 (y - 1) = true) := Lib.hid (HE.out.trans (by rw [decide_eq_true k1, decide_eq_true k2]; rfl))
      have k3 : x < y := by omega
      go_wp2_with fail
      go_ret
      exact ⟨by show _ = Ending.returned (.bool (inR f.base 0 (f.rev - 1))); rw [HX.out, HY.out, HV.out]; rfl, HB.out⟩
    · have HV : Hid (inR x 0 (y - 1) = false) := Lib.hid (HE.out.trans (by rw [decide_eq_false k2, Bool.and_false]))
      have k3 : ¬ x < y := by omega
      go_wp2_with fail
      go_ret
      exact ⟨by show _ = Ending.returned (.bool (inR f.base 0 (f.rev - 1))); rw [HX.out, HY.out, HV.out]; rfl, HB.out⟩
  · have HV : Hid (inR x 0 (y - 1) = false) := Lib.hid (HE.out.trans (by rw [decide_eq_false k1, Bool.false_and]))
    go_wp2_with fail
    go_ret
    exact ⟨by show _ = Ending.returned (.bool (inR f.base 0 (f.rev - 1))); rw [HX.out, HY.out, HV.out]; rfl, HB.out⟩
set_option maxRecDepth 100000 in
set_option maxHeartbeats 2000000 in
theorem right_108 {mem : Addr → Option Value} (e : FctE) (h : e.ok mem) (w : World) (hs : Sees mem w) :
    Calls Tryz.prog 44 #[.agg e.cells, .int .u8 108] w fun r w' => r = .returned (.bool (nameOK e.f.lang)) ∧ Below w.heap.size w w' := by
  obtain ⟨f, ta, tc, ba, bc, aa, ac⟩ := e
  have HN := Lib.hid (World.alloc_heap_new w (.cells (⟨f, ta, tc, ba, bc, aa, ac⟩ : FctE).cells 45))
  have HB := Lib.hid ((Below.refl w.heap.size w).alloc (Nat.le_refl _) (.cells (⟨f, ta, tc, ba, bc, aa, ac⟩ : FctE).cells 45))
  have HS := Lib.hid (hs.bel HB.out)
  have c1 : Hid (∀ W, Sees mem W → Calls Tryz.prog _ #[.string f.lang] W fun e w' => e = .returned (.bool (nameOK f.lang)) ∧ Below W.heap.size W w') := Lib.hid fun W _ => (isNameR_any f.lang W h.fok.s4).mono (by rintro e w' ⟨rfl, rfl⟩; exact ⟨rfl, Below.refl _ _⟩)
  clear hs h
  go_enter Tryz.func44, Tryz.ntmps44
  go_upto_region 1 with fail
  generalize hW1 : World.alloc w _ = W1 at *
  clear hW1
  have d4 : W1.cell? ⟨w.heap.size, 4, none⟩ = some (.string f.lang) := blk_cell HN.out 4
  go_wp2_with fail
  refine (c1.out _ HS.out).mono ?_
  rintro e w2 ⟨rfl, hb⟩
  have HB2 := Lib.hid (HB.out.trans (hb.mono HB.out.size))
  clear hb
  go_wp2_with fail
  go_ret
  exact ⟨rfl, HB2.out⟩
set_option maxRecDepth 100000 in
set_option maxHeartbeats 2000000 in
theorem right_116 {mem : Addr → Option Value} (e : FctE) (h : e.ok mem) (w : World) (hs : Sees mem w) :
    Calls Tryz.prog 44 #[.agg e.cells, .int .u8 116] w fun r w' => r = .returned (.bool (fullOK e.f.title)) ∧ Below w.heap.size w w' := by
  obtain ⟨f, ta, tc, ba, bc, aa, ac⟩ := e
  have HN := Lib.hid (World.alloc_heap_new w (.cells (⟨f, ta, tc, ba, bc, aa, ac⟩ : FctE).cells 45))
  have HB := Lib.hid ((Below.refl w.heap.size w).alloc (Nat.le_refl _) (.cells (⟨f, ta, tc, ba, bc, aa, ac⟩ : FctE).cells 45))
  have HS := Lib.hid (hs.bel HB.out)
  have c1 : Hid (∀ W, Sees mem W → Calls Tryz.prog _ #[.string f.title] W fun e w' => e = .returned (.bool (fullOK f.title)) ∧ Below W.heap.size W w') := Lib.hid fun W _ => (isText5_any f.title W h.fok.s7).mono (by rintro e w' ⟨rfl, rfl⟩; exact ⟨rfl, Below.refl _ _⟩)
  clear hs h
  go_enter Tryz.func44, Tryz.ntmps44
  go_upto_region 1 with fail
  generalize hW1 : World.alloc w _ = W1 at *
  clear hW1
  have d7 : W1.cell? ⟨w.heap.size, 7, none⟩ = some (.string f.title) := blk_cell HN.out 7
  go_wp2_with fail
  refine (c1.out _ HS.out).mono ?_
  rintro e w2 ⟨rfl, hb⟩
  have HB2 := Lib.hid (HB.out.trans (hb.mono HB.out.size))
  clear hb
  go_wp2_with fail
  go_ret
  exact ⟨rfl, HB2.out⟩
set_option maxRecDepth 100000 in
set_option maxHeartbeats 2000000 in
theorem right_117 {mem : Addr → Option Value} (e : FctE) (h : e.ok mem) (w : World) (hs : Sees mem w) :
    Calls Tryz.prog 44 #[.agg e.cells, .int .u8 117] w fun r w' => r = .returned (.bool (nameOK e.f.author)) ∧ Below w.heap.size w w' := by
  obtain ⟨f, ta, tc, ba, bc, aa, ac⟩ := e
  have HN := Lib.hid (World.alloc_heap_new w (.cells (⟨f, ta, tc, ba, bc, aa, ac⟩ : FctE).cells 45))
  have HB := Lib.hid ((Below.refl w.heap.size w).alloc (Nat.le_refl _) (.cells (⟨f, ta, tc, ba, bc, aa, ac⟩ : FctE).cells 45))
  have HS := Lib.hid (hs.bel HB.out)
  have c1 : Hid (∀ W, Sees mem W → Calls Tryz.prog _ #[.string f.author] W fun e w' => e = .returned (.bool (nameOK f.author)) ∧ Below W.heap.size W w') := Lib.hid fun W _ => (isNameR_any f.author W h.fok.s8).mono (by rintro e w' ⟨rfl, rfl⟩; exact ⟨rfl, Below.refl _ _⟩)
  clear hs h
  go_enter Tryz.func44, Tryz.ntmps44
  go_upto_region 1 with fail
  generalize hW1 : World.alloc w _ = W1 at *
  clear hW1
  have d8 : W1.cell? ⟨w.heap.size, 8, none⟩ = some (.string f.author) := blk_cell HN.out 8
  go_wp2_with fail
  refine (c1.out _ HS.out).mono ?_
  rintro e w2 ⟨rfl, hb⟩
  have HB2 := Lib.hid (HB.out.trans (hb.mono HB.out.size))
  clear hb
  go_wp2_with fail
  go_ret
  exact ⟨rfl, HB2.out⟩
set_option maxRecDepth 100000 in
set_option maxHeartbeats 2000000 in
theorem right_109 {mem : Addr → Option Value} (e : FctE) (h : e.ok mem) (w : World) (hs : Sees mem w) :
    Calls Tryz.prog 44 #[.agg e.cells, .int .u8 109] w fun r w' => r = .returned (.bool (nameOK e.f.name)) ∧ Below w.heap.size w w' := by
  obtain ⟨f, ta, tc, ba, bc, aa, ac⟩ := e
  have HN := Lib.hid (World.alloc_heap_new w (.cells (⟨f, ta, tc, ba, bc, aa, ac⟩ : FctE).cells 45))
  have HB := Lib.hid ((Below.refl w.heap.size w).alloc (Nat.le_refl _) (.cells (⟨f, ta, tc, ba, bc, aa, ac⟩ : FctE).cells 45))
  have HS := Lib.hid (hs.bel HB.out)
  have c1 : Hid (∀ W, Sees mem W → Calls Tryz.prog _ #[.string f.name] W fun e w' => e = .returned (.bool (nameOK f.name)) ∧ Below W.heap.size W w') := Lib.hid fun W _ => (isNameR_any f.name W h.fok.s19).mono (by rintro e w' ⟨rfl, rfl⟩; exact ⟨rfl, Below.refl _ _⟩)
  clear hs h
  go_enter Tryz.func44, Tryz.ntmps44
  go_upto_region 1 with fail
  generalize hW1 : World.alloc w _ = W1 at *
  clear hW1
  have d19 : W1.cell? ⟨w.heap.size, 19, none⟩ = some (.string f.name) := blk_cell HN.out 19
  go_wp2_with fail
  refine (c1.out _ HS.out).mono ?_
  rintro e w2 ⟨rfl, hb⟩
  have HB2 := Lib.hid (HB.out.trans (hb.mono HB.out.size))
  clear hb
  go_wp2_with fail
  go_ret
  exact ⟨rfl, HB2.out⟩
set_option maxRecDepth 100000 in
set_option maxHeartbeats 2000000 in
theorem right_120s {mem : Addr → Option Value} (e : FctE) (h : e.ok mem) (hk : e.f.kind = 7) (w : World) (hs : Sees mem w) :
    Calls Tryz.prog 44 #[.agg e.cells, .int .u8 120] w fun r w' => r = .returned (.bool (srcOK e.f.text)) ∧ Below w.heap.size w w' := by
  obtain ⟨f, ta, tc, ba, bc, aa, ac⟩ := e
  have HN := Lib.hid (World.alloc_heap_new w (.cells (⟨f, ta, tc, ba, bc, aa, ac⟩ : FctE).cells 45))
  have HB := Lib.hid ((Below.refl w.heap.size w).alloc (Nat.le_refl _) (.cells (⟨f, ta, tc, ba, bc, aa, ac⟩ : FctE).cells 45))
  have HS := Lib.hid (hs.bel HB.out)
  have c1 : Hid (∀ W, Sees mem W → Calls Tryz.prog _ #[.string f.text] W fun e w' => e = .returned (.bool (srcOK f.text)) ∧ Below W.heap.size W w') := Lib.hid fun W _ => (isSource5_any f.text W h.fok.s18).mono (by rintro e w' ⟨rfl, rfl⟩; exact ⟨rfl, Below.refl _ _⟩)
  dsimp only at hk
  clear hs h
  go_enter Tryz.func44, Tryz.ntmps44
  go_upto_region 1 with fail
  generalize hW1 : World.alloc w _ = W1 at *
  clear hW1
  have d2 : W1.cell? ⟨w.heap.size, 2, none⟩ = some (.int .i64 f.kind) := blk_cell HN.out 2
  have d18 : W1.cell? ⟨w.heap.size, 18, none⟩ = some (.string f.text) := blk_cell HN.out 18
  generalize f.kind = x at *
  go_wp2_with fail
  refine (c1.out _ HS.out).mono ?_
  rintro e w2 ⟨rfl, hb⟩
  have HB2 := Lib.hid (HB.out.trans (hb.mono HB.out.size))
  clear hb
  go_wp2_with fail
  go_ret
  exact ⟨rfl, HB2.out⟩
set_option maxRecDepth 100000 in
set_option maxHeartbeats 2000000 in
theorem right_120t {mem : Addr → Option Value} (e : FctE) (h : e.ok mem) (hk : ¬ e.f.kind = 7) (w : World) (hs : Sees mem w) :
    Calls Tryz.prog 44 #[.agg e.cells, .int .u8 120] w fun r w' => r = .returned (.bool (fullOK e.f.text)) ∧ Below w.heap.size w w' := by
  obtain ⟨f, ta, tc, ba, bc, aa, ac⟩ := e
  have HN := Lib.hid (World.alloc_heap_new w (.cells (⟨f, ta, tc, ba, bc, aa, ac⟩ : FctE).cells 45))
  have HB := Lib.hid ((Below.refl w.heap.size w).alloc (Nat.le_refl _) (.cells (⟨f, ta, tc, ba, bc, aa, ac⟩ : FctE).cells 45))
  have HS := Lib.hid (hs.bel HB.out)
  have c1 : Hid (∀ W, Sees mem W → Calls Tryz.prog _ #[.string f.text] W fun e w' => e = .returned (.bool (fullOK f.text)) ∧ Below W.heap.size W w') := Lib.hid fun W _ => (isText5_any f.text W h.fok.s18).mono (by rintro e w' ⟨rfl, rfl⟩; exact ⟨rfl, Below.refl _ _⟩)
  dsimp only at hk
  clear hs h
  go_enter Tryz.func44, Tryz.ntmps44
  go_upto_region 1 with fail
  generalize hW1 : World.alloc w _ = W1 at *
  clear hW1
  have d2 : W1.cell? ⟨w.heap.size, 2, none⟩ = some (.int .i64 f.kind) := blk_cell HN.out 2
  have d18 : W1.cell? ⟨w.heap.size, 18, none⟩ = some (.string f.text) := blk_cell HN.out 18
  generalize f.kind = x at *
  go_wp2_with fail
  refine (c1.out _ HS.out).mono ?_
  rintro e w2 ⟨rfl, hb⟩
  have HB2 := Lib.hid (HB.out.trans (hb.mono HB.out.size))
  clear hb
  go_wp2_with fail
  go_ret
  exact ⟨rfl, HB2.out⟩
set_option maxRecDepth 100000 in
set_option maxHeartbeats 2000000 in
theorem right_111 {mem : Addr → Option Value} (e : FctE) (h : e.ok mem) (w : World) (hs : Sees mem w) :
    Calls Tryz.prog 44 #[.agg e.cells, .int .u8 111] w fun r w' => r = .returned (.bool (topicsOK e.f.topics)) ∧ Below w.heap.size w w' := by
  obtain ⟨f, ta, tc, ba, bc, aa, ac⟩ := e
  have HN := Lib.hid (World.alloc_heap_new w (.cells (⟨f, ta, tc, ba, bc, aa, ac⟩ : FctE).cells 45))
  have HB := Lib.hid ((Below.refl w.heap.size w).alloc (Nat.le_refl _) (.cells (⟨f, ta, tc, ba, bc, aa, ac⟩ : FctE).cells 45))
  have HS := Lib.hid (hs.bel HB.out)
  have hp : Parts mem f (.slice ta f.topics.length tc) (.slice ba f.blocks.length bc) (.slice aa f.lab.after.length ac) := h.parts
  have c1 : Hid (∀ W, Sees mem W → Calls Tryz.prog _ #[.slice ta f.topics.length tc] W fun e w' => e = .returned (.bool (topicsOK f.topics)) ∧ Below W.heap.size W w') := Lib.hid fun W hW => areTopics5_any hp.1 W hW
  clear hs h hp
  go_enter Tryz.func44, Tryz.ntmps44
  go_upto_region 1 with fail
  generalize hW1 : World.alloc w _ = W1 at *
  clear hW1
  have d9 : W1.cell? ⟨w.heap.size, 9, none⟩ = some (.slice ta f.topics.length tc) := blk_cell HN.out 9
  go_wp2_with fail
  refine (c1.out _ HS.out).mono ?_
  rintro e w2 ⟨rfl, hb⟩
  have HB2 := Lib.hid (HB.out.trans (hb.mono HB.out.size))
  clear hb
  go_wp2_with fail
  go_ret
  exact ⟨rfl, HB2.out⟩
set_option maxRecDepth 100000 in
set_option maxHeartbeats 2000000 in
theorem right_98 {mem : Addr → Option Value} (e : FctE) (h : e.ok mem) (w : World) (hs : Sees mem w) :
    Calls Tryz.prog 44 #[.agg e.cells, .int .u8 98] w fun r w' => r = .returned (.bool (decide (ValidL e.f.blocks))) ∧ Below w.heap.size w w' := by
  obtain ⟨f, ta, tc, ba, bc, aa, ac⟩ := e
  have HN := Lib.hid (World.alloc_heap_new w (.cells (⟨f, ta, tc, ba, bc, aa, ac⟩ : FctE).cells 45))
  have HB := Lib.hid ((Below.refl w.heap.size w).alloc (Nat.le_refl _) (.cells (⟨f, ta, tc, ba, bc, aa, ac⟩ : FctE).cells 45))
  have HS := Lib.hid (hs.bel HB.out)
  have hp : Parts mem f (.slice ta f.topics.length tc) (.slice ba f.blocks.length bc) (.slice aa f.lab.after.length ac) := h.parts
  have c1 : Hid (∀ W, Sees mem W → Calls Tryz.prog _ #[.slice ba f.blocks.length bc] W fun e w' => e = .returned (.bool (decide (ValidL f.blocks))) ∧ Below W.heap.size W w') := Lib.hid fun W hW => validListR_any hp.2.1 W hW
  clear hs h hp
  go_enter Tryz.func44, Tryz.ntmps44
  go_upto_region 1 with fail
  generalize hW1 : World.alloc w _ = W1 at *
  clear hW1
  have d10 : W1.cell? ⟨w.heap.size, 10, none⟩ = some (.slice ba f.blocks.length bc) := blk_cell HN.out 10
  go_wp2_with fail
  refine (c1.out _ HS.out).mono ?_
  rintro e w2 ⟨rfl, hb⟩
  have HB2 := Lib.hid (HB.out.trans (hb.mono HB.out.size))
  clear hb
  go_wp2_with fail
  go_ret
  exact ⟨rfl, HB2.out⟩
set_option maxRecDepth 100000 in
set_option maxHeartbeats 2000000 in
theorem right_76 {mem : Addr → Option Value} (e : FctE) (h : e.ok mem) (w : World) (hs : Sees mem w) :
    Calls Tryz.prog 44 #[.agg e.cells, .int .u8 76] w fun r w' => r = .returned (.bool (validLab e.f.lab)) ∧ Below w.heap.size w w' := by
  obtain ⟨f, ta, tc, ba, bc, aa, ac⟩ := e
  have HN := Lib.hid (World.alloc_heap_new w (.cells (⟨f, ta, tc, ba, bc, aa, ac⟩ : FctE).cells 45))
  have HB := Lib.hid ((Below.refl w.heap.size w).alloc (Nat.le_refl _) (.cells (⟨f, ta, tc, ba, bc, aa, ac⟩ : FctE).cells 45))
  have HS := Lib.hid (hs.bel HB.out)
  have hp : Parts mem f (.slice ta f.topics.length tc) (.slice ba f.blocks.length bc) (.slice aa f.lab.after.length ac) := h.parts
  have c1 : Hid (∀ W, Sees mem W → Calls Tryz.prog _ #[.agg (labCells f.lab (.slice aa f.lab.after.length ac))] W fun e w' => e = .returned (.bool (validLab f.lab)) ∧ Below W.heap.size W w') := Lib.hid fun W hW => labValidR_any f.lab _ hp.2.2 W hW
  clear hs h hp
  go_enter Tryz.func44, Tryz.ntmps44
  go_upto_region 1 with fail
  generalize hW1 : World.alloc w _ = W1 at *
  clear hW1
  have d11 : W1.cell? ⟨w.heap.size, 11, none⟩ = some (.int .i64 f.lab.till) := blk_cell HN.out 11
  have d12 : W1.cell? ⟨w.heap.size, 12, none⟩ = some (.slice aa f.lab.after.length ac) := blk_cell HN.out 12
  have d13 : W1.cell? ⟨w.heap.size, 13, none⟩ = some (.int .i64 f.lab.appr) := blk_cell HN.out 13
  have d14 : W1.cell? ⟨w.heap.size, 14, none⟩ = some (.int .i64 f.lab.denied) := blk_cell HN.out 14
  go_wp2_with fail
  refine (c1.out _ HS.out).mono ?_
  rintro e w2 ⟨rfl, hb⟩
  have HB2 := Lib.hid (HB.out.trans (hb.mono HB.out.size))
  clear hb
  go_wp2_with fail
  go_ret
  exact ⟨rfl, HB2.out⟩
end Go.Proofs.YtgbihmafmmeicaaGreatDoor
/-
  WHAT IS PROVED HERE: the reference's right at the fields of the laws' kinds, and without. No condition but that the fact lies in memory. Printed by tools/ahj.py.
-/
namespace Go.Proofs.YtgbihmafmmeicaaGreatDoor
open Go.RowKit Mg Go.Shelf

/-- the fields of the laws' kinds -/
def lawC : List UInt8 := [115, 108, 114, 97, 116, 117, 111, 98, 76, 101, 107, 110, 120, 109]
/-- a field is as it must be -/
def rightF (f : Fct) (c : UInt8) : Bool :=
  if c = 115 then (inR f.story 1 64) else
  if c = 108 then (nameOK f.lang) else
  if c = 114 then (inR f.rev 1 100) else
  if c = 97 then (inR f.base 0 (f.rev - 1)) else
  if c = 116 then (fullOK f.title) else
  if c = 117 then (nameOK f.author) else
  if c = 111 then (topicsOK f.topics) else
  if c = 98 then (decide (ValidL f.blocks)) else
  if c = 76 then (validLab f.lab) else
  if c = 101 then (inR f.editor 1 5) else
  if c = 107 then (inR f.block 1 1000) else
  if c = 110 then (inR f.sentence 0 299) else
  if c = 120 then (if f.kind = 7 then srcOK f.text else fullOK f.text) else
  if c = 109 then (nameOK f.name) else
  false
/-- the fact without a field -/
def dropE (e : FctE) (c : UInt8) : FctE :=
  if c = 115 then { e with f := { e.f with story := 0 } } else
  if c = 108 then { e with f := { e.f with lang := str0 } } else
  if c = 114 then { e with f := { e.f with rev := 0 } } else
  if c = 97 then { e with f := { e.f with base := 0 } } else
  if c = 116 then { e with f := { e.f with title := str0 } } else
  if c = 117 then { e with f := { e.f with author := str0 } } else
  if c = 111 then { e with f := { e.f with topics := [] }, ta := none, tc := 0 } else
  if c = 98 then { e with f := { e.f with blocks := [] }, ba := none, bc := 0 } else
  if c = 76 then { e with f := { e.f with lab := lab0 }, aa := none, ac := 0 } else
  if c = 101 then { e with f := { e.f with editor := 0 } } else
  if c = 107 then { e with f := { e.f with block := 0 } } else
  if c = 110 then { e with f := { e.f with sentence := 0 } } else
  if c = 120 then { e with f := { e.f with text := str0 } } else
  if c = 109 then { e with f := { e.f with name := str0 } } else
  e
theorem right_any {mem : Addr → Option Value} (e : FctE) (h : e.ok mem) (c : UInt8) (hc : c ∈ lawC) (w : World) (hs : Sees mem w) :
    Calls Tryz.prog 44 #[.agg e.cells, .int .u8 c.toNat] w fun r w' => r = .returned (.bool (rightF e.f c)) ∧ Below w.heap.size w w' := by
  unfold lawC at hc
  simp only [List.mem_cons, List.not_mem_nil, or_false] at hc
  rcases hc with rfl | rfl | rfl | rfl | rfl | rfl | rfl | rfl | rfl | rfl | rfl | rfl | rfl | rfl
  · exact right_115 e h w hs
  · exact right_108 e h w hs
  · exact right_114 e h w hs
  · exact right_97 e h w hs
  · exact right_116 e h w hs
  · exact right_117 e h w hs
  · exact right_111 e h w hs
  · exact right_98 e h w hs
  · exact right_76 e h w hs
  · exact right_101 e h w hs
  · exact right_107 e h w hs
  · exact right_110 e h w hs
  · have HR : rightF e.f 120 = if e.f.kind = 7 then srcOK e.f.text else fullOK e.f.text := rfl
    by_cases h7 : e.f.kind = 7
    · rw [HR, if_pos h7]
      exact right_120s e h h7 w hs
    · rw [HR, if_neg h7]
      exact right_120t e h h7 w hs
  · exact right_109 e h w hs
/-- the two blocks of without: its argument, its result -/
structure GW (w : World) (A Z : Array Value) (W : World) : Prop where
  a : W.heap[w.heap.size]? = some (.cells A 45 (0, 0))
  z : W.heap[w.heap.size + 1]? = some (.cells Z 45 (0, 0))
  b : Below w.heap.size w W
theorem GW.new (w : World) (A Z : Array Value) : GW w A Z ((w.alloc (.cells A 45)).alloc (.cells Z 45)) :=
  ⟨heap_new1 w _ _, heap_new2 w _ _, ((Below.refl _ w).alloc (Nat.le_refl _) _).alloc (by simp) _⟩
section
variable {w W W' : World} {A Z : Array Value}
theorem GW.setZ (h : GW w A Z W) (cs : Array Value) : GW w A cs (W.setRow (w.heap.size + 1) cs) :=
  ⟨(setRow_other _ _ _ _ (by omega)).trans h.a, setRow_heap _ _ _ _ _ _ h.z, below_setRow h.b (by omega) _⟩
theorem GW.setA (h : GW w A Z W) (j : Nat) (v : Value) : GW w (A.setIfInBounds j v) Z (W.setCell ⟨w.heap.size, j, none⟩ v) := by
  rw [setCell_eq_setRow W _ j A 45 (0, 0) v h.a]
  exact ⟨setRow_heap _ _ _ _ _ _ h.a, (setRow_other _ _ _ _ (by omega)).trans h.z, below_setRow h.b (by omega) _⟩
theorem without_results (h : GW w A Z W) (hz : Z.size = 23) {t : Array Value} (h4 : t[4]? = some (.pointer (some ⟨w.heap.size + 1, 0, none⟩))) :
    (results Tryz.f45 t).run Tryz.prog W = .ok (.agg Z) W := by
  obtain ⟨fs, hu⟩ := fct_under
  have hl := run_loadVar_row (P := Tryz.prog) W (w.heap.size + 1) 45 45 Z (0, 0) _ h.z hu rfl (by rw [fct_size, hz])
  simp [results, h4, hl, asAddr]
end
set_option maxRecDepth 100000 in
set_option maxHeartbeats 2000000 in
theorem without_115 (e : FctE) (w : World) :
    Calls Tryz.prog 45 #[.agg e.cells, .int .u8 115] w fun r w' => r = .returned (.agg (dropE e 115).cells) ∧ Below w.heap.size w w' := by
  obtain ⟨A, hA⟩ : ∃ A, e.cells = A := ⟨_, rfl⟩
  rw [hA]
  have hE : (dropE e 115).cells = (A.setIfInBounds 3 (.int .i64 0)) := by rw [← hA]; rfl
  have hz : Hid ((A.setIfInBounds 3 (.int .i64 0)).size = 23) := Lib.hid (by rw [← hE]; rfl)
  have hone : Hid ((A.setIfInBounds 3 (.int .i64 0)).all (·.oneCell') = true) := Lib.hid (by rw [← hE]; exact FctE.one _)
  rw [hE]
  obtain ⟨v3, hv3⟩ : ∃ v, A[3]? = some v := ⟨_, by rw [← hA]; rfl⟩
  clear hE hA
  go_enter Tryz.func45, Tryz.ntmps45
  go_upto_region 1 with fail
  generalize hW : World.alloc (World.alloc w _) _ = W1
  have h0 : Hid (GW w A zeroFct W1) := Lib.hid (by rw [← hW]; exact GW.new w _ _)
  clear hW
  have d3 := (blk_cell h0.out.a 3).trans hv3
  have g3 := blk_free h0.out.a 3
  go_upto_region 35 with fail
  generalize hW2 : (World.setCell W1 _ _) = W2
  have h1 : Hid (GW w (A.setIfInBounds 3 (.int .i64 0)) zeroFct W2) := Lib.hid (by rw [← hW2]; exact (h0.out).setA 3 (.int .i64 0))
  clear hW2
  go_wp2_with (first
    | ((with_reducible refine at_fload _ rfl ?_); go_must (refine wpList_fct_load rfl _ rfl w.heap.size (by simp [Act.eval]) _ h1.out.a hz.out ?_))
    | ((with_reducible refine at_fstore _ _ rfl ?_); go_must (refine wpList_store_rowTo rfl 45 _ _ rfl rfl (w.heap.size + 1) _ (by rfl) (by rfl) 45 _ h1.out.z (by rw [fct_size, hz.out]) (by rw [hz.out]; rfl) hone.out ?_)))
  refine bodyPost_ret (without_results (h1.out.setZ _) hz.out (by rfl)) rfl ?_
  exact ⟨rfl, (h1.out.setZ _).b⟩
set_option maxRecDepth 100000 in
set_option maxHeartbeats 2000000 in
theorem without_108 (e : FctE) (w : World) :
    Calls Tryz.prog 45 #[.agg e.cells, .int .u8 108] w fun r w' => r = .returned (.agg (dropE e 108).cells) ∧ Below w.heap.size w w' := by
  obtain ⟨A, hA⟩ : ∃ A, e.cells = A := ⟨_, rfl⟩
  rw [hA]
  have hE : (dropE e 108).cells = (A.setIfInBounds 4 (.string .empty)) := by rw [← hA]; rfl
  have hz : Hid ((A.setIfInBounds 4 (.string .empty)).size = 23) := Lib.hid (by rw [← hE]; rfl)
  have hone : Hid ((A.setIfInBounds 4 (.string .empty)).all (·.oneCell') = true) := Lib.hid (by rw [← hE]; exact FctE.one _)
  rw [hE]
  obtain ⟨v4, hv4⟩ : ∃ v, A[4]? = some v := ⟨_, by rw [← hA]; rfl⟩
  clear hE hA
  go_enter Tryz.func45, Tryz.ntmps45
  go_upto_region 1 with fail
  generalize hW : World.alloc (World.alloc w _) _ = W1
  have h0 : Hid (GW w A zeroFct W1) := Lib.hid (by rw [← hW]; exact GW.new w _ _)
  clear hW
  have d4 := (blk_cell h0.out.a 4).trans hv4
  have g4 := blk_free h0.out.a 4
  go_upto_region 35 with fail
  generalize hW2 : (World.setCell W1 _ _) = W2
  have h1 : Hid (GW w (A.setIfInBounds 4 (.string .empty)) zeroFct W2) := Lib.hid (by rw [← hW2]; exact (h0.out).setA 4 (.string .empty))
  clear hW2
  go_wp2_with (first
    | ((with_reducible refine at_fload _ rfl ?_); go_must (refine wpList_fct_load rfl _ rfl w.heap.size (by simp [Act.eval]) _ h1.out.a hz.out ?_))
    | ((with_reducible refine at_fstore _ _ rfl ?_); go_must (refine wpList_store_rowTo rfl 45 _ _ rfl rfl (w.heap.size + 1) _ (by rfl) (by rfl) 45 _ h1.out.z (by rw [fct_size, hz.out]) (by rw [hz.out]; rfl) hone.out ?_)))
  refine bodyPost_ret (without_results (h1.out.setZ _) hz.out (by rfl)) rfl ?_
  exact ⟨rfl, (h1.out.setZ _).b⟩
set_option maxRecDepth 100000 in
set_option maxHeartbeats 2000000 in
theorem without_114 (e : FctE) (w : World) :
    Calls Tryz.prog 45 #[.agg e.cells, .int .u8 114] w fun r w' => r = .returned (.agg (dropE e 114).cells) ∧ Below w.heap.size w w' := by
  obtain ⟨A, hA⟩ : ∃ A, e.cells = A := ⟨_, rfl⟩
  rw [hA]
  have hE : (dropE e 114).cells = (A.setIfInBounds 5 (.int .i64 0)) := by rw [← hA]; rfl
  have hz : Hid ((A.setIfInBounds 5 (.int .i64 0)).size = 23) := Lib.hid (by rw [← hE]; rfl)
  have hone : Hid ((A.setIfInBounds 5 (.int .i64 0)).all (·.oneCell') = true) := Lib.hid (by rw [← hE]; exact FctE.one _)
  rw [hE]
  obtain ⟨v5, hv5⟩ : ∃ v, A[5]? = some v := ⟨_, by rw [← hA]; rfl⟩
  clear hE hA
  go_enter Tryz.func45, Tryz.ntmps45
  go_upto_region 1 with fail
  generalize hW : World.alloc (World.alloc w _) _ = W1
  have h0 : Hid (GW w A zeroFct W1) := Lib.hid (by rw [← hW]; exact GW.new w _ _)
  clear hW
  have d5 := (blk_cell h0.out.a 5).trans hv5
  have g5 := blk_free h0.out.a 5
  go_upto_region 35 with fail
  generalize hW2 : (World.setCell W1 _ _) = W2
  have h1 : Hid (GW w (A.setIfInBounds 5 (.int .i64 0)) zeroFct W2) := Lib.hid (by rw [← hW2]; exact (h0.out).setA 5 (.int .i64 0))
  clear hW2
  go_wp2_with (first
    | ((with_reducible refine at_fload _ rfl ?_); go_must (refine wpList_fct_load rfl _ rfl w.heap.size (by simp [Act.eval]) _ h1.out.a hz.out ?_))
    | ((with_reducible refine at_fstore _ _ rfl ?_); go_must (refine wpList_store_rowTo rfl 45 _ _ rfl rfl (w.heap.size + 1) _ (by rfl) (by rfl) 45 _ h1.out.z (by rw [fct_size, hz.out]) (by rw [hz.out]; rfl) hone.out ?_)))
  refine bodyPost_ret (without_results (h1.out.setZ _) hz.out (by rfl)) rfl ?_
  exact ⟨rfl, (h1.out.setZ _).b⟩
set_option maxRecDepth 100000 in
set_option maxHeartbeats 2000000 in
theorem without_97 (e : FctE) (w : World) :
    Calls Tryz.prog 45 #[.agg e.cells, .int .u8 97] w fun r w' => r = .returned (.agg (dropE e 97).cells) ∧ Below w.heap.size w w' := by
  obtain ⟨A, hA⟩ : ∃ A, e.cells = A := ⟨_, rfl⟩
  rw [hA]
  have hE : (dropE e 97).cells = (A.setIfInBounds 6 (.int .i64 0)) := by rw [← hA]; rfl
  have hz : Hid ((A.setIfInBounds 6 (.int .i64 0)).size = 23) := Lib.hid (by rw [← hE]; rfl)
  have hone : Hid ((A.setIfInBounds 6 (.int .i64 0)).all (·.oneCell') = true) := Lib.hid (by rw [← hE]; exact FctE.one _)
  rw [hE]
  obtain ⟨v6, hv6⟩ : ∃ v, A[6]? = some v := ⟨_, by rw [← hA]; rfl⟩
  clear hE hA
  go_enter Tryz.func45, Tryz.ntmps45
  go_upto_region 1 with fail
  generalize hW : World.alloc (World.alloc w _) _ = W1
  have h0 : Hid (GW w A zeroFct W1) := Lib.hid (by rw [← hW]; exact GW.new w _ _)
  clear hW
  have d6 := (blk_cell h0.out.a 6).trans hv6
  have g6 := blk_free h0.out.a 6
  go_upto_region 35 with fail
  generalize hW2 : (World.setCell W1 _ _) = W2
  have h1 : Hid (GW w (A.setIfInBounds 6 (.int .i64 0)) zeroFct W2) := Lib.hid (by rw [← hW2]; exact (h0.out).setA 6 (.int .i64 0))
  clear hW2
  go_wp2_with (first
    | ((with_reducible refine at_fload _ rfl ?_); go_must (refine wpList_fct_load rfl _ rfl w.heap.size (by simp [Act.eval]) _ h1.out.a hz.out ?_))
    | ((with_reducible refine at_fstore _ _ rfl ?_); go_must (refine wpList_store_rowTo rfl 45 _ _ rfl rfl (w.heap.size + 1) _ (by rfl) (by rfl) 45 _ h1.out.z (by rw [fct_size, hz.out]) (by rw [hz.out]; rfl) hone.out ?_)))
  refine bodyPost_ret (without_results (h1.out.setZ _) hz.out (by rfl)) rfl ?_
  exact ⟨rfl, (h1.out.setZ _).b⟩
set_option maxRecDepth 100000 in
set_option maxHeartbeats 2000000 in
theorem without_116 (e : FctE) (w : World) :
    Calls Tryz.prog 45 #[.agg e.cells, .int .u8 116] w fun r w' => r = .returned (.agg (dropE e 116).cells) ∧ Below w.heap.size w w' := by
  obtain ⟨A, hA⟩ : ∃ A, e.cells = A := ⟨_, rfl⟩
  rw [hA]
  have hE : (dropE e 116).cells = (A.setIfInBounds 7 (.string .empty)) := by rw [← hA]; rfl
  have hz : Hid ((A.setIfInBounds 7 (.string .empty)).size = 23) := Lib.hid (by rw [← hE]; rfl)
  have hone : Hid ((A.setIfInBounds 7 (.string .empty)).all (·.oneCell') = true) := Lib.hid (by rw [← hE]; exact FctE.one _)
  rw [hE]
  obtain ⟨v7, hv7⟩ : ∃ v, A[7]? = some v := ⟨_, by rw [← hA]; rfl⟩
  clear hE hA
  go_enter Tryz.func45, Tryz.ntmps45
  go_upto_region 1 with fail
  generalize hW : World.alloc (World.alloc w _) _ = W1
  have h0 : Hid (GW w A zeroFct W1) := Lib.hid (by rw [← hW]; exact GW.new w _ _)
  clear hW
  have d7 := (blk_cell h0.out.a 7).trans hv7
  have g7 := blk_free h0.out.a 7
  go_upto_region 35 with fail
  generalize hW2 : (World.setCell W1 _ _) = W2
  have h1 : Hid (GW w (A.setIfInBounds 7 (.string .empty)) zeroFct W2) := Lib.hid (by rw [← hW2]; exact (h0.out).setA 7 (.string .empty))
  clear hW2
  go_wp2_with (first
    | ((with_reducible refine at_fload _ rfl ?_); go_must (refine wpList_fct_load rfl _ rfl w.heap.size (by simp [Act.eval]) _ h1.out.a hz.out ?_))
    | ((with_reducible refine at_fstore _ _ rfl ?_); go_must (refine wpList_store_rowTo rfl 45 _ _ rfl rfl (w.heap.size + 1) _ (by rfl) (by rfl) 45 _ h1.out.z (by rw [fct_size, hz.out]) (by rw [hz.out]; rfl) hone.out ?_)))
  refine bodyPost_ret (without_results (h1.out.setZ _) hz.out (by rfl)) rfl ?_
  exact ⟨rfl, (h1.out.setZ _).b⟩
set_option maxRecDepth 100000 in
set_option maxHeartbeats 2000000 in
theorem without_117 (e : FctE) (w : World) :
    Calls Tryz.prog 45 #[.agg e.cells, .int .u8 117] w fun r w' => r = .returned (.agg (dropE e 117).cells) ∧ Below w.heap.size w w' := by
  obtain ⟨A, hA⟩ : ∃ A, e.cells = A := ⟨_, rfl⟩
  rw [hA]
  have hE : (dropE e 117).cells = (A.setIfInBounds 8 (.string .empty)) := by rw [← hA]; rfl
  have hz : Hid ((A.setIfInBounds 8 (.string .empty)).size = 23) := Lib.hid (by rw [← hE]; rfl)
  have hone : Hid ((A.setIfInBounds 8 (.string .empty)).all (·.oneCell') = true) := Lib.hid (by rw [← hE]; exact FctE.one _)
  rw [hE]
  obtain ⟨v8, hv8⟩ : ∃ v, A[8]? = some v := ⟨_, by rw [← hA]; rfl⟩
  clear hE hA
  go_enter Tryz.func45, Tryz.ntmps45
  go_upto_region 1 with fail
  generalize hW : World.alloc (World.alloc w _) _ = W1
  have h0 : Hid (GW w A zeroFct W1) := Lib.hid (by rw [← hW]; exact GW.new w _ _)
  clear hW
  have d8 := (blk_cell h0.out.a 8).trans hv8
  have g8 := blk_free h0.out.a 8
  go_upto_region 35 with fail
  generalize hW2 : (World.setCell W1 _ _) = W2
  have h1 : Hid (GW w (A.setIfInBounds 8 (.string .empty)) zeroFct W2) := Lib.hid (by rw [← hW2]; exact (h0.out).setA 8 (.string .empty))
  clear hW2
  go_wp2_with (first
    | ((with_reducible refine at_fload _ rfl ?_); go_must (refine wpList_fct_load rfl _ rfl w.heap.size (by simp [Act.eval]) _ h1.out.a hz.out ?_))
    | ((with_reducible refine at_fstore _ _ rfl ?_); go_must (refine wpList_store_rowTo rfl 45 _ _ rfl rfl (w.heap.size + 1) _ (by rfl) (by rfl) 45 _ h1.out.z (by rw [fct_size, hz.out]) (by rw [hz.out]; rfl) hone.out ?_)))
  refine bodyPost_ret (without_results (h1.out.setZ _) hz.out (by rfl)) rfl ?_
  exact ⟨rfl, (h1.out.setZ _).b⟩
set_option maxRecDepth 100000 in
set_option maxHeartbeats 2000000 in
theorem without_111 (e : FctE) (w : World) :
    Calls Tryz.prog 45 #[.agg e.cells, .int .u8 111] w fun r w' => r = .returned (.agg (dropE e 111).cells) ∧ Below w.heap.size w w' := by
  obtain ⟨A, hA⟩ : ∃ A, e.cells = A := ⟨_, rfl⟩
  rw [hA]
  have hE : (dropE e 111).cells = (A.setIfInBounds 9 (.slice none 0 0)) := by rw [← hA]; rfl
  have hz : Hid ((A.setIfInBounds 9 (.slice none 0 0)).size = 23) := Lib.hid (by rw [← hE]; rfl)
  have hone : Hid ((A.setIfInBounds 9 (.slice none 0 0)).all (·.oneCell') = true) := Lib.hid (by rw [← hE]; exact FctE.one _)
  rw [hE]
  obtain ⟨v9, hv9⟩ : ∃ v, A[9]? = some v := ⟨_, by rw [← hA]; rfl⟩
  clear hE hA
  go_enter Tryz.func45, Tryz.ntmps45
  go_upto_region 1 with fail
  generalize hW : World.alloc (World.alloc w _) _ = W1
  have h0 : Hid (GW w A zeroFct W1) := Lib.hid (by rw [← hW]; exact GW.new w _ _)
  clear hW
  have d9 := (blk_cell h0.out.a 9).trans hv9
  have g9 := blk_free h0.out.a 9
  go_upto_region 35 with fail
  generalize hW2 : (World.setCell W1 _ _) = W2
  have h1 : Hid (GW w (A.setIfInBounds 9 (.slice none 0 0)) zeroFct W2) := Lib.hid (by rw [← hW2]; exact (h0.out).setA 9 (.slice none 0 0))
  clear hW2
  go_wp2_with (first
    | ((with_reducible refine at_fload _ rfl ?_); go_must (refine wpList_fct_load rfl _ rfl w.heap.size (by simp [Act.eval]) _ h1.out.a hz.out ?_))
    | ((with_reducible refine at_fstore _ _ rfl ?_); go_must (refine wpList_store_rowTo rfl 45 _ _ rfl rfl (w.heap.size + 1) _ (by rfl) (by rfl) 45 _ h1.out.z (by rw [fct_size, hz.out]) (by rw [hz.out]; rfl) hone.out ?_)))
  refine bodyPost_ret (without_results (h1.out.setZ _) hz.out (by rfl)) rfl ?_
  exact ⟨rfl, (h1.out.setZ _).b⟩
set_option maxRecDepth 100000 in
set_option maxHeartbeats 2000000 in
theorem without_98 (e : FctE) (w : World) :
    Calls Tryz.prog 45 #[.agg e.cells, .int .u8 98] w fun r w' => r = .returned (.agg (dropE e 98).cells) ∧ Below w.heap.size w w' := by
  obtain ⟨A, hA⟩ : ∃ A, e.cells = A := ⟨_, rfl⟩
  rw [hA]
  have hE : (dropE e 98).cells = (A.setIfInBounds 10 (.slice none 0 0)) := by rw [← hA]; rfl
  have hz : Hid ((A.setIfInBounds 10 (.slice none 0 0)).size = 23) := Lib.hid (by rw [← hE]; rfl)
  have hone : Hid ((A.setIfInBounds 10 (.slice none 0 0)).all (·.oneCell') = true) := Lib.hid (by rw [← hE]; exact FctE.one _)
  rw [hE]
  obtain ⟨v10, hv10⟩ : ∃ v, A[10]? = some v := ⟨_, by rw [← hA]; rfl⟩
  clear hE hA
  go_enter Tryz.func45, Tryz.ntmps45
  go_upto_region 1 with fail
  generalize hW : World.alloc (World.alloc w _) _ = W1
  have h0 : Hid (GW w A zeroFct W1) := Lib.hid (by rw [← hW]; exact GW.new w _ _)
  clear hW
  have d10 := (blk_cell h0.out.a 10).trans hv10
  have g10 := blk_free h0.out.a 10
  go_upto_region 35 with fail
  generalize hW2 : (World.setCell W1 _ _) = W2
  have h1 : Hid (GW w (A.setIfInBounds 10 (.slice none 0 0)) zeroFct W2) := Lib.hid (by rw [← hW2]; exact (h0.out).setA 10 (.slice none 0 0))
  clear hW2
  go_wp2_with (first
    | ((with_reducible refine at_fload _ rfl ?_); go_must (refine wpList_fct_load rfl _ rfl w.heap.size (by simp [Act.eval]) _ h1.out.a hz.out ?_))
    | ((with_reducible refine at_fstore _ _ rfl ?_); go_must (refine wpList_store_rowTo rfl 45 _ _ rfl rfl (w.heap.size + 1) _ (by rfl) (by rfl) 45 _ h1.out.z (by rw [fct_size, hz.out]) (by rw [hz.out]; rfl) hone.out ?_)))
  refine bodyPost_ret (without_results (h1.out.setZ _) hz.out (by rfl)) rfl ?_
  exact ⟨rfl, (h1.out.setZ _).b⟩
set_option maxRecDepth 100000 in
set_option maxHeartbeats 2000000 in
theorem without_76 (e : FctE) (w : World) :
    Calls Tryz.prog 45 #[.agg e.cells, .int .u8 76] w fun r w' => r = .returned (.agg (dropE e 76).cells) ∧ Below w.heap.size w w' := by
  obtain ⟨A, hA⟩ : ∃ A, e.cells = A := ⟨_, rfl⟩
  rw [hA]
  have hE : (dropE e 76).cells = ((((A.setIfInBounds 11 (.int .i64 0)).setIfInBounds 12 (.slice none 0 0)).setIfInBounds 13 (.int .i64 0)).setIfInBounds 14 (.int .i64 0)) := by rw [← hA]; rfl
  have hz : Hid (((((A.setIfInBounds 11 (.int .i64 0)).setIfInBounds 12 (.slice none 0 0)).setIfInBounds 13 (.int .i64 0)).setIfInBounds 14 (.int .i64 0)).size = 23) := Lib.hid (by rw [← hE]; rfl)
  have hone : Hid (((((A.setIfInBounds 11 (.int .i64 0)).setIfInBounds 12 (.slice none 0 0)).setIfInBounds 13 (.int .i64 0)).setIfInBounds 14 (.int .i64 0)).all (·.oneCell') = true) := Lib.hid (by rw [← hE]; exact FctE.one _)
  rw [hE]
  obtain ⟨v11, hv11⟩ : ∃ v, A[11]? = some v := ⟨_, by rw [← hA]; rfl⟩
  obtain ⟨v12, hv12⟩ : ∃ v, A[12]? = some v := ⟨_, by rw [← hA]; rfl⟩
  obtain ⟨v13, hv13⟩ : ∃ v, A[13]? = some v := ⟨_, by rw [← hA]; rfl⟩
  obtain ⟨v14, hv14⟩ : ∃ v, A[14]? = some v := ⟨_, by rw [← hA]; rfl⟩
  clear hE hA
  go_enter Tryz.func45, Tryz.ntmps45
  go_upto_region 1 with fail
  generalize hW : World.alloc (World.alloc w _) _ = W1
  have h0 : Hid (GW w A zeroFct W1) := Lib.hid (by rw [← hW]; exact GW.new w _ _)
  clear hW
  have d11 := (blk_cell h0.out.a 11).trans hv11
  have g11 := blk_free h0.out.a 11
  have d12 := (blk_cell h0.out.a 12).trans hv12
  have g12 := blk_free h0.out.a 12
  have d13 := (blk_cell h0.out.a 13).trans hv13
  have g13 := blk_free h0.out.a 13
  have d14 := (blk_cell h0.out.a 14).trans hv14
  have g14 := blk_free h0.out.a 14
  go_upto_region 35 with fail
  generalize hW2 : (World.setCell (World.setCell (World.setCell (World.setCell W1 _ _) _ _) _ _) _ _) = W2
  have h1 : Hid (GW w ((((A.setIfInBounds 11 (.int .i64 0)).setIfInBounds 12 (.slice none 0 0)).setIfInBounds 13 (.int .i64 0)).setIfInBounds 14 (.int .i64 0)) zeroFct W2) := Lib.hid (by rw [← hW2]; exact ((((h0.out).setA 11 (.int .i64 0)).setA 12 (.slice none 0 0)).setA 13 (.int .i64 0)).setA 14 (.int .i64 0))
  clear hW2
  go_wp2_with (first
    | ((with_reducible refine at_fload _ rfl ?_); go_must (refine wpList_fct_load rfl _ rfl w.heap.size (by simp [Act.eval]) _ h1.out.a hz.out ?_))
    | ((with_reducible refine at_fstore _ _ rfl ?_); go_must (refine wpList_store_rowTo rfl 45 _ _ rfl rfl (w.heap.size + 1) _ (by rfl) (by rfl) 45 _ h1.out.z (by rw [fct_size, hz.out]) (by rw [hz.out]; rfl) hone.out ?_)))
  refine bodyPost_ret (without_results (h1.out.setZ _) hz.out (by rfl)) rfl ?_
  exact ⟨rfl, (h1.out.setZ _).b⟩
set_option maxRecDepth 100000 in
set_option maxHeartbeats 2000000 in
theorem without_101 (e : FctE) (w : World) :
    Calls Tryz.prog 45 #[.agg e.cells, .int .u8 101] w fun r w' => r = .returned (.agg (dropE e 101).cells) ∧ Below w.heap.size w w' := by
  obtain ⟨A, hA⟩ : ∃ A, e.cells = A := ⟨_, rfl⟩
  rw [hA]
  have hE : (dropE e 101).cells = (A.setIfInBounds 15 (.int .i64 0)) := by rw [← hA]; rfl
  have hz : Hid ((A.setIfInBounds 15 (.int .i64 0)).size = 23) := Lib.hid (by rw [← hE]; rfl)
  have hone : Hid ((A.setIfInBounds 15 (.int .i64 0)).all (·.oneCell') = true) := Lib.hid (by rw [← hE]; exact FctE.one _)
  rw [hE]
  obtain ⟨v15, hv15⟩ : ∃ v, A[15]? = some v := ⟨_, by rw [← hA]; rfl⟩
  clear hE hA
  go_enter Tryz.func45, Tryz.ntmps45
  go_upto_region 1 with fail
  generalize hW : World.alloc (World.alloc w _) _ = W1
  have h0 : Hid (GW w A zeroFct W1) := Lib.hid (by rw [← hW]; exact GW.new w _ _)
  clear hW
  have d15 := (blk_cell h0.out.a 15).trans hv15
  have g15 := blk_free h0.out.a 15
  go_upto_region 35 with fail
  generalize hW2 : (World.setCell W1 _ _) = W2
  have h1 : Hid (GW w (A.setIfInBounds 15 (.int .i64 0)) zeroFct W2) := Lib.hid (by rw [← hW2]; exact (h0.out).setA 15 (.int .i64 0))
  clear hW2
  go_wp2_with (first
    | ((with_reducible refine at_fload _ rfl ?_); go_must (refine wpList_fct_load rfl _ rfl w.heap.size (by simp [Act.eval]) _ h1.out.a hz.out ?_))
    | ((with_reducible refine at_fstore _ _ rfl ?_); go_must (refine wpList_store_rowTo rfl 45 _ _ rfl rfl (w.heap.size + 1) _ (by rfl) (by rfl) 45 _ h1.out.z (by rw [fct_size, hz.out]) (by rw [hz.out]; rfl) hone.out ?_)))
  refine bodyPost_ret (without_results (h1.out.setZ _) hz.out (by rfl)) rfl ?_
  exact ⟨rfl, (h1.out.setZ _).b⟩
set_option maxRecDepth 100000 in
set_option maxHeartbeats 2000000 in
theorem without_107 (e : FctE) (w : World) :
    Calls Tryz.prog 45 #[.agg e.cells, .int .u8 107] w fun r w' => r = .returned (.agg (dropE e 107).cells) ∧ Below w.heap.size w w' := by
  obtain ⟨A, hA⟩ : ∃ A, e.cells = A := ⟨_, rfl⟩
  rw [hA]
  have hE : (dropE e 107).cells = (A.setIfInBounds 16 (.int .i64 0)) := by rw [← hA]; rfl
  have hz : Hid ((A.setIfInBounds 16 (.int .i64 0)).size = 23) := Lib.hid (by rw [← hE]; rfl)
  have hone : Hid ((A.setIfInBounds 16 (.int .i64 0)).all (·.oneCell') = true) := Lib.hid (by rw [← hE]; exact FctE.one _)
  rw [hE]
  obtain ⟨v16, hv16⟩ : ∃ v, A[16]? = some v := ⟨_, by rw [← hA]; rfl⟩
  clear hE hA
  go_enter Tryz.func45, Tryz.ntmps45
  go_upto_region 1 with fail
  generalize hW : World.alloc (World.alloc w _) _ = W1
  have h0 : Hid (GW w A zeroFct W1) := Lib.hid (by rw [← hW]; exact GW.new w _ _)
  clear hW
  have d16 := (blk_cell h0.out.a 16).trans hv16
  have g16 := blk_free h0.out.a 16
  go_upto_region 35 with fail
  generalize hW2 : (World.setCell W1 _ _) = W2
  have h1 : Hid (GW w (A.setIfInBounds 16 (.int .i64 0)) zeroFct W2) := Lib.hid (by rw [← hW2]; exact (h0.out).setA 16 (.int .i64 0))
  clear hW2
  go_wp2_with (first
    | ((with_reducible refine at_fload _ rfl ?_); go_must (refine wpList_fct_load rfl _ rfl w.heap.size (by simp [Act.eval]) _ h1.out.a hz.out ?_))
    | ((with_reducible refine at_fstore _ _ rfl ?_); go_must (refine wpList_store_rowTo rfl 45 _ _ rfl rfl (w.heap.size + 1) _ (by rfl) (by rfl) 45 _ h1.out.z (by rw [fct_size, hz.out]) (by rw [hz.out]; rfl) hone.out ?_)))
  refine bodyPost_ret (without_results (h1.out.setZ _) hz.out (by rfl)) rfl ?_
  exact ⟨rfl, (h1.out.setZ _).b⟩
set_option maxRecDepth 100000 in
set_option maxHeartbeats 2000000 in
theorem without_110 (e : FctE) (w : World) :
    Calls Tryz.prog 45 #[.agg e.cells, .int .u8 110] w fun r w' => r = .returned (.agg (dropE e 110).cells) ∧ Below w.heap.size w w' := by
  obtain ⟨A, hA⟩ : ∃ A, e.cells = A := ⟨_, rfl⟩
  rw [hA]
  have hE : (dropE e 110).cells = (A.setIfInBounds 17 (.int .i64 0)) := by rw [← hA]; rfl
  have hz : Hid ((A.setIfInBounds 17 (.int .i64 0)).size = 23) := Lib.hid (by rw [← hE]; rfl)
  have hone : Hid ((A.setIfInBounds 17 (.int .i64 0)).all (·.oneCell') = true) := Lib.hid (by rw [← hE]; exact FctE.one _)
  rw [hE]
  obtain ⟨v17, hv17⟩ : ∃ v, A[17]? = some v := ⟨_, by rw [← hA]; rfl⟩
  clear hE hA
  go_enter Tryz.func45, Tryz.ntmps45
  go_upto_region 1 with fail
  generalize hW : World.alloc (World.alloc w _) _ = W1
  have h0 : Hid (GW w A zeroFct W1) := Lib.hid (by rw [← hW]; exact GW.new w _ _)
  clear hW
  have d17 := (blk_cell h0.out.a 17).trans hv17
  have g17 := blk_free h0.out.a 17
  go_upto_region 35 with fail
  generalize hW2 : (World.setCell W1 _ _) = W2
  have h1 : Hid (GW w (A.setIfInBounds 17 (.int .i64 0)) zeroFct W2) := Lib.hid (by rw [← hW2]; exact (h0.out).setA 17 (.int .i64 0))
  clear hW2
  go_wp2_with (first
    | ((with_reducible refine at_fload _ rfl ?_); go_must (refine wpList_fct_load rfl _ rfl w.heap.size (by simp [Act.eval]) _ h1.out.a hz.out ?_))
    | ((with_reducible refine at_fstore _ _ rfl ?_); go_must (refine wpList_store_rowTo rfl 45 _ _ rfl rfl (w.heap.size + 1) _ (by rfl) (by rfl) 45 _ h1.out.z (by rw [fct_size, hz.out]) (by rw [hz.out]; rfl) hone.out ?_)))
  refine bodyPost_ret (without_results (h1.out.setZ _) hz.out (by rfl)) rfl ?_
  exact ⟨rfl, (h1.out.setZ _).b⟩
set_option maxRecDepth 100000 in
set_option maxHeartbeats 2000000 in
theorem without_120 (e : FctE) (w : World) :
    Calls Tryz.prog 45 #[.agg e.cells, .int .u8 120] w fun r w' => r = .returned (.agg (dropE e 120).cells) ∧ Below w.heap.size w w' := by
  obtain ⟨A, hA⟩ : ∃ A, e.cells = A := ⟨_, rfl⟩
  rw [hA]
  have hE : (dropE e 120).cells = (A.setIfInBounds 18 (.string .empty)) := by rw [← hA]; rfl
  have hz : Hid ((A.setIfInBounds 18 (.string .empty)).size = 23) := Lib.hid (by rw [← hE]; rfl)
  have hone : Hid ((A.setIfInBounds 18 (.string .empty)).all (·.oneCell') = true) := Lib.hid (by rw [← hE]; exact FctE.one _)
  rw [hE]
  obtain ⟨v18, hv18⟩ : ∃ v, A[18]? = some v := ⟨_, by rw [← hA]; rfl⟩
  clear hE hA
  go_enter Tryz.func45, Tryz.ntmps45
  go_upto_region 1 with fail
  generalize hW : World.alloc (World.alloc w _) _ = W1
  have h0 : Hid (GW w A zeroFct W1) := Lib.hid (by rw [← hW]; exact GW.new w _ _)
  clear hW
  have d18 := (blk_cell h0.out.a 18).trans hv18
  have g18 := blk_free h0.out.a 18
  go_upto_region 35 with fail
  generalize hW2 : (World.setCell W1 _ _) = W2
  have h1 : Hid (GW w (A.setIfInBounds 18 (.string .empty)) zeroFct W2) := Lib.hid (by rw [← hW2]; exact (h0.out).setA 18 (.string .empty))
  clear hW2
  go_wp2_with (first
    | ((with_reducible refine at_fload _ rfl ?_); go_must (refine wpList_fct_load rfl _ rfl w.heap.size (by simp [Act.eval]) _ h1.out.a hz.out ?_))
    | ((with_reducible refine at_fstore _ _ rfl ?_); go_must (refine wpList_store_rowTo rfl 45 _ _ rfl rfl (w.heap.size + 1) _ (by rfl) (by rfl) 45 _ h1.out.z (by rw [fct_size, hz.out]) (by rw [hz.out]; rfl) hone.out ?_)))
  refine bodyPost_ret (without_results (h1.out.setZ _) hz.out (by rfl)) rfl ?_
  exact ⟨rfl, (h1.out.setZ _).b⟩
set_option maxRecDepth 100000 in
set_option maxHeartbeats 2000000 in
theorem without_109 (e : FctE) (w : World) :
    Calls Tryz.prog 45 #[.agg e.cells, .int .u8 109] w fun r w' => r = .returned (.agg (dropE e 109).cells) ∧ Below w.heap.size w w' := by
  obtain ⟨A, hA⟩ : ∃ A, e.cells = A := ⟨_, rfl⟩
  rw [hA]
  have hE : (dropE e 109).cells = (A.setIfInBounds 19 (.string .empty)) := by rw [← hA]; rfl
  have hz : Hid ((A.setIfInBounds 19 (.string .empty)).size = 23) := Lib.hid (by rw [← hE]; rfl)
  have hone : Hid ((A.setIfInBounds 19 (.string .empty)).all (·.oneCell') = true) := Lib.hid (by rw [← hE]; exact FctE.one _)
  rw [hE]
  obtain ⟨v19, hv19⟩ : ∃ v, A[19]? = some v := ⟨_, by rw [← hA]; rfl⟩
  clear hE hA
  go_enter Tryz.func45, Tryz.ntmps45
  go_upto_region 1 with fail
  generalize hW : World.alloc (World.alloc w _) _ = W1
  have h0 : Hid (GW w A zeroFct W1) := Lib.hid (by rw [← hW]; exact GW.new w _ _)
  clear hW
  have d19 := (blk_cell h0.out.a 19).trans hv19
  have g19 := blk_free h0.out.a 19
  go_upto_region 35 with fail
  generalize hW2 : (World.setCell W1 _ _) = W2
  have h1 : Hid (GW w (A.setIfInBounds 19 (.string .empty)) zeroFct W2) := Lib.hid (by rw [← hW2]; exact (h0.out).setA 19 (.string .empty))
  clear hW2
  go_wp2_with (first
    | ((with_reducible refine at_fload _ rfl ?_); go_must (refine wpList_fct_load rfl _ rfl w.heap.size (by simp [Act.eval]) _ h1.out.a hz.out ?_))
    | ((with_reducible refine at_fstore _ _ rfl ?_); go_must (refine wpList_store_rowTo rfl 45 _ _ rfl rfl (w.heap.size + 1) _ (by rfl) (by rfl) 45 _ h1.out.z (by rw [fct_size, hz.out]) (by rw [hz.out]; rfl) hone.out ?_)))
  refine bodyPost_ret (without_results (h1.out.setZ _) hz.out (by rfl)) rfl ?_
  exact ⟨rfl, (h1.out.setZ _).b⟩
theorem without_any (e : FctE) (c : UInt8) (hc : c ∈ lawC) (w : World) :
    Calls Tryz.prog 45 #[.agg e.cells, .int .u8 c.toNat] w fun r w' => r = .returned (.agg (dropE e c).cells) ∧ Below w.heap.size w w' := by
  unfold lawC at hc
  simp only [List.mem_cons, List.not_mem_nil, or_false] at hc
  rcases hc with rfl | rfl | rfl | rfl | rfl | rfl | rfl | rfl | rfl | rfl | rfl | rfl | rfl | rfl
  · exact without_115 e w
  · exact without_108 e w
  · exact without_114 e w
  · exact without_97 e w
  · exact without_116 e w
  · exact without_117 e w
  · exact without_111 e w
  · exact without_98 e w
  · exact without_76 e w
  · exact without_101 e w
  · exact without_107 e w
  · exact without_110 e w
  · exact without_120 e w
  · exact without_109 e w
end Go.Proofs.YtgbihmafmmeicaaGreatDoor
/-
  WHAT IS PROVED HERE: plain: which fields a kind uses, and what is left of a fact when all of them are dropped. No condition. Printed by tools/ahk.py.
-/
namespace Go.Proofs.YtgbihmafmmeicaaGreatDoor
open Go.RowKit Mg Go.Shelf

theorem okI_0 : okI 0 := ⟨by omega, by omega⟩
theorem str0_le : str0.size ≤ maxLen := Nat.zero_le _
theorem dropE_ok {mem : Addr → Option Value} (e : FctE) (h : e.ok mem) (c : UInt8) (hc : c ∈ lawC) : (dropE e c).ok mem := by
  unfold lawC at hc
  simp only [List.mem_cons, List.not_mem_nil, or_false] at hc
  have F := h.fok
  have P := h.parts
  rcases hc with rfl | rfl | rfl | rfl | rfl | rfl | rfl | rfl | rfl | rfl | rfl | rfl | rfl | rfl
  · exact ⟨⟨F.i0, F.i1, F.i2, okI_0, F.s4, F.i5, F.i6, F.s7, F.s8, F.i11, F.i13, F.i14, F.i15, F.i16, F.i17, F.s18, F.s19, F.i20, F.i21, F.i22, F.bl⟩, ⟨P.1, P.2.1, P.2.2⟩⟩
  · exact ⟨⟨F.i0, F.i1, F.i2, F.i3, str0_le, F.i5, F.i6, F.s7, F.s8, F.i11, F.i13, F.i14, F.i15, F.i16, F.i17, F.s18, F.s19, F.i20, F.i21, F.i22, F.bl⟩, ⟨P.1, P.2.1, P.2.2⟩⟩
  · exact ⟨⟨F.i0, F.i1, F.i2, F.i3, F.s4, okI_0, F.i6, F.s7, F.s8, F.i11, F.i13, F.i14, F.i15, F.i16, F.i17, F.s18, F.s19, F.i20, F.i21, F.i22, F.bl⟩, ⟨P.1, P.2.1, P.2.2⟩⟩
  · exact ⟨⟨F.i0, F.i1, F.i2, F.i3, F.s4, F.i5, okI_0, F.s7, F.s8, F.i11, F.i13, F.i14, F.i15, F.i16, F.i17, F.s18, F.s19, F.i20, F.i21, F.i22, F.bl⟩, ⟨P.1, P.2.1, P.2.2⟩⟩
  · exact ⟨⟨F.i0, F.i1, F.i2, F.i3, F.s4, F.i5, F.i6, str0_le, F.s8, F.i11, F.i13, F.i14, F.i15, F.i16, F.i17, F.s18, F.s19, F.i20, F.i21, F.i22, F.bl⟩, ⟨P.1, P.2.1, P.2.2⟩⟩
  · exact ⟨⟨F.i0, F.i1, F.i2, F.i3, F.s4, F.i5, F.i6, F.s7, str0_le, F.i11, F.i13, F.i14, F.i15, F.i16, F.i17, F.s18, F.s19, F.i20, F.i21, F.i22, F.bl⟩, ⟨P.1, P.2.1, P.2.2⟩⟩
  · exact ⟨⟨F.i0, F.i1, F.i2, F.i3, F.s4, F.i5, F.i6, F.s7, F.s8, F.i11, F.i13, F.i14, F.i15, F.i16, F.i17, F.s18, F.s19, F.i20, F.i21, F.i22, F.bl⟩, ⟨StrsM.nil _, P.2.1, P.2.2⟩⟩
  · exact ⟨⟨F.i0, F.i1, F.i2, F.i3, F.s4, F.i5, F.i6, F.s7, F.s8, F.i11, F.i13, F.i14, F.i15, F.i16, F.i17, F.s18, F.s19, F.i20, F.i21, F.i22, (fun x hx => absurd hx List.not_mem_nil)⟩, ⟨P.1, BlksM.nil _, P.2.2⟩⟩
  · exact ⟨⟨F.i0, F.i1, F.i2, F.i3, F.s4, F.i5, F.i6, F.s7, F.s8, okI_0, okI_0, okI_0, F.i15, F.i16, F.i17, F.s18, F.s19, F.i20, F.i21, F.i22, F.bl⟩, ⟨P.1, P.2.1, IntsM.nil _⟩⟩
  · exact ⟨⟨F.i0, F.i1, F.i2, F.i3, F.s4, F.i5, F.i6, F.s7, F.s8, F.i11, F.i13, F.i14, okI_0, F.i16, F.i17, F.s18, F.s19, F.i20, F.i21, F.i22, F.bl⟩, ⟨P.1, P.2.1, P.2.2⟩⟩
  · exact ⟨⟨F.i0, F.i1, F.i2, F.i3, F.s4, F.i5, F.i6, F.s7, F.s8, F.i11, F.i13, F.i14, F.i15, okI_0, F.i17, F.s18, F.s19, F.i20, F.i21, F.i22, F.bl⟩, ⟨P.1, P.2.1, P.2.2⟩⟩
  · exact ⟨⟨F.i0, F.i1, F.i2, F.i3, F.s4, F.i5, F.i6, F.s7, F.s8, F.i11, F.i13, F.i14, F.i15, F.i16, okI_0, F.s18, F.s19, F.i20, F.i21, F.i22, F.bl⟩, ⟨P.1, P.2.1, P.2.2⟩⟩
  · exact ⟨⟨F.i0, F.i1, F.i2, F.i3, F.s4, F.i5, F.i6, F.s7, F.s8, F.i11, F.i13, F.i14, F.i15, F.i16, F.i17, str0_le, F.s19, F.i20, F.i21, F.i22, F.bl⟩, ⟨P.1, P.2.1, P.2.2⟩⟩
  · exact ⟨⟨F.i0, F.i1, F.i2, F.i3, F.s4, F.i5, F.i6, F.s7, F.s8, F.i11, F.i13, F.i14, F.i15, F.i16, F.i17, F.s18, str0_le, F.i20, F.i21, F.i22, F.bl⟩, ⟨P.1, P.2.1, P.2.2⟩⟩
/-- the fact without the fields of a list -/
def dropL (e : FctE) (l : List UInt8) : FctE := l.foldl dropE e
theorem dropL_ok {mem : Addr → Option Value} (l : List UInt8) : ∀ (e : FctE), e.ok mem → (∀ c ∈ l, c ∈ lawC) → (dropL e l).ok mem := by
  induction l with
  | nil => exact fun e h _ => h
  | cons a l ih => exact fun e h hl => ih _ (dropE_ok e h a (hl a (by simp))) (fun c hc => hl c (by simp [hc]))
theorem dropL_step (e : FctE) {l : List UInt8} {k : Nat} (hk : k < l.length) : dropL e (l.take (k + 1)) = dropE (dropL e (l.take k)) l[k] := by
  unfold dropL
  rw [List.take_succ_eq_append_getElem hk, List.foldl_append]
  rfl
theorem fieldsB_law {k : Int} (hk : k = 1 ∨ k = 2 ∨ k = 3 ∨ k = 4 ∨ k = 5 ∨ k = 6 ∨ k = 7 ∨ k = 10) : (∀ c ∈ (fieldsB k).data.toList, c ∈ lawC) ∧ (fieldsB k).data.toList ≠ [] ∧ (fieldsB k).size ≤ 9 := by
  rcases hk with rfl | rfl | rfl | rfl | rfl | rfl | rfl | rfl <;> exact ⟨by decide, by decide, by decide⟩
theorem dropL_bare (e : FctE) (ht : Tidy e.f) : (dropL e (fieldsB e.f.kind).data.toList).f = bare e.f := by
  obtain ⟨f, ta, tc, ba, bc, aa, ac⟩ := e
  obtain ⟨hk, hu⟩ := ht
  obtain ⟨x0, x1, x2, x3, x4, x5, x6, x7, x8, x9, x10, ⟨y1, y2, y3, y4⟩, x12, x13, x14, x15, x16, x17, x18, x19⟩ := f
  dsimp only at hk hu ⊢
  rcases hk with rfl | rfl | rfl | rfl | rfl | rfl | rfl | rfl
  all_goals
    simp [usedF, bare, lab0] at hu
    simp [fieldsB, dropL, dropE, bare, lab0, hu]
theorem rightF_all (f : Fct) (ht : Tidy f) : (fieldsB f.kind).data.toList.all (rightF f) = fieldsOK f := by
  rcases ht.kind with h | h | h | h | h | h | h | h
  all_goals
    rw [h]
    simp [fieldsB, rightF, fieldsOK, storyOK, reviseOK, correctOK, h, Bool.and_assoc]
end Go.Proofs.YtgbihmafmmeicaaGreatDoor
/-
  WHAT IS PROVED HERE: the walk of the reference's Valid at facts that use no field but their kind's own. No condition but that the fact lies in memory.
-/
namespace Go.Proofs.YtgbihmafmmeicaaGreatDoor
open Go.RowKit Mg Go.Shelf

theorem built3 (a b c : Int) : Tryz.prog.built 45 [(0, .int .i64 a), (1, .int .i64 b), (2, .int .i64 c)] = some #[.int .i64 a, .int .i64 b, .int .i64 c, .int .i64 0, .string .empty, .int .i64 0, .int .i64 0, .string .empty, .string .empty, .slice none 0 0, .slice none 0 0, .int .i64 0, .slice none 0 0, .int .i64 0, .int .i64 0, .int .i64 0, .int .i64 0, .int .i64 0, .string .empty, .string .empty, .int .i64 0, .int .i64 0, .int .i64 0] := by kernel_rfl
/-- a fact with its first three fields alone -/
def bareE (f : Fct) : FctE := ⟨bare f, none, 0, none, 0, none, 0⟩
theorem bareE_ok {mem : Addr → Option Value} {f : Fct} (h : FOK f) : (bareE f).ok mem :=
  ⟨⟨h.i0, h.i1, h.i2, okI_0, str0_le, okI_0, okI_0, str0_le, str0_le, okI_0, okI_0, okI_0, okI_0, okI_0, okI_0, str0_le, str0_le, okI_0, okI_0, okI_0, fun _ hx => absurd hx List.not_mem_nil⟩, StrsM.nil _, BlksM.nil _, IntsM.nil _⟩
section
variable {ops : Array Oper} {rest : List Oper} {o : Oper} {a : Act} {w : World} {Q : Exit → Act → World → Prop}
theorem wpList_fct_build3 (hg : o.guard = none) (parts : Array (Nat × Operand)) (ho : o.op = .build 45 parts) (f : Fct)
    (hf : (parts.map fun (i, x) => (i, a.eval x)).toList = [(0, .int .i64 f.n), (1, .int .i64 f.time), (2, .int .i64 f.kind)])
    (h : wpList Tryz.prog ops Q rest (a.put o.dst (.agg (bareE f).cells)) w) : wpList Tryz.prog ops Q (o :: rest) a w :=
  wpList_buildTo hg 45 parts ho o.dst rfl _ (by rw [hf]; exact built3 f.n f.time f.kind) h
end
set_option maxRecDepth 100000 in
set_option maxHeartbeats 4000000 in
theorem valid5_any {mem : Addr → Option Value} (e : FctE) (h : e.ok mem) (ht : Tidy e.f) (w : World) (hs : Sees mem w) :
    Calls Tryz.prog 25 #[.agg e.cells] w fun r w' => r = .returned (.bool (validF e.f)) ∧ Below w.heap.size w w' := by
  have HT := Lib.hid ht
  have c1 := Lib.hid (fun W => fields_any e.f.kind ht.kind W)
  obtain ⟨hlaw, hne, hsz⟩ := fieldsB_law ht.kind
  have HD := Lib.hid (dropL_bare e ht)
  have HA := Lib.hid (rightF_all e.f ht)
  have HR : Hid (validF e.f = (inR e.f.n 0 500 && inR e.f.time 0 1000000000 && fieldsOK e.f)) := Lib.hid (by unfold validF; rw [decide_eq_true ht.used, Bool.and_true])
  have q1 := lang_f _ hne
  generalize fieldsB e.f.kind = s at *
  clear hne
  have HW := Lib.hid hlaw
  have HL := Lib.hid (size_list s)
  have HG := Lib.hid (fun j hj => get_list s j hj)
  have HOK := Lib.hid h
  have HS := Lib.hid hs
  have HB := Lib.hid ((Below.refl w.heap.size w).alloc (Nat.le_refl _) (.cells e.cells 45))
  have HN := Lib.hid (World.alloc_heap_new w (.cells e.cells 45))
  have hk5 : e.cells[2]? = some (.int .i64 e.f.kind) := rfl
  have hk0 : e.cells[0]? = some (.int .i64 e.f.n) := rfl
  have hk1 : e.cells[1]? = some (.int .i64 e.f.time) := rfl
  have H5 := Lib.hid (And.intro hk0 (And.intro hk1 hk5))
  clear ht hlaw h hs hk5 hk0 hk1
  go_enter Tryz.func25, Tryz.ntmps25
  go_upto_region 1 with fail
  generalize hW1 : World.alloc w _ = W1 at *
  clear hW1
  have d2 := (blk_cell HN.out 2).trans H5.out.2.2
  go_wp2_with fail
  refine (c1.out _).mono ?_
  rintro r w' ⟨rfl, rfl⟩
  clear d2
  have d0 := (blk_cell HN.out 0).trans H5.out.1
  have d1 := (blk_cell HN.out 1).trans H5.out.2.1
  obtain ⟨n, hn⟩ : ∃ n, e.f.n = n := ⟨_, rfl⟩
  obtain ⟨tm, htm⟩ : ∃ n, e.f.time = n := ⟨_, rfl⟩
  rw [hn] at d0 HR
  rw [htm] at d1 HR
  have HX := Lib.hid (And.intro hn htm)
  clear hn htm
  by_cases k1 : n < 0
  · have HV : Hid (validF e.f = false) := Lib.hid (by rw [HR.out]; unfold inR; rw [decide_eq_false (by omega : ¬ 0 ≤ n)]; rfl)
    go_wp2_with fail
    go_ret
    exact ⟨by rw [HV.out]; rfl, HB.out⟩
  by_cases k2 : 500 < n
  · have HV : Hid (validF e.f = false) := Lib.hid (by rw [HR.out]; unfold inR; rw [decide_eq_false (by omega : ¬ n ≤ 500), Bool.and_false]; rfl)
    go_wp2_with fail
    go_ret
    exact ⟨by rw [HV.out]; rfl, HB.out⟩
  by_cases k3 : tm < 0
  · have HV : Hid (validF e.f = false) := Lib.hid (by rw [HR.out]; unfold inR; rw [decide_eq_false (by omega : ¬ 0 ≤ tm), Bool.false_and, Bool.and_false]; rfl)
    go_wp2_with fail
    go_ret
    exact ⟨by rw [HV.out]; rfl, HB.out⟩
  by_cases k4 : 1000000000 < tm
  · have HV : Hid (validF e.f = false) := Lib.hid (by rw [HR.out]; unfold inR; rw [decide_eq_false (by omega : ¬ tm ≤ 1000000000), Bool.and_false, Bool.and_false]; rfl)
    go_wp2_with fail
    go_ret
    exact ⟨by rw [HV.out]; rfl, HB.out⟩
  have HV : Hid (validF e.f = s.data.toList.all (rightF e.f)) := Lib.hid (by rw [HR.out, HA.out]; unfold inR; rw [decide_eq_true (by omega : 0 ≤ n), decide_eq_true (by omega : n ≤ 500), decide_eq_true (by omega : 0 ≤ tm), decide_eq_true (by omega : tm ≤ 1000000000)]; rfl)
  go_upto_region 4 with fail
  clear d0 d1 k1 k2 k3 k4 q1 HR HA
  have HB2 := Lib.hid (HB.out.alloc HB.out.size (.cells e.cells 45))
  have HZ := Lib.hid (World.alloc_heap_new W1 (.cells e.cells 45))
  have HN2 := Lib.hid ((Below.heap_alloc W1 (.cells e.cells 45) w.heap.size (hlt HN.out)).trans HN.out)
  have HLT := Lib.hid (hlt HN.out)
  go_upto_region 5 with (first
    | ((with_reducible refine at_fstore _ _ rfl ?_); go_must (refine wpList_fct_new rfl _ _ rfl rfl _ _ _ (by rfl) (by rfl) (by rfl) (FctE.size e) (FctE.one e) ?_))
    | ((with_reducible refine at_fload _ rfl ?_); go_must (refine wpList_fct_load rfl _ rfl w.heap.size (by rfl) _ HN.out (FctE.size e) ?_)))
  clear HN HB c1
  generalize hW2 : World.alloc W1 _ = W2 at *
  clear hW2
  generalize W1.heap.size = B at *
  have hsl : (s.size : Int) ≤ 9 := by omega
  go_wp2_with fail
  go_loopw [5] (fun i wr => ∃ k : Nat, k ≤ s.size ∧ i = .int .i64 k ∧ Hid ((s.data.toList.take k).all (rightF e.f) = true) ∧ Hid (Below w.heap.size w wr ∧ wr.heap[w.heap.size]? = some (.cells e.cells 45 (0, 0)) ∧ wr.heap[B]? = some (.cells (dropL e (s.data.toList.take k)).cells 45 (0, 0)))) (fun i _ => s.size - (intOf i).toNat)
  case atStart => exact ⟨0, Nat.zero_le _, rfl, Lib.hid rfl, Lib.hid ⟨HB2.out, HN2.out, HZ.out⟩⟩
  case round =>
    obtain ⟨k, hk, rfl, hu, HI⟩ := hrel
    obtain ⟨wo, rfl⟩ : ∃ wo, wo = wr := ⟨_, rfl⟩
    by_cases hlt5 : k < s.size
    · have hk2 : k < s.data.toList.length := by rw [HL.out]; exact hlt5
      have hgl := HG.out k hlt5
      have hmem : s[k] ∈ lawC := HW.out _ (by rw [← hgl]; exact List.getElem_mem _)
      have cr := Lib.hid (fun W hW => right_any e HOK.out s[k] hmem W hW)
      have cw := Lib.hid (fun W => without_any (dropL e (s.data.toList.take k)) s[k] hmem W)
      have HX2 : Hid (dropL e (s.data.toList.take (k + 1)) = dropE (dropL e (s.data.toList.take k)) s[k]) := Lib.hid (by rw [dropL_step e hk2, hgl])
      obtain ⟨g1, g2⟩ := bytes_step s k hlt5 hu.out
      have G1 := Lib.hid g1
      have G2 := Lib.hid g2
      have hki : (k : Int) < s.size := by omega
      clear g1 g2 hu hgl
      generalize dropL e (s.data.toList.take k) = E at *
      have HSd : Hid (wo.drew.heap[w.heap.size]? = some (.cells e.cells 45 (0, 0))) := Lib.hid HI.out.2.1
      generalize hq : rightF e.f s[k] = q at *
      go_upto_region 8 with fail
      refine wp_mix [mT, mT, mT, mT, mF, mF] 1000 (fun W2 => W2.heap[w.heap.size]? = some (.cells e.cells 45 (0, 0))) (by kernel_rfl) (by kernel_rfl) HSd.out ?_
      refine wpMix_take (.agg e.cells) (fun _ _ _ _ h => h) HSd.out (by rfl) (fun W2 hW => exec_fct_load _ rfl (by rfl) hW (FctE.size e)) ?_
      simp only [Act.put, List.setIfInBounds_toArray, List.set_cons_zero, List.set_cons_succ]
      refine wpMix_take (.string s) (fun _ _ _ _ h => h) HSd.out (by rfl) (fun W2 hW => by go_simp) ?_
      simp only [Act.put, List.setIfInBounds_toArray, List.set_cons_zero, List.set_cons_succ]
      refine wpMix_take (.int .i64 k) (fun _ _ _ _ h => h) HSd.out (by rfl) (fun W2 hW => by go_simp) ?_
      simp only [Act.put, List.setIfInBounds_toArray, List.set_cons_zero, List.set_cons_succ]
      refine wpMix_take (.int .u8 (s[k].toNat : Nat)) (fun _ _ _ _ h => h) HSd.out (by rfl) (fun W2 hW => by go_simp) ?_
      simp only [Act.put, List.setIfInBounds_toArray, List.set_cons_zero, List.set_cons_succ]
      refine wpMix_step (fun K hK => ?_)
      go_simp
      refine (cr.out _ (HS.out.bel HI.out.1.drew)).mono ?_
      rintro r w3 ⟨rfl, hb⟩
      have HI3 : Hid (Below w.heap.size w w3 ∧ w3.heap[w.heap.size]? = some (.cells e.cells 45 (0, 0)) ∧ w3.heap[B]? = some (.cells E.cells 45 (0, 0))) := Lib.hid ⟨HI.out.1.drew.trans (hb.mono HI.out.1.drew.size), (hb.block _ (hlt HI.out.2.1)).trans HI.out.2.1, (hb.block _ (hlt HI.out.2.2)).trans HI.out.2.2⟩
      clear hb cr
      dsimp only
      refine hK _ _ HI3.out.2.1 ?_
      clear hK K
      refine wpMix_step (fun K hK => ?_); go_simp; refine hK _ _ HI3.out.2.1 ?_; clear hK K
      refine wpMix_nil ?_
      cases q with
      | false =>
        have HF := Lib.hid (HV.out.trans (G2.out rfl))
        go_wp2_with fail
        go_ret
        exact ⟨by rw [HF.out]; rfl, HI3.out.1⟩
      | true =>
        have HU := Lib.hid (G1.out rfl)
        have HSz : Hid (w3.drew.heap[B]? = some (.cells E.cells 45 (0, 0))) := Lib.hid HI3.out.2.2
        go_upto_region 11 with fail
        refine wp_mix [mT, mT, mT, mT, mF, mL] 5 (fun W2 => W2.heap[B]? = some (.cells E.cells 45 (0, 0))) (by kernel_rfl) (by kernel_rfl) HSz.out ?_
        refine wpMix_take (.agg E.cells) (fun _ _ _ _ h => h) HSz.out (by rfl) (fun W2 hW => exec_fct_load _ rfl (by rfl) hW (FctE.size E)) ?_
        simp only [Act.put, List.setIfInBounds_toArray, List.set_cons_zero, List.set_cons_succ]
        refine wpMix_take (.string s) (fun _ _ _ _ h => h) HSz.out (by rfl) (fun W2 hW => by go_simp) ?_
        simp only [Act.put, List.setIfInBounds_toArray, List.set_cons_zero, List.set_cons_succ]
        refine wpMix_take (.int .i64 k) (fun _ _ _ _ h => h) HSz.out (by rfl) (fun W2 hW => by go_simp) ?_
        simp only [Act.put, List.setIfInBounds_toArray, List.set_cons_zero, List.set_cons_succ]
        refine wpMix_take (.int .u8 (s[k].toNat : Nat)) (fun _ _ _ _ h => h) HSz.out (by rfl) (fun W2 hW => by go_simp) ?_
        simp only [Act.put, List.setIfInBounds_toArray, List.set_cons_zero, List.set_cons_succ]
        refine wpMix_step (fun K hK => ?_)
        go_simp
        refine (cw.out _).mono ?_
        rintro r w4 ⟨rfl, hb⟩
        have HI4 : Hid (Below w.heap.size w w4 ∧ w4.heap[w.heap.size]? = some (.cells e.cells 45 (0, 0)) ∧ w4.heap[B]? = some (.cells E.cells 45 (0, 0))) := Lib.hid ⟨HI3.out.1.drew.trans (hb.mono HI3.out.1.drew.size), (hb.block _ (hlt HI3.out.2.1)).trans HI3.out.2.1, (hb.block _ (hlt HI3.out.2.2)).trans HI3.out.2.2⟩
        clear hb cw
        dsimp only
        refine hK _ _ HI4.out.2.2 ?_
        clear hK K
        refine wpMix_last (fun K hK => ?_)
        refine wp_fct_store _ _ rfl (by rfl) (by rfl) HI4.out.2.2 (FctE.size E) (FctE.size _) (FctE.one _) ?_
        refine hK _ _ ?_
        clear hK K
        have HI5 : Hid (Below w.heap.size w (w4.setRow B (dropE E s[k]).cells) ∧ (w4.setRow B (dropE E s[k]).cells).heap[w.heap.size]? = some (.cells e.cells 45 (0, 0)) ∧ (w4.setRow B (dropE E s[k]).cells).heap[B]? = some (.cells (dropL e (s.data.toList.take (k + 1))).cells 45 (0, 0))) := Lib.hid ⟨below_setRow HI4.out.1 (Nat.le_of_lt HLT.out) _, (setRow_other _ _ _ _ (by have := HLT.out; omega)).trans HI4.out.2.1, by rw [HX2.out]; exact setRow_heap _ _ _ _ _ _ HI4.out.2.2⟩
        simp only [Act.put]
        refine wpMix_nil ?_
        generalize w4.setRow B _ = w5 at *
        go_wp2_with fail
        go_roundw
        case rel => exact ⟨k + 1, by omega, by go_num, HU, HI5⟩
        case measure => simp [intOf]; omega
    · obtain rfl : k = s.size := by omega
      have HE : Hid (dropL e (s.data.toList.take s.size) = dropL e s.data.toList) := Lib.hid (by rw [← HL.out, List.take_length])
      have HF : Hid (validF e.f = true) := Lib.hid (by have h := hu.out; rw [← HL.out, List.take_length] at h; rw [HV.out, h])
      have HEk : Hid ((dropL e s.data.toList).ok mem) := Lib.hid (dropL_ok _ e HOK.out HW.out)
      have cs := Lib.hid (fun W hW => rsame_any (dropL e s.data.toList) (bareE e.f) HEk.out (bareE_ok HOK.out.fok) HD.out W hW)
      have HI6 : Hid (Below w.heap.size w wo ∧ wo.heap[w.heap.size]? = some (.cells e.cells 45 (0, 0)) ∧ wo.heap[B]? = some (.cells (dropL e s.data.toList).cells 45 (0, 0))) := Lib.hid (by have h := HI.out; rw [HE.out] at h; exact h)
      clear hu HI
      generalize dropL e s.data.toList = E at *
      go_upto_region 12 with fail
      have d0 := (blk_cell HI6.out.2.1 0).trans H5.out.1
      have d1 := (blk_cell HI6.out.2.1 1).trans H5.out.2.1
      have d2 := (blk_cell HI6.out.2.1 2).trans H5.out.2.2
      go_wp2_with (first
        | ((with_reducible refine at_fload _ rfl ?_); go_must (refine wpList_fct_load rfl _ rfl B (by rfl) _ HI6.out.2.2 (FctE.size E) ?_))
        | ((with_reducible refine at_fbuild _ rfl ?_); go_must (refine wpList_fct_build3 rfl _ rfl e.f (by simp [Act.eval]) ?_)))
      refine (cs.out _ (HS.out.bel HI6.out.1)).mono ?_
      rintro r w6 ⟨rfl, hb⟩
      have HB6 := Lib.hid (HI6.out.1.trans (hb.mono HI6.out.1.size))
      clear hb
      go_wp2_with fail
      go_ret
      exact ⟨by rw [HF.out]; rfl, HB6.out⟩
end Go.Proofs.YtgbihmafmmeicaaGreatDoor
/-
  WHAT IS PROVED HERE: the walk of the reference's Clean: a list of its own with the valid facts. No condition but that the list lies in memory and its facts use no field but their kind's own.
-/
namespace Go.Proofs.YtgbihmafmmeicaaGreatDoor
open Go.RowKit Mg Go.Shelf

/-- a list of a call's own, whose facts' parts lie in mem -/
structure ListC (mem : Addr → Option Value) (W0 : World) (v : Value) (ys : List FctE) (wr : World) : Prop where
  bel : Below W0.heap.size W0 wr
  row : FRow wr W0.heap.size v ys
  ok : ∀ e ∈ ys, e.ok mem
section
variable {mem : Addr → Option Value} {W0 wr w' : World} {v : Value} {ys : List FctE}
theorem ListC.start : ListC mem W0 (.slice none 0 0) [] W0 := ⟨Below.refl _ _, FRow.nil _ _, fun e he => by cases he⟩
theorem ListC.below (h : ListC mem W0 v ys wr) (hb : Below wr.heap.size wr w') : ListC mem W0 v ys w' :=
  ⟨h.bel.trans (hb.mono h.bel.size), h.row.same fun k hk => hb.block k (h.row.ge k hk).2, h.ok⟩
theorem ListC.app {v' : Value} {y : FctE} {ob : Obj} (h : ListC mem W0 v ys wr) (hy : y.ok mem) (hr : FRow w' W0.heap.size v' (ys ++ [y])) (hg : (wr.alloc ob).grownBy w' v.ownBlock) : ListC mem W0 v' (ys ++ [y]) w' := by
  have hge := h.row.ge
  have hu : Upd (fun b => v.ownBlock = some b) wr w' := ((Upd.refl _ wr).alloc ob).grown hg (fun b e => .inl e)
  refine ⟨h.bel.trans (hu.below (fun k e => (hge k e).1) h.bel.size), hr, fun e he => ?_⟩
  rcases List.mem_append.1 he with he | he
  · exact h.ok e he
  · obtain rfl : e = y := by simpa using he
    exact hy
theorem ListC.es (h : ListC mem W0 v ys wr) (hs : Sees mem wr) : EsM (fun a => wr.cell? a) v ys := h.row.es (fun y hy => (h.ok y hy).mono hs)
end
set_option maxRecDepth 100000 in
set_option maxHeartbeats 4000000 in
theorem clean_any {mem : Addr → Option Value} (v : Value) (es : List FctE) (h : EsM mem v es) (ht : ∀ e ∈ es, Tidy e.f) (hlen : es.length ≤ 1000) (w : World) (hs : Sees mem w) :
    Calls Tryz.prog 11 #[v] w fun e w' => ∃ v, e = .returned v ∧ ListC mem w v (goodE es) w' := by
  obtain ⟨a1, c1, b1, o1, rfl, hm1, ha1, he1⟩ := h.open_
  have hl1 : (es.length : Int) ≤ 1000 := by omega
  have HS := Lib.hid hs
  have HA1 := Lib.hid ha1
  have HE1 := Lib.hid he1
  have HT := Lib.hid ht
  clear hs ha1 he1 h hm1 ht
  go_enter Tryz.func11, Tryz.ntmps11
  go_wp2_with fail
  go_loopw [3, 4] (fun v i wr => ∃ k : Nat, k ≤ es.length ∧ i = .int .i64 k ∧ ListC mem w v (goodE (es.take k)) wr) (fun _ i _ => es.length - (intOf i).toNat)
  case atStart => exact ⟨0, Nat.zero_le _, rfl, ListC.start⟩
  case round =>
    obtain ⟨k, hk, rfl, hI⟩ := hrel
    obtain ⟨wo, rfl⟩ : ∃ wo, wo = wr := ⟨_, rfl⟩
    obtain ⟨va, vn, vc, rfl⟩ := hI.row.sl
    have HI := Lib.hid hI
    clear hI
    by_cases hlt : k < es.length
    · obtain rfl := HA1.out (by omega)
      obtain ⟨hok, hat0⟩ := HE1.out k hlt
      have hsw := HS.out.bel HI.out.bel
      have HAT : Hid (es[k].at (fun p => wo.cell? p) b1 (o1 + k * 23)) := Lib.hid (fun j u hj => hsw _ _ (hat0 j u hj))
      have HC := Lib.hid (valid5_any es[k] hok (HT.out _ (List.getElem_mem hlt)) wo hsw)
      have HY := Lib.hid (fun hv => goodE_yes hlt hv)
      have HN := Lib.hid (fun hv => goodE_no hlt hv)
      have HOK := Lib.hid hok
      have hyl : Hid ((goodE (es.take k)).length ≤ 1000) := Lib.hid (by
        have h := List.length_filter_le (fun e : FctE => validF e.f) (es.take k)
        rw [List.length_take] at h
        unfold goodE
        omega)
      clear hok hat0 hsw
      generalize goodE (es.take k) = ys at *
      generalize hx : es[k] = x at *
      clear hx
      generalize validF x.f = q at *
      go_wp2_with ((with_reducible refine at_fload _ rfl ?_); go_must (refine wpList_fct_mid rfl _ rfl (by simp [Act.eval]) HAT.out ?_))
      refine HC.out.mono ?_
      rintro e w3 ⟨rfl, hb⟩
      have HI3 := Lib.hid (HI.out.below hb)
      have HAT3 : Hid (x.at (fun p => w3.cell? p) b1 (o1 + k * 23)) := Lib.hid (fun j u hj => sees_bel hb _ _ (HAT.out j u hj))
      clear hb
      cases q with
      | false =>
        have HG := Lib.hid (HN.out rfl)
        go_wp2_with fail
        go_roundw
        case rel => exact ⟨k + 1, by omega, by go_num, by rw [HG.out]; exact HI3.out⟩
        case measure => simp [intOf]; omega
      | true =>
        have HG := Lib.hid (HY.out rfl)
        go_wp2_with (first
          | ((with_reducible refine at_fload _ rfl ?_); go_must (refine wpList_fct_mid rfl _ rfl (by simp [Act.eval]) HAT3.out ?_))
          | ((with_reducible refine at_fslice _ rfl ?_); go_must (refine wpList_fct_slice rfl _ rfl x (by first | (simp [Act.eval]; done) | simp [Act.eval, Act.put]) ?_))
          | (at_builtin
             go_must (refine wpList_app_fct rfl _ _ rfl w.heap.size _ ys rfl (HI3.out.row.same fun k hk => Below.heap_alloc _ _ _ (HI3.out.row.ge k hk).2) x w3.heap.size 1 rfl (World.alloc_heap_new _ _) (by have := hyl.out; omega) (by have := HI3.out.bel.size; simp; omega) ?_)
             intro v2 w2 h2 hg2 hn2
             have H2 := Lib.hid (HI3.out.app HOK.out h2 hg2)
             clear h2 hg2 hn2))
        go_roundw
        case rel => exact ⟨k + 1, by omega, by go_num, by rw [HG.out]; exact H2.out⟩
        case measure => simp [intOf]; omega
    · obtain rfl : k = es.length := by omega
      have HP : Hid (ListC mem w (.slice va vn vc) (goodE es) wo) := Lib.hid (by have h := HI.out; rwa [List.take_length] at h)
      clear HI
      go_wp2_with fail
      go_ret
      exact ⟨_, rfl, HP.out⟩
end Go.Proofs.YtgbihmafmmeicaaGreatDoor
/-
  WHAT IS PROVED HERE: plain: what AccessOutGrows asks of the stories that are out. No program, no condition.
-/
namespace Go.Proofs.YtgbihmafmmeicaaGreatDoor
open Go.RowKit Mg Go.Shelf

def apF (s e : Int) : Fct := { fct0 with kind := 2, story := s, editor := e }
def pbF (s : Int) : Fct := { fct0 with kind := 3, story := s }
theorem ap_valid {s e : Int} (h1 : 1 ≤ s) (h2 : s ≤ 4) (h3 : 1 ≤ e) (h4 : e ≤ 5) : validF (apF s e) = true := by
  refine valid_mk (by show (0 : Int) ≤ 0 ∧ (0 : Int) ≤ 500; omega) (by show (0 : Int) ≤ 0 ∧ (0 : Int) ≤ _; omega) ?_ rfl
  show (storyOK (apF s e) && inR e 1 5) = true
  unfold storyOK
  rw [Bool.and_eq_true, inR_iff, inR_iff]
  show (1 ≤ s ∧ s ≤ 64) ∧ _
  omega
theorem pb_valid {s : Int} (h1 : 1 ≤ s) (h2 : s ≤ 4) : validF (pbF s) = true := by
  refine valid_mk (by show (0 : Int) ≤ 0 ∧ (0 : Int) ≤ 500; omega) (by show (0 : Int) ≤ 0 ∧ (0 : Int) ≤ _; omega) ?_ rfl
  show (storyOK (pbF s) && validLab lab0) = true
  unfold storyOK
  rw [Bool.and_eq_true, inR_iff]
  refine ⟨?_, lab0_valid⟩
  show 1 ≤ s ∧ s ≤ 64
  omega
theorem ap_tidy (s e : Int) : Tidy (apF s e) := ⟨.inr (.inl rfl), rfl⟩
theorem pb_tidy (s : Int) : Tidy (pbF s) := ⟨.inr (.inr (.inl rfl)), rfl⟩
theorem filter_snoc {l : List Fct} {f : Fct} (h : validF f = true) : (l ++ [f]).filter validF = l.filter validF ++ [f] := by rw [List.filter_append]; simp [h]
theorem within_one {a b : List Int} (h : ∀ x ∈ a, x ∈ b) : withinF a b = 1 := by
  unfold withinF
  rw [if_pos]
  simpa using h
theorem ap_built (s e : Int) : Tryz.prog.built 45 [(2, .int .i64 2), (3, .int .i64 s), (12, .int .i64 e)] = some (plainE (apF s e)).cells := by kernel_rfl
theorem pb_built (s : Int) : Tryz.prog.built 45 [(2, .int .i64 3), (3, .int .i64 s)] = some (plainE (pbF s)).cells := by kernel_rfl
theorem ap_ok {s e : Int} (h1 : 1 ≤ s) (h2 : s ≤ 4) (h3 : 1 ≤ e) (h4 : e ≤ 5) (mem : Addr → Option Value) : (plainE (apF s e)).ok mem := by
  have z := fok_zero
  exact plain_ok ⟨z.i0, z.i1, okS (by show -1000 ≤ (2 : Int); omega) (by show (2 : Int) ≤ 1000; omega), okS (by show -1000 ≤ s; omega) (by show s ≤ 1000; omega), z.s4, z.i5, z.i6, z.s7, z.s8, z.i11, z.i13, z.i14, okS (by show -1000 ≤ e; omega) (by show e ≤ 1000; omega), z.i16, z.i17, z.s18, z.s19, z.i20, z.i21, z.i22, z.bl⟩ rfl rfl rfl
theorem pb_ok {s : Int} (h1 : 1 ≤ s) (h2 : s ≤ 4) (mem : Addr → Option Value) : (plainE (pbF s)).ok mem := by
  have z := fok_zero
  exact plain_ok ⟨z.i0, z.i1, okS (by show -1000 ≤ (3 : Int); omega) (by show (3 : Int) ≤ 1000; omega), okS (by show -1000 ≤ s; omega) (by show s ≤ 1000; omega), z.s4, z.i5, z.i6, z.s7, z.s8, z.i11, z.i13, z.i14, z.i15, z.i16, z.i17, z.s18, z.s19, z.i20, z.i21, z.i22, z.bl⟩ rfl rfl rfl
/-- the cells of a made row of 25 facts -/
noncomputable def made25 : Array Value := madeCells zeroF.cells (25 * 23)
theorem run_make25 (w : World) : (Instr.makeSlice 25 (.int .i64 0) (.int .i64 25)).run Tryz.prog w = .ok (.slice (some ⟨w.heap.size, 0, none⟩) 0 25) (w.alloc (.cells made25 45)) := by
  obtain ⟨i0, hi0, hz0, hz1, hz2⟩ := info_parts fct_info
  have h := run_make (P := Tryz.prog) w 25 45 i0 _ Tryz.underlying25 hi0 hz0 .i64 .i64 0 25 (by omega) (by omega) (by rw [hz2]; omega) (by omega)
  rw [hz1] at h
  exact h
theorem frow_made {w : World} {B g : Nat} (hB : B ≤ g) (hh : w.heap[g]? = some (.cells made25 45 (0, 0))) : FRow w B (.slice (some ⟨g, 0, none⟩) 0 25) [] :=
  ⟨rfl, .inr ⟨g, 25, _, rfl, hB, hh, by show 0 ≤ 25; omega, by unfold maxLen; omega, by unfold made25; rw [size_madeCells], rfl⟩⟩
/-- a list of facts of a call's own whose elements lie anywhere -/
structure ListA (W0 : World) (v : Value) (ys : List FctE) (wr : World) : Prop where
  bel : Below W0.heap.size W0 wr
  row : FRow wr W0.heap.size v ys
  ok : ∀ e ∈ ys, e.ok (fun a => W0.cell? a)
theorem ListA.below {W0 wr w' : World} {v : Value} {ys : List FctE} (h : ListA W0 v ys wr) (hb : Below wr.heap.size wr w') : ListA W0 v ys w' :=
  ⟨h.bel.trans (hb.mono h.bel.size), h.row.same fun k hk => hb.block k (h.row.ge k hk).2, h.ok⟩
theorem ListA.es {W0 wr : World} {v : Value} {ys : List FctE} (h : ListA W0 v ys wr) : EsM (fun a => wr.cell? a) v ys := h.row.es (fun y hy => (h.ok y hy).mono (sees_bel h.bel))
theorem ListA.grow {W0 wr w1 w' : World} {v v' : Value} {ys fs : List FctE} (h : ListA W0 v ys wr) (hb : Below wr.heap.size wr w1) (hf : ∀ e ∈ fs, e.ok (fun a => W0.cell? a)) (hr : FRow w' W0.heap.size v' (ys ++ fs)) (hg : w1.grownBy w' v.ownBlock) : ListA W0 v' (ys ++ fs) w' := by
  have hge := h.row.ge
  have h1 := h.below hb
  have hu : Upd (fun b => v.ownBlock = some b) w1 w' := (Upd.refl _ w1).grown hg (fun b e => .inl e)
  refine ⟨h1.bel.trans (hu.below (fun k e => (hge k e).1) h1.bel.size), hr, fun e he => ?_⟩
  rcases List.mem_append.1 he with he | he
  · exact h.ok e he
  · exact hf e he
end Go.Proofs.YtgbihmafmmeicaaGreatDoor
/-
  WHAT IS PROVED HERE: the walk of the law AccessOutLeast. No condition but that the arguments lie in memory and are within Go's.
-/
namespace Go.Proofs.YtgbihmafmmeicaaGreatDoor
open Go.RowKit Mg Go.Shelf

theorem irow_app {W0 wr w' : World} {v v' : Value} {l l' : List Int} {ob : Obj} (h : IRow wr W0.heap.size v l) (hb : Below W0.heap.size W0 wr) (hr : IRow w' W0.heap.size v' l') (hg : (wr.alloc ob).grownBy w' v.ownBlock) : IRow w' W0.heap.size v' l' ∧ Below W0.heap.size W0 w' := by
  have hu : Upd (fun b => v.ownBlock = some b) wr w' := ((Upd.refl _ wr).alloc ob).grown hg (fun b e => .inl e)
  exact ⟨hr, hb.trans (hu.below (fun k e => h.ge k e) hb.size)⟩
set_option maxRecDepth 100000 in
set_option maxHeartbeats 8000000 in
theorem law_least {mem : Addr → Option Value} {v : Value} {xs : List Six} (hx : SixM mem v xs) {a b st : Int} (ha : okI a) (hb : okI b) (hst : okI st) (w : World) (hs : Sees mem w) :
    Calls Tryz.prog 3 #[v, .agg #[.int .i64 a, .int .i64 b], .int .i64 st] w fun e w' => e = .returned (.bool true) ∧ Below w.heap.size w w' := by
  have HX := Lib.hid hx
  obtain ⟨_, _, ⟨_, oa, oc, rfl, _⟩, _⟩ := hx
  have HB1 : Hid (Below w.heap.size w (w.alloc (.cells #[.int .i64 a, .int .i64 b] 23))) := Lib.hid ((Below.refl _ w).alloc (Nat.le_refl _) _)
  have HA1 := Lib.hid (World.alloc_heap_new w (.cells #[.int .i64 a, .int .i64 b] 23))
  have HS1 := Lib.hid (hs.bel HB1.out)
  have c1 := Lib.hid (fun W => pick_any st 16 hst (by omega) (by omega) W)
  obtain ⟨p0, p1⟩ := pickF_lt (c := st) (n := 16) (by omega)
  obtain ⟨q0, q1⟩ := pickF_lt (c := a) (n := 4) (by omega)
  obtain ⟨t0, t1⟩ := pickF_lt (c := b) (n := 25) (by omega)
  have c2 := Lib.hid (fun W => at_any2 a b ha hb W)
  generalize pickF st 16 = pd at *
  generalize pickF a 4 = pa at *
  generalize pickF b 25 = pb at *
  clear hs ha hb hst
  go_enter Tryz.func3, Tryz.ntmps3
  go_upto_region 1 with fail
  generalize hW1 : w.alloc _ = W1 at *
  clear hW1
  go_wp2_with fail
  refine (sane_any W1).mono ?_
  rintro e W2 ⟨rfl, hb2⟩
  have HB2 := Lib.hid (HB1.out.trans (hb2.mono HB1.out.size))
  have HA2 := Lib.hid ((hb2.block _ (Go.Proofs.YtgbihmafmmeicaaGreatDoor.hlt HA1.out)).trans HA1.out)
  have HS2 := Lib.hid (HS1.out.bel hb2)
  clear hb2
  go_wp2_with fail
  refine (log_any _ xs HX.out W2 HS2.out).mono ?_
  rintro e W3 ⟨lv, es, rfl, hys, hI⟩
  obtain ⟨la, lc, rfl⟩ := hI.row.shape
  have HYS := Lib.hid hys
  have hyl : es.length ≤ 24 := by rw [← List.length_map (f := FctE.f), hys]; exact logF_len xs
  have HES := Lib.hid hI.es
  have HB3 := Lib.hid (HB2.out.trans (hI.bel.mono HB2.out.size))
  have HA3 := Lib.hid ((hI.bel.block _ (Go.Proofs.YtgbihmafmmeicaaGreatDoor.hlt HA2.out)).trans HA2.out)
  have HTY : Hid (∀ e ∈ es, Tidy e.f) := Lib.hid (fun e he => logF_tidy xs _ (by rw [← hys]; exact List.mem_map_of_mem he))
  clear hI hys
  go_wp2_with fail
  refine (clean_any _ es HES.out HTY.out (by omega) W3 (fun a u h => h)).mono ?_
  rintro e W4 ⟨cv, rfl, hC⟩
  obtain ⟨ca, cc, rfl⟩ := hC.row.shape
  have hcl : (goodE es).length ≤ 24 := by
    have h := List.length_filter_le (fun e : FctE => validF e.f) es
    unfold goodE
    omega
  have HCS := Lib.hid (hC.es (fun a u h => sees_bel hC.bel a u h))
  have HB4 := Lib.hid (HB3.out.trans (hC.bel.mono HB3.out.size))
  have HA4 := (hC.bel.block _ (Go.Proofs.YtgbihmafmmeicaaGreatDoor.hlt HA3.out)).trans HA3.out
  have HTG : Hid (∀ e ∈ goodE es, Tidy e.f) := Lib.hid (fun e he => HTY.out e (by unfold goodE at he; exact (List.mem_filter.1 he).1))
  have HGM : Hid ((goodE es).map FctE.f = (logF xs).filter validF) := Lib.hid (by rw [goodE_map, HYS.out])
  have HGG : Hid (((goodE es).map FctE.f).filter validF = (goodE es).map FctE.f) := Lib.hid (by rw [goodE_map, List.filter_filter]; simp)
  have k0 : W4.cell? ⟨w.heap.size, 0, none⟩ = some (.int .i64 a) := blk_cell HA4 0
  have k1 : W4.cell? ⟨w.heap.size, 1, none⟩ = some (.int .i64 b) := blk_cell HA4 1
  clear hC HA4
  generalize goodE es = gs at *
  go_wp2_with fail
  refine (c2.out _).mono ?_
  rintro e W5 ⟨rfl, hb5⟩
  have HB5 := Lib.hid (HB4.out.trans (hb5.mono HB4.out.size))
  have HCS5 := Lib.hid (HCS.out.mono (sees_bel hb5))
  clear k0 k1 hb5 HCS HB4 HA3 HA2 HES HB3
  go_wp2_with fail
  refine (access_out_any _ gs HCS5.out HTG.out (by omega) pa pb W5 (fun a u h => h) (cells_lt W5)).mono ?_
  rintro e W6 ⟨ov, L, rfl, hor, ho, hb6⟩
  obtain ⟨o1, o2, rfl⟩ := hor.shape
  rw [HGG.out] at ho
  have HO := Lib.hid ho
  have HOR := Lib.hid hor.ints
  have HB6 := Lib.hid (HB5.out.trans (hb6.mono HB5.out.size))
  have HCS6 := Lib.hid (HCS5.out.mono (sees_bel hb6))
  clear ho hor hb6 HB5 HCS5
  go_wp2_with fail
  go_loopw [12, 13] (fun v i wr => ∃ (k : Nat) (S : List Int), k ≤ 4 ∧ i = .int .i64 ((k : Int) + 1) ∧ S.length ≤ k ∧ IRow wr W6.heap.size v S ∧ Below W6.heap.size W6 wr) (fun _ i _ => 5 - (intOf i).toNat)
  case atStart => exact ⟨0, [], by omega, rfl, Nat.le_refl _, World.ownsRow_nil _ _ _ _, Below.refl _ _⟩
  case round =>
    obtain ⟨k, S, hk, rfl, hSl, hr, hb⟩ := hrel
    obtain ⟨wo, rfl⟩ : ∃ wo, wo = wr := ⟨_, rfl⟩
    obtain ⟨sa, sn, sc, rfl⟩ := hr.sl
    have HR := Lib.hid hr
    have HBL := Lib.hid hb
    clear hr hb
    by_cases hlt : k < 4
    · have h4 : (k : Int) + 1 ≤ 4 := by omega
      have hk0 : (0 : Int) ≤ k := by omega
      go_wp2_with fail
      refine (c1.out _).mono ?_
      rintro e w7 ⟨rfl, rfl⟩
      go_upto_region 10 with fail
      · have hll : S.length ≤ 100000 := by omega
        have hsz : W6.heap.size ≤ wo.heap.size := HBL.out.size
        go_wp2_with (at_builtin; go_must (refine wpList_app_int rfl _ _ rfl W6.heap.size _ _ rfl (IRow.alloc HR.out _) ((k : Int) + 1) wo.heap.size 1 rfl (cell_new rfl rfl) hll (by simp; omega) ?_); intro v2 w2 h2 hg2 _; have H2 := Lib.hid (irow_app HR.out HBL.out h2 hg2); clear h2 hg2)
        go_roundw
        case rel => exact ⟨k + 1, S ++ [(k : Int) + 1], by omega, by go_num, by simp; omega, H2.out⟩
        case measure => simp [intOf]; omega
      · refine ⟨⟨k + 1, S, by omega, by go_num, by omega, HR.out, HBL.out⟩, by simp [intOf]; omega⟩
    · have h4 : ¬ (k : Int) + 1 ≤ 4 := by omega
      have HLS := Lib.hid (HBL.out.trans (Below.refl _ _))
      have HBW := Lib.hid (HB6.out.trans (HBL.out.mono HB6.out.size))
      have HCW := Lib.hid (HCS6.out.mono (sees_bel HBL.out))
      have HOW := Lib.hid (HOR.out.mono (sees_bel HBL.out))
      have HSW := Lib.hid HR.out.ints
      obtain ⟨s1, s2, hss⟩ := HR.out.shape
      have hslen : (S.length : Int) ≤ 4 := by omega
      injection hss with e1 e2 e3
      subst e2
      clear HBL HCS6 HOR HR HB6 e1 e3 HLS
      go_wp2_with fail
      clear h4 hlt hk hSl
      go_loopw [7, 14, 15] (fun c q i wr => ∃ (k : Nat) (cl : Bool), k ≤ 4 ∧ c = .bool true ∧ q = .bool cl ∧ i = .int .i64 ((k : Int) + 1) ∧ Hid (cl = true → ∀ s : Int, 1 ≤ s → s ≤ k → (digF (gs.map FctE.f)).goes pa pb S s = true → s ∈ S) ∧ Hid (Below wo.heap.size wo wr)) (fun _ _ i _ => 5 - (intOf i).toNat)
      case atStart => exact ⟨0, true, by omega, rfl, rfl, rfl, Lib.hid (fun _ s h1 h2 _ => by omega), Lib.hid (Below.refl _ _)⟩
      case round =>
        obtain ⟨k, cl, hk, rfl, rfl, rfl, HCL, HI⟩ := hrel
        obtain ⟨wp, rfl⟩ : ∃ wp, wp = wr := ⟨_, rfl⟩
        have HCP := Lib.hid (HCW.out.mono (sees_bel HI.out))
        have cL := Lib.hid (labelR_any HCP.out.facts ((k : Int) + 1) wp (fun a u h => h))
        by_cases hlt : k < 4
        · have h4 : (k : Int) + 1 ≤ 4 := by omega
          go_wp2_with fail
          refine cL.out.mono ?_
          rintro e w8 ⟨av, rfl, hia, hb8⟩
          obtain ⟨l1, l2, rfl⟩ := hia.slice
          have HIA := Lib.hid hia
          have HI8 := Lib.hid (HI.out.trans (hb8.mono HI.out.size))
          have HP8 := Lib.hid hb8
          clear hia hb8
          go_upto_region 16 with fail
          have hn9 := World.alloc_heap_new w8 (.cells (labCells (labOf (lastPub (gs.map FctE.f) ((k : Int) + 1))) (.slice l1 (labOf (lastPub (gs.map FctE.f) ((k : Int) + 1))).after.length l2)) 34)
          have hb9 := HI8.out.alloc HI8.out.size (.cells (labCells (labOf (lastPub (gs.map FctE.f) ((k : Int) + 1))) (.slice l1 (labOf (lastPub (gs.map FctE.f) ((k : Int) + 1))).after.length l2)) 34)
          have HP9 := Lib.hid (HP8.out.alloc HP8.out.size (.cells (labCells (labOf (lastPub (gs.map FctE.f) ((k : Int) + 1))) (.slice l1 (labOf (lastPub (gs.map FctE.f) ((k : Int) + 1))).after.length l2)) 34))
          have HN9 := Lib.hid hn9
          have HI9 := Lib.hid hb9
          clear hn9 hb9
          generalize World.alloc w8 _ = w9 at *
          have HCP9 := Lib.hid (HCW.out.mono (sees_bel HI9.out))
          have HOP9 := Lib.hid (HOW.out.mono (sees_bel HI9.out))
          have HSP9 := Lib.hid (HSW.out.mono (sees_bel HI9.out))
          have cA := Lib.hid (apprR_any HCP9.out.facts ((k : Int) + 1) w9 (fun a u h => h))
          have HIA9 := Lib.hid (HIA.out.mono (sees_bel HP9.out))
          have HGO : Hid (((lastPub (gs.map FctE.f) ((k : Int) + 1)).isSome && allows (labOf (lastPub (gs.map FctE.f) ((k : Int) + 1))) pa pb L (apprF (gs.map FctE.f) ((k : Int) + 1))) = decide (((k : Int) + 1) ∈ L)) := Lib.hid (out_mem HO.out (by omega) (by omega))
          have HGS : Hid ((digF (gs.map FctE.f)).goes pa pb S ((k : Int) + 1) = ((lastPub (gs.map FctE.f) ((k : Int) + 1)).isSome && allows (labOf (lastPub (gs.map FctE.f) ((k : Int) + 1))) pa pb S (apprF (gs.map FctE.f) ((k : Int) + 1)))) := Lib.hid rfl
          clear cL
          generalize (lastPub (gs.map FctE.f) ((k : Int) + 1)).isSome = q at *
          generalize labOf (lastPub (gs.map FctE.f) ((k : Int) + 1)) = x at *
          generalize apprF (gs.map FctE.f) ((k : Int) + 1) = n at *
          go_wp2_with fail
          refine cA.out.mono ?_
          rintro e w10 ⟨rfl, rfl⟩
          clear cA
          go_upto_region 17 with fail
          have cH := Lib.hid (hasR_any _ L HOP9.out ((k : Int) + 1) w9 (fun a u h => h))
          have cS := Lib.hid (hasR_any _ S HSP9.out ((k : Int) + 1) w9 (fun a u h => h))
          have HNX : ∀ s : Int, 1 ≤ s → s ≤ ((k + 1 : Nat) : Int) → s ≤ k ∨ s = (k : Int) + 1 := fun s h1 h2 => by omega
          have HNX := Lib.hid HNX
          cases q with
          | false =>
            have HE : Hid (decide (((k : Int) + 1) ∈ L) = false) := Lib.hid (by rw [← HGO.out]; rfl)
            rw [HE.out] at cH
            have HCL2 : Hid (cl = true → ∀ s : Int, 1 ≤ s → s ≤ ((k + 1 : Nat) : Int) → (digF (gs.map FctE.f)).goes pa pb S s = true → s ∈ S) := Lib.hid (fun hc s h1 h2 hg => by
              rcases HNX.out s h1 h2 with h | h
              · exact HCL.out hc s h1 h hg
              · subst h
                rw [HGS.out] at hg
                cases hg)
            go_wp2_with fail
            refine cH.out.mono ?_
            rintro e w11 ⟨rfl, rfl⟩
            clear cH cS
            cases cl with
            | false =>
              go_wp2_with fail
              go_roundw
              case rel => exact ⟨k + 1, false, by omega, rfl, rfl, by go_num, Lib.hid (fun h => HCL2.out (by first | exact h | trivial)), HI9⟩
              case measure => simp [intOf]; omega
            | true =>
              go_wp2_with fail
              go_roundw
              case rel => exact ⟨k + 1, true, by omega, rfl, rfl, by go_num, Lib.hid (fun h => HCL2.out (by first | exact h | trivial)), HI9⟩
              case measure => simp [intOf]; omega
          | true =>
            have aL := Lib.hid (allowsR_any x (.slice l1 x.after.length l2) HIA9.out pa pb _ L HOP9.out n w9 (fun a u h => h))
            have HE : Hid (allows x pa pb L n = decide (((k : Int) + 1) ∈ L)) := Lib.hid (by rw [← HGO.out]; rfl)
            rw [HE.out] at aL
            generalize hr5 : decide (((k : Int) + 1) ∈ L) = r at *
            have HRR := Lib.hid hr5
            clear hr5
            have d0 : w9.cell? ⟨w8.heap.size, 0, none⟩ = some (.int .i64 x.till) := blk_cell HN9.out 0
            have d1 : w9.cell? ⟨w8.heap.size, 1, none⟩ = some (.slice l1 x.after.length l2) := blk_cell HN9.out 1
            have d2 : w9.cell? ⟨w8.heap.size, 2, none⟩ = some (.int .i64 x.appr) := blk_cell HN9.out 2
            have d3 : w9.cell? ⟨w8.heap.size, 3, none⟩ = some (.int .i64 x.denied) := blk_cell HN9.out 3
            go_wp2_with fail
            refine aL.out.mono ?_
            rintro e w11 ⟨rfl, hb11⟩
            clear aL cH cS d0 d1 d2 d3
            have cH := Lib.hid (hasR_any _ L (HOP9.out.mono (sees_bel hb11)) ((k : Int) + 1) w11 (fun a u h => h))
            have aS := Lib.hid (allowsR_any x (.slice l1 x.after.length l2) (HIA9.out.mono (sees_bel hb11)) pa pb _ S (HSP9.out.mono (sees_bel hb11)) n w11 (fun a u h => h))
            have HS11 := Lib.hid (sees_bel hb11)
            have HI11 := Lib.hid (HI9.out.trans (hb11.mono HI9.out.size))
            have HN11 := Lib.hid ((hb11.block _ (Go.Proofs.YtgbihmafmmeicaaGreatDoor.hlt HN9.out)).trans HN9.out)
            clear hb11
            have cS := Lib.hid (fun W (hb : Below w11.heap.size w11 W) => hasR_any _ S (HSP9.out.mono (fun a u h => (sees_bel hb _ _ ((HS11.out) _ _ h)))) ((k : Int) + 1) W (fun a u h => h))
            rw [HRR.out] at cH
            cases r
            all_goals
              go_wp2_with fail
              refine cH.out.mono ?_
              rintro e w12 ⟨rfl, rfl⟩
              clear cH
              have d0 : w11.cell? ⟨w8.heap.size, 0, none⟩ = some (.int .i64 x.till) := blk_cell HN11.out 0
              have d1 : w11.cell? ⟨w8.heap.size, 1, none⟩ = some (.slice l1 x.after.length l2) := blk_cell HN11.out 1
              have d2 : w11.cell? ⟨w8.heap.size, 2, none⟩ = some (.int .i64 x.appr) := blk_cell HN11.out 2
              have d3 : w11.cell? ⟨w8.heap.size, 3, none⟩ = some (.int .i64 x.denied) := blk_cell HN11.out 3
              cases cl with
              | false =>
                go_wp2_with fail
                go_roundw
                case rel => exact ⟨k + 1, false, by omega, rfl, rfl, by go_num, Lib.hid (fun h => absurd h (by decide)), HI11⟩
                case measure => simp [intOf]; omega
              | true =>
                go_wp2_with fail
                refine aS.out.mono ?_
                rintro e w13 ⟨rfl, hb13⟩
                have cT := Lib.hid (cS.out w13 hb13)
                have HI13 := Lib.hid (HI11.out.trans (hb13.mono HI11.out.size))
                clear hb13 aS cS d0 d1 d2 d3
                generalize hr2 : allows x pa pb S n = r2 at *
                have HR2 := Lib.hid hr2
                clear hr2
                generalize hr3 : decide (((k : Int) + 1) ∈ S) = r3 at *
                have HR3 := Lib.hid hr3
                clear hr3
                have HCL3 : Hid ((r2 = true → r3 = true) → ∀ s : Int, 1 ≤ s → s ≤ ((k + 1 : Nat) : Int) → (digF (gs.map FctE.f)).goes pa pb S s = true → s ∈ S) := Lib.hid (fun hc s h1 h2 hg => by
                  rcases HNX.out s h1 h2 with h | h
                  · exact HCL.out (by first | rfl | trivial) s h1 h hg
                  · subst h
                    rw [HGS.out] at hg
                    have h3 := hc (by simpa using hg)
                    rw [← HR3.out] at h3
                    exact of_decide_eq_true h3)
                cases r2 with
                | false =>
                  go_wp2_with fail
                  go_roundw
                  case rel => exact ⟨k + 1, true, by omega, rfl, rfl, by go_num, Lib.hid (fun _ => HCL3.out (fun h => by first | cases h | exact absurd h (by simp))), HI13⟩
                  case measure => simp [intOf]; omega
                | true =>
                  go_wp2_with fail
                  refine cT.out.mono ?_
                  rintro e w14 ⟨rfl, rfl⟩
                  cases r3 with
                  | false =>
                    go_wp2_with fail
                    go_roundw
                    case rel => exact ⟨k + 1, false, by omega, rfl, rfl, by go_num, Lib.hid (fun h => absurd h (by decide)), HI13⟩
                    case measure => simp [intOf]; omega
                  | true =>
                    go_wp2_with fail
                    go_roundw
                    case rel => exact ⟨k + 1, true, by omega, rfl, rfl, by go_num, Lib.hid (fun _ => HCL3.out (fun _ => by first | rfl | trivial)), HI13⟩
                    case measure => simp [intOf]; omega
        · have h4 : ¬ (k : Int) + 1 ≤ 4 := by omega
          have hbf := HBW.out.trans (HI.out.mono HBW.out.size)
          have HBF := Lib.hid hbf
          clear hbf
          cases cl with
          | false =>
            go_wp2_with fail
            go_ret
            exact ⟨rfl, HBF.out⟩
          | true =>
            have hk4 : k = 4 := by omega
            subst hk4
            have hp : ∀ s, 4 < s → (digF (gs.map FctE.f)).pub s = false := fun s h4s => by
              rw [HGM.out]
              show (lastPub ((logF xs).filter validF) s).isSome = false
              rw [lastPub_none.2 (fun f hf => by
                have h1 := logF_story xs f (List.mem_filter.1 hf).1
                unfold isPub
                rw [decide_eq_false (by omega : ¬ f.story = s), Bool.and_false])]
              rfl
            have hsub : withinF L S = 1 := within_one (out_least HO.out hp (fun s h1 h2 hg => HCL.out (by first | rfl | trivial) s h1 (by omega) hg))
            have HW : Hid (Calls Tryz.prog 20 #[.slice o1 L.length o2, .slice sa S.length sc] wp fun e w' => e = .returned (.int .i64 1) ∧ wp = w') := Lib.hid (by
              have h := withinL_any (mem := fun a => wp.cell? a) (HOW.out.mono (sees_bel HI.out)) (HSW.out.mono (sees_bel HI.out)) wp (fun a u h => h)
              rw [hsub] at h
              exact h)
            clear hsub hp
            go_wp2_with fail
            refine HW.out.mono ?_
            rintro e w5 ⟨rfl, rfl⟩
            go_wp2_with fail
            go_ret
            exact ⟨rfl, HBF.out⟩
end Go.Proofs.YtgbihmafmmeicaaGreatDoor
/-
  WHAT IS PROVED HERE: plain: what AccessStable asks of the visible facts. No program, no condition.
-/
namespace Go.Proofs.YtgbihmafmmeicaaGreatDoor
open Go.RowKit Mg Go.Shelf

theorem vis_kind {c : Scn} {g : Fct} (h : g ∈ visC c) : g.kind = 1 ∨ g.kind = 3 ∨ g.kind = 4 ∨ g.kind = 5 ∨ g.kind = 6 ∨ g.kind = 7 := by
  obtain ⟨pre, f, post, e, h2⟩ := visGo_mem h
  rw [(seenAt_form h2).2.2.1]
  unfold seenAt at h2
  by_cases h7 : f.kind = 7
  · omega
  rw [if_neg h7] at h2
  by_cases h3 : f.kind = 3 ∨ f.kind = 6
  · omega
  rw [if_neg h3] at h2
  by_cases h5 : f.kind = 5
  · omega
  rw [if_neg h5] at h2
  by_cases h4 : f.kind = 4
  · omega
  rw [if_neg h4] at h2
  by_cases h1 : f.kind = 1
  · omega
  rw [if_neg h1] at h2
  cases h2
/-- what AccessStable asks of one fact -/
structure Bare (f : Fct) : Prop where
  tidy : Tidy f
  valid : validF f = true
  lab : f.lab = lab0
  blk : ∀ b ∈ f.blocks, b.lab = lab0
theorem stable_law {D : List Fct} (hD : ∀ f ∈ D, validF f = true) {cls now : Int} {L : List Int} (hc : 0 ≤ cls ∧ cls < 4) (hO : OutIs (digF D) cls now L) {V : List Fct} (hV : V = visOf D cls now L) :
    (∀ f ∈ V, Bare f) ∧ ∀ c' t' L', 0 ≤ c' → c' < 4 → 0 ≤ t' → OutIs (digF V) c' t' L' → visOf (V.filter validF) c' t' L' = V := by
  have hv : V = visC ⟨D, cls, now, L⟩ := by rw [hV]; unfold visOf; rw [if_pos hc]
  have hval : ∀ f ∈ V, validF f = true := fun f hf => visC_valid (c := ⟨D, cls, now, L⟩) hD f (by rw [← hv]; exact hf)
  refine ⟨fun f hf => ?_, fun c' t' L' h1 h2 h3 h4 => ?_⟩
  · have hf2 : f ∈ visC ⟨D, cls, now, L⟩ := by rw [← hv]; exact hf
    have hk := vis_kind hf2
    obtain ⟨pre, g, post, e, h2⟩ := visGo_mem hf2
    have hfo := seenAt_form h2
    exact ⟨⟨by omega, validF_used (hval f hf)⟩, hval f hf, hfo.2.2.2.2.2.2.2.1, hfo.2.2.2.2.2.2.2.2.1⟩
  · rw [List.filter_eq_self.2 hval]
    unfold visOf
    rw [if_pos ⟨h1, h2⟩]
    have ho := out_again (c := ⟨D, cls, now, L⟩) hO (cls' := c') (now' := t') ⟨h1, by omega⟩ h3
    rw [← hv] at ho
    have hL := out_one h4 ho
    have := visC_again (c := ⟨D, cls, now, L⟩) (c' := ⟨V, c', t', L'⟩) ⟨hv, hL, ⟨h1, by show c' ≤ 3; omega⟩, h3⟩
    rw [this, ← hv]
end Go.Proofs.YtgbihmafmmeicaaGreatDoor
/-
  WHAT IS PROVED HERE: the walk of the law AccessStable. No condition but that the arguments lie in memory and are within Go's.
-/
namespace Go.Proofs.YtgbihmafmmeicaaGreatDoor
open Go.RowKit Mg Go.Shelf

/-- the reference's Same at two empty labels -/
theorem bare_lab {mem : Addr → Option Value} {x : Lab} (hx : x = lab0) (av : Value) (h : IntsM mem av x.after) (w : World) (hs : Sees mem w) :
    Calls Tryz.prog 26 #[.agg (labCells x av), .agg (labCells lab0 (.slice none 0 0))] w fun e w' => e = .returned (.bool true) ∧ Below w.heap.size w w' := by
  have h := labSameR_any x lab0 av (.slice none 0 0) h (IntsM.nil mem) w hs
  rwa [decide_eq_true hx] at h
set_option maxRecDepth 100000 in
set_option maxHeartbeats 8000000 in
theorem law_stable {mem : Addr → Option Value} {v : Value} {xs : List Six} (hx : SixM mem v xs) {a b c d : Int} (ha : okI a) (hb : okI b) (hc : okI c) (hd : okI d) (w : World) (hs : Sees mem w) :
    Calls Tryz.prog 6 #[v, .agg #[.int .i64 a, .int .i64 b], .agg #[.int .i64 c, .int .i64 d]] w fun e w' => e = .returned (.bool true) ∧ Below w.heap.size w w' := by
  have HX := Lib.hid hx
  obtain ⟨_, _, ⟨_, oa, oc, rfl, _⟩, _⟩ := hx
  have HB1 : Hid (Below w.heap.size w ((w.alloc (.cells #[.int .i64 a, .int .i64 b] 23)).alloc (.cells #[.int .i64 c, .int .i64 d] 23))) := Lib.hid (((Below.refl _ w).alloc (Nat.le_refl _) _).alloc (by simp) _)
  have HA1 := Lib.hid (heap_new1 w (.cells #[.int .i64 a, .int .i64 b] 23) (.cells #[.int .i64 c, .int .i64 d] 23))
  have HM1 := Lib.hid (heap_new2 w (.cells #[.int .i64 a, .int .i64 b] 23) (.cells #[.int .i64 c, .int .i64 d] 23))
  have HS1 := Lib.hid (hs.bel HB1.out)
  obtain ⟨q0, q1⟩ := pickF_lt (c := a) (n := 4) (by omega)
  obtain ⟨t0, t1⟩ := pickF_lt (c := b) (n := 25) (by omega)
  obtain ⟨p0, p1⟩ := pickF_lt (c := c) (n := 4) (by omega)
  obtain ⟨e0, e1⟩ := pickF_lt (c := d) (n := 25) (by omega)
  have c2 := Lib.hid (fun W => at_any2 a b ha hb W)
  have c3 := Lib.hid (fun W => at_any2 c d hc hd W)
  generalize pickF a 4 = pa at *
  generalize pickF b 25 = pb at *
  generalize pickF c 4 = pc at *
  generalize pickF d 25 = pd at *
  clear hs ha hb hc hd
  go_enter Tryz.func6, Tryz.ntmps6
  go_upto_region 1 with fail
  generalize hW1 : World.alloc (World.alloc w _) _ = W1 at *
  clear hW1
  go_wp2_with fail
  refine (sane_any W1).mono ?_
  rintro e W2 ⟨rfl, hb2⟩
  have HB2 := Lib.hid (HB1.out.trans (hb2.mono HB1.out.size))
  have hA2 := (hb2.block _ (Go.Proofs.YtgbihmafmmeicaaGreatDoor.hlt HA1.out)).trans HA1.out
  have HM2 := Lib.hid ((hb2.block _ (Go.Proofs.YtgbihmafmmeicaaGreatDoor.hlt HM1.out)).trans HM1.out)
  have HS2 := Lib.hid (HS1.out.bel hb2)
  have k0 : W2.cell? ⟨w.heap.size, 0, none⟩ = some (.int .i64 a) := blk_cell hA2 0
  have k1 : W2.cell? ⟨w.heap.size, 1, none⟩ = some (.int .i64 b) := blk_cell hA2 1
  clear hb2 hA2
  go_wp2_with fail
  refine (c2.out _).mono ?_
  rintro e W3 ⟨rfl, hb3⟩
  have HB3 := Lib.hid (HB2.out.trans (hb3.mono HB2.out.size))
  have HM3 := Lib.hid ((hb3.block _ (Go.Proofs.YtgbihmafmmeicaaGreatDoor.hlt HM2.out)).trans HM2.out)
  have HS3 := Lib.hid (HS2.out.bel hb3)
  clear k0 k1 hb3
  go_wp2_with fail
  refine (log_any _ xs HX.out W3 HS3.out).mono ?_
  rintro e W4 ⟨lv, es, rfl, hys, hI⟩
  obtain ⟨la, lc, rfl⟩ := hI.row.shape
  have hyl : es.length ≤ 24 := by rw [← List.length_map (f := FctE.f), hys]; exact logF_len xs
  have HES := Lib.hid hI.es
  have HB4 := Lib.hid (HB3.out.trans (hI.bel.mono HB3.out.size))
  have HM4 := Lib.hid ((hI.bel.block _ (Go.Proofs.YtgbihmafmmeicaaGreatDoor.hlt HM3.out)).trans HM3.out)
  have HTY : Hid (∀ e ∈ es, Tidy e.f) := Lib.hid (fun e he => logF_tidy xs _ (by rw [← hys]; exact List.mem_map_of_mem he))
  clear hI hys
  go_wp2_with fail
  refine (access_visible_any _ es HES.out HTY.out (by omega) pa pb W4 (fun a u h => h) (cells_lt W4)).mono ?_
  rintro e W5 ⟨vv, zs, L, rfl, hL, hzs, hzr, hzok, hb5⟩
  have HZ := Lib.hid (hzr.es (fun y hy => (hzok y hy).mono (memFr_sees _ _)))
  obtain ⟨hbare, hagain⟩ := stable_law (D := (es.map FctE.f).filter validF) (fun f hf => (List.mem_filter.1 hf).2) ⟨q0, q1⟩ (hL q0 q1) hzs
  have HBARE : Hid (∀ k (h : k < zs.length), Bare zs[k].f) := Lib.hid (fun k h => hbare _ (List.mem_map_of_mem (List.getElem_mem h)))
  have HTZ : Hid (∀ e ∈ zs, Tidy e.f) := Lib.hid (fun e he => (hbare _ (List.mem_map_of_mem he)).tidy)
  have HAG := Lib.hid hagain
  have HBV : Hid (∀ e ∈ zs, validF e.f = true) := Lib.hid (fun e he => (hbare _ (List.mem_map_of_mem he)).valid)
  have HLEN : Hid (zs.length ≤ 1000) := Lib.hid (by
    have h1 : (zs.map FctE.f).length ≤ ((es.map FctE.f).filter validF).length := by
      rw [hzs]
      unfold visOf
      split
      · have h := (visGo_ns ⟨(es.map FctE.f).filter validF, pa, pb, L⟩ ((es.map FctE.f).filter validF) (fun _ _ _ => false)).length_le
        rw [List.length_map, List.length_map] at h
        exact h
      · exact Nat.zero_le _
    have h2 := List.length_filter_le validF (es.map FctE.f)
    rw [List.length_map] at h1 h2
    omega)
  obtain ⟨za, zc, zb, zo, rfl, hzm, hza, hze⟩ := HZ.out.open_
  unfold maxLen at hzm
  have hzl : (zs.length : Int) ≤ 9223372036854775807 := by omega
  have HZA := Lib.hid hza
  have HZE := Lib.hid hze
  have HB5 := Lib.hid (HB4.out.trans (hb5.mono HB4.out.size))
  have HM5 := Lib.hid ((hb5.block _ (Go.Proofs.YtgbihmafmmeicaaGreatDoor.hlt HM4.out)).trans HM4.out)
  clear hL hzs hzr hzok hb5 hza hze hbare hagain HB4 HM4 HES HTY hyl
  go_wp2_with fail
  go_loopw [7, 11] (fun q i wr => ∃ k : Nat, k ≤ zs.length ∧ i = .int .i64 k ∧ q = .bool true ∧ Hid (Below W5.heap.size W5 wr)) (fun _ i _ => zs.length - (intOf i).toNat)
  case atStart => exact ⟨0, Nat.zero_le _, rfl, rfl, Lib.hid (Below.refl _ _)⟩
  case round =>
    obtain ⟨k, hk, rfl, rfl, HI⟩ := hrel
    obtain ⟨wo, rfl⟩ : ∃ wo, wo = wr := ⟨_, rfl⟩
    by_cases hlt : k < zs.length
    · obtain rfl := HZA.out (by omega)
      obtain ⟨hok, hat0⟩ := HZE.out k hlt
      have HSW := Lib.hid (sees_bel HI.out)
      have HAT : Hid (zs[k].at (fun p => wo.cell? p) zb (zo + k * 23)) := Lib.hid (fun j u hj => HSW.out _ _ (hat0 j u hj))
      have hbr := HBARE.out k hlt
      have HC := Lib.hid (valid5_any zs[k] hok hbr.tidy wo HSW.out)
      have HOK := Lib.hid hok
      have HBR := Lib.hid hbr
      rw [hbr.valid] at HC
      clear hok hat0 hbr
      generalize zs[k] = x at *
      go_wp2_with ((with_reducible refine at_fload _ rfl ?_); go_must (refine wpList_fct_mid rfl _ rfl (by simp [Act.eval]) HAT.out ?_))
      refine HC.out.mono ?_
      rintro e w6 ⟨rfl, hb⟩
      have HI6 := Lib.hid (HI.out.trans (hb.mono HI.out.size))
      have HS6 := Lib.hid (sees_bel HI6.out)
      have HAT6 : Hid (x.at (fun p => w6.cell? p) zb (zo + k * 23)) := Lib.hid (fun j u hj => sees_bel hb _ _ (HAT.out j u hj))
      have d11 : w6.cell? ⟨zb, zo + k * 23 + 11, none⟩ = some (.int .i64 x.f.lab.till) := HAT6.out 11 _ rfl
      have d12 : w6.cell? ⟨zb, zo + k * 23 + 12, none⟩ = some x.av := HAT6.out 12 _ rfl
      have d13 : w6.cell? ⟨zb, zo + k * 23 + 13, none⟩ = some (.int .i64 x.f.lab.appr) := HAT6.out 13 _ rfl
      have d14 : w6.cell? ⟨zb, zo + k * 23 + 14, none⟩ = some (.int .i64 x.f.lab.denied) := HAT6.out 14 _ rfl
      clear hb HAT HI HSW HC
      have HCL := Lib.hid (bare_lab HBR.out.lab _ HOK.out.parts.2.2 w6 HS6.out)
      go_wp2_with fail
      refine HCL.out.mono ?_
      rintro e w7 ⟨rfl, hb⟩
      have HI7 := Lib.hid (HI6.out.trans (hb.mono HI6.out.size))
      have HAT7 : Hid (x.at (fun p => w7.cell? p) zb (zo + k * 23)) := Lib.hid (fun j u hj => sees_bel hb _ _ (HAT6.out j u hj))
      clear hb d11 d12 d13 d14 HCL HAT6 HI6 HS6
      obtain ⟨ba, bc, bb, bo, hbe, hbm, hbm2, hba, hbat⟩ := HOK.out.parts.2.1.open_
      injection hbe with be1 be2 be3
      subst be1 be3
      have HBA := Lib.hid hba
      have HBT := Lib.hid hbat
      unfold maxLen at hbm2
      have hbl : (x.f.blocks.length : Int) ≤ 9223372036854775807 := by omega
      clear be2 hba hbat hbm hbm2
      go_wp2_with fail
      go_loopw [7, 13] (fun q i wr => ∃ j : Nat, j ≤ x.f.blocks.length ∧ i = .int .i64 j ∧ q = .bool true ∧ Hid (Below w7.heap.size w7 wr)) (fun _ i _ => x.f.blocks.length - (intOf i).toNat)
      case atStart => exact ⟨0, Nat.zero_le _, rfl, rfl, Lib.hid (Below.refl _ _)⟩
      case round =>
        obtain ⟨j, hj, rfl, rfl, HJ⟩ := hrel
        obtain ⟨wp, rfl⟩ : ∃ wp, wp = wr := ⟨_, rfl⟩
        have HAP : Hid (x.at (fun p => wp.cell? p) zb (zo + k * 23)) := Lib.hid (fun j u hj => sees_bel HJ.out _ _ (HAT7.out j u hj))
        have d10 : wp.cell? ⟨zb, zo + k * 23 + 10, none⟩ = some (.slice x.ba x.f.blocks.length x.bc) := HAP.out 10 _ rfl
        have HIP := Lib.hid (HI7.out.trans (HJ.out.mono HI7.out.size))
        by_cases hjl : j < x.f.blocks.length
        · have hba := HBA.out (by omega)
          rw [hba] at d10
          have HSP := Lib.hid (sees_bel HIP.out)
          obtain ⟨_, ao, acap, hints, h9⟩ := (HBT.out j hjl).nine HSP.out
          have hbl0 := HBR.out.blk _ (List.getElem_mem hjl)
          have HCB := Lib.hid (bare_lab hbl0 _ hints wp HSP.out)
          have f5 := h9.c5
          have f6 := h9.c6
          have f7 := h9.c7
          have f8 := h9.c8
          clear hints h9 hbl0 hba
          generalize x.f.blocks[j].lab = lb at *
          go_wp2_with fail
          refine HCB.out.mono ?_
          rintro e w8 ⟨rfl, hb⟩
          have HJ8 := Lib.hid (HJ.out.trans (hb.mono HJ.out.size))
          clear hb f5 f6 f7 f8 d10
          go_wp2_with fail
          go_roundw
          case rel => exact ⟨j + 1, by omega, by go_num, rfl, HJ8⟩
          case measure => simp [intOf]; omega
        · go_wp2_with fail
          go_roundw
          case rel => exact ⟨k + 1, by omega, by go_num, rfl, HIP⟩
          case measure => simp [intOf]; omega
    · obtain rfl : k = zs.length := by omega
      have HBW := Lib.hid (HB5.out.trans (HI.out.mono HB5.out.size))
      have HZW := Lib.hid (HZ.out.mono (sees_bel HI.out))
      have hM6 := (HI.out.block _ (Go.Proofs.YtgbihmafmmeicaaGreatDoor.hlt HM5.out)).trans HM5.out
      have k0 : wo.cell? ⟨w.heap.size + 1, 0, none⟩ = some (.int .i64 c) := blk_cell hM6 0
      have k1 : wo.cell? ⟨w.heap.size + 1, 1, none⟩ = some (.int .i64 d) := blk_cell hM6 1
      clear hM6 HI HZ HB5 HZA HZE HBARE hlt hk
      go_wp2_with fail
      refine (c3.out _).mono ?_
      rintro e w6 ⟨rfl, hb⟩
      have HB6 := Lib.hid (HBW.out.trans (hb.mono HBW.out.size))
      have HZ6 := Lib.hid (HZW.out.mono (sees_bel hb))
      clear hb k0 k1 HBW HZW
      go_wp2_with fail
      refine (access_visible_any _ zs HZ6.out HTZ.out HLEN.out pc pd w6 (fun a u h => h) (cells_lt w6)).mono ?_
      rintro e w7 ⟨v2, ys, L2, rfl, hL, hys, hyr, hyok, hb⟩
      have HE7 : Hid (zs.map FctE.f = ys.map FctE.f) := Lib.hid (by
        rw [hys]
        exact (HAG.out pc pd L2 p0 p1 e0 (by have h := hL p0 p1; rwa [List.filter_eq_self.2 (fun f hf => by obtain ⟨e, he, rfl⟩ := List.mem_map.1 hf; exact HBV.out e he)] at h)).symm)
      have HY7 := Lib.hid (hyr.es (fun y hy => (hyok y hy).mono (memFr_sees _ _)))
      obtain ⟨y1, y2, y3, rfl⟩ := hyr.sl
      have HB7 := Lib.hid (HB6.out.trans (hb.mono HB6.out.size))
      have HZ7 := Lib.hid (HZ6.out.mono (sees_bel hb))
      clear hL hys hyr hyok hb HB6 HZ6
      go_wp2_with fail
      refine (rsameList_any _ _ zs ys HZ7.out HY7.out HE7.out w7 (fun a u h => h)).mono ?_
      rintro e w8 ⟨rfl, hb⟩
      have HB8 := Lib.hid (HB7.out.trans (hb.mono HB7.out.size))
      have HZ8 := Lib.hid (HZ7.out.mono (sees_bel hb))
      clear hb HB7 HZ7 HY7 HE7
      go_wp2_with fail
      refine (access_visible_any _ zs HZ8.out HTZ.out HLEN.out pa 0 w8 (fun a u h => h) (cells_lt w8)).mono ?_
      rintro e w9 ⟨v2, us, L2, rfl, hL, hys, hyr, hyok, hb⟩
      have HE9 : Hid (zs.map FctE.f = us.map FctE.f) := Lib.hid (by
        rw [hys]
        exact (HAG.out pa 0 L2 q0 q1 (Int.le_refl _) (by have h := hL q0 q1; rwa [List.filter_eq_self.2 (fun f hf => by obtain ⟨e, he, rfl⟩ := List.mem_map.1 hf; exact HBV.out e he)] at h)).symm)
      have HY9 := Lib.hid (hyr.es (fun y hy => (hyok y hy).mono (memFr_sees _ _)))
      obtain ⟨u1, u2, u3, rfl⟩ := hyr.sl
      have HB9 := Lib.hid (HB8.out.trans (hb.mono HB8.out.size))
      have HZ9 := Lib.hid (HZ8.out.mono (sees_bel hb))
      clear hL hys hyr hyok hb HB8 HZ8
      go_wp2_with fail
      refine (rsameList_any _ _ zs us HZ9.out HY9.out HE9.out w9 (fun a u h => h)).mono ?_
      rintro e w10 ⟨rfl, hb⟩
      have HB10 := Lib.hid (HB9.out.trans (hb.mono HB9.out.size))
      clear hb HB9 HZ9 HY9 HE9
      go_wp2_with fail
      go_ret
      exact ⟨rfl, HB10.out⟩
end Go.Proofs.YtgbihmafmmeicaaGreatDoor
/-
  WHAT IS PROVED HERE: the walk of the law AccessMemory. No condition but that the arguments lie in memory and are within Go's.
-/
namespace Go.Proofs.YtgbihmafmmeicaaGreatDoor
open Go.RowKit Mg Go.Shelf

/-- strings outside F may have been changed -/
structure Chgd (F : Nat → Prop) (W0 wr : World) : Prop where
  upd : Upd (fun b => ¬ F b) W0 wr
  str : ∀ a s, memFr W0 F a = some (.string s) → (∃ s', wr.cell? a = some (.string s')) ∧ wr.frozen? a = false
theorem Chgd.start (F : Nat → Prop) (W0 : World) : Chgd F W0 W0 := ⟨Upd.refl _ _, fun a s h => ⟨⟨s, memFr_sees _ _ _ _ h⟩, (memFr_lt a _ h).2.2⟩⟩
theorem Chgd.set {F : Nat → Prop} {W0 wr : World} (h : Chgd F W0 wr) {a : Addr} {s : ByteArray} (ha : memFr W0 F a = some (.string s)) (t : ByteArray) : Chgd F W0 (wr.setCell a (.string t)) := by
  refine ⟨h.upd.setCell (.inl (memFr_lt a _ ha).2.1) _, fun b s' hb => ?_⟩
  obtain ⟨⟨s2, h2⟩, h3⟩ := h.str b s' hb
  refine ⟨?_, by rw [World.frozen?_setCell]; exact h3⟩
  by_cases e : a = b
  · subst e
    exact ⟨t, sc_same h2⟩
  · exact ⟨s2, (sc_other e).trans h2⟩
theorem Chgd.row {F : Nat → Prop} {W0 wr : World} (h : Chgd F W0 wr) {b o : Nat} {x : FctE} (hx : x.at (fun p => W0.cell? p) b o) (hb : F b) : x.at (fun p => wr.cell? p) b o := fun j u hj => by
  have h1 := hx j u hj
  exact (h.upd.cell (World.block_lt_of_cell? _ _ h1) (fun hn => hn hb)).trans h1
set_option maxRecDepth 100000 in
set_option maxHeartbeats 8000000 in
theorem law_memory {mem : Addr → Option Value} {v : Value} {xs : List Six} (hx : SixM mem v xs) {a b : Int} (ha : okI a) (hb : okI b) (w : World) (hs : Sees mem w) :
    Calls Tryz.prog 9 #[v, .agg #[.int .i64 a, .int .i64 b]] w fun e w' => e = .returned (.bool true) ∧ Below w.heap.size w w' := by
  have HX := Lib.hid hx
  obtain ⟨_, _, ⟨_, oa, oc, rfl, _⟩, _⟩ := hx
  have HB1 : Hid (Below w.heap.size w (w.alloc (.cells #[.int .i64 a, .int .i64 b] 23))) := Lib.hid ((Below.refl _ w).alloc (Nat.le_refl _) _)
  have HA1 := Lib.hid (World.alloc_heap_new w (.cells #[.int .i64 a, .int .i64 b] 23))
  have HS1 := Lib.hid (hs.bel HB1.out)
  obtain ⟨q0, q1⟩ := pickF_lt (c := a) (n := 4) (by omega)
  obtain ⟨t0, t1⟩ := pickF_lt (c := b) (n := 25) (by omega)
  have c2 := Lib.hid (fun W => at_any2 a b ha hb W)
  generalize pickF a 4 = pa at *
  generalize pickF b 25 = pb at *
  clear hs ha hb
  go_enter Tryz.func9, Tryz.ntmps9
  go_upto_region 1 with fail
  generalize hW1 : w.alloc _ = W1 at *
  clear hW1
  go_wp2_with fail
  refine (sane_any W1).mono ?_
  rintro e W2 ⟨rfl, hb2⟩
  have HB2 := Lib.hid (HB1.out.trans (hb2.mono HB1.out.size))
  have HA2 := Lib.hid ((hb2.block _ (Go.Proofs.YtgbihmafmmeicaaGreatDoor.hlt HA1.out)).trans HA1.out)
  have HS2 := Lib.hid (HS1.out.bel hb2)
  clear hb2
  go_wp2_with fail
  refine (log_any _ xs HX.out W2 HS2.out).mono ?_
  rintro e W3 ⟨lv, es, rfl, hys, hI⟩
  obtain ⟨la, lc, rfl⟩ := hI.row.shape
  have HYS := Lib.hid hys
  have hyl : es.length ≤ 24 := by rw [← List.length_map (f := FctE.f), hys]; exact logF_len xs
  have HES := Lib.hid hI.es
  have HB3 := Lib.hid (HB2.out.trans (hI.bel.mono HB2.out.size))
  have hA3 := (hI.bel.block _ (Go.Proofs.YtgbihmafmmeicaaGreatDoor.hlt HA2.out)).trans HA2.out
  have HS3 := Lib.hid (HS2.out.bel hI.bel)
  have HTY : Hid (∀ e ∈ es, Tidy e.f) := Lib.hid (fun e he => logF_tidy xs _ (by rw [← hys]; exact List.mem_map_of_mem he))
  have k0 : W3.cell? ⟨w.heap.size, 0, none⟩ = some (.int .i64 a) := blk_cell hA3 0
  have k1 : W3.cell? ⟨w.heap.size, 1, none⟩ = some (.int .i64 b) := blk_cell hA3 1
  clear hI hys hA3
  go_wp2_with fail
  refine (c2.out _).mono ?_
  rintro e W4 ⟨rfl, hb⟩
  have HB4 := Lib.hid (HB3.out.trans (hb.mono HB3.out.size))
  have HE4 := Lib.hid (HES.out.mono (sees_bel hb))
  have HS4 := Lib.hid (HS3.out.bel hb)
  clear k0 k1 hb HES HB3 HS3
  go_wp2_with fail
  refine (access_out_any _ es HE4.out HTY.out (by omega) pa pb W4 (fun a u h => h) (cells_lt W4)).mono ?_
  rintro e W5 ⟨ov, L, rfl, hor, ho, hb⟩
  obtain ⟨o1, o2, rfl⟩ := hor.shape
  have HB5 := Lib.hid (HB4.out.trans (hb.mono HB4.out.size))
  have HE5 := Lib.hid (HE4.out.mono (sees_bel hb))
  have HS5 := Lib.hid (HS4.out.bel hb)
  clear hb ho hor HB4 HE4 HS4
  go_wp2_with fail
  refine (next_any _ es HE5.out HTY.out (by omega) pa pb W5 (fun a u h => h) (cells_lt W5) (fun _ _ => .inl fsame)).mono ?_
  rintro e W6 ⟨nr, nn, nk, rfl, _, _, _, _, _, hb⟩
  have HB6 := Lib.hid (HB5.out.trans (hb.mono HB5.out.size))
  have HE6 := Lib.hid (HE5.out.mono (sees_bel hb))
  have HS6 := Lib.hid (HS5.out.bel hb)
  clear hb HB5 HE5 HS5
  go_wp2_with fail
  go_loopw [9] (fun i wr => ∃ r : Nat, r ≤ 2 ∧ i = .int .i64 r ∧ Hid (Below W6.heap.size W6 wr)) (fun i _ => 2 - (intOf i).toNat)
  case atStart => exact ⟨0, by omega, rfl, Lib.hid (Below.refl _ _)⟩
  case round =>
    obtain ⟨r, hr, rfl, HI⟩ := hrel
    obtain ⟨wo, rfl⟩ : ∃ wo, wo = wr := ⟨_, rfl⟩
    by_cases hlt : r < 2
    · have HEW := Lib.hid (HE6.out.mono (sees_bel HI.out))
      have hlt2 : (r : Int) < 2 := by omega
      go_wp2_with fail
      refine (access_visible_any _ es HEW.out HTY.out (by omega) pa pb wo (fun a u h => h) (cells_lt wo)).mono ?_
      rintro e w5 ⟨vv, zs, L2, rfl, hL, hzs, hzr, hzok, hb⟩
      obtain ⟨za, zc, zb, zo, rfl, hzm, hza, hze⟩ := (hzr.es (fun y hy => (hzok y hy).mono (memFr_sees _ _))).open_
      obtain ⟨F, hF⟩ : ∃ F : Nat → Prop, F = fun b => b < wo.heap.size ∨ (Value.slice za zs.length zc).ownBlock = some b := ⟨_, rfl⟩
      rw [← hF] at hzok
      have HF1 : Hid (∀ b, ¬ F b → wo.heap.size ≤ b) := Lib.hid (fun b h => by rw [hF] at h; exact Nat.le_of_not_lt (fun g => h (.inl g)))
      have HF2 : Hid (0 < zs.length → F zb) := Lib.hid (fun h => by rw [hF, hza h]; exact .inr rfl)
      have HB7 := Lib.hid hb
      have HZA := Lib.hid hza
      have HZE := Lib.hid hze
      have HZO : Hid (∀ k (h : k < zs.length), zs[k].ok (memFr w5 F)) := Lib.hid (fun k h => hzok _ (List.getElem_mem h))
      unfold maxLen at hzm
      have hzl : (zs.length : Int) ≤ 9223372036854775807 := by omega
      clear hL hzs hzr hzok hb hza hze hF hzm HEW
      go_wp2_with fail
      go_loopw [11] (fun i wr => ∃ k : Nat, k ≤ zs.length ∧ i = .int .i64 k ∧ Hid (Chgd F w5 wr)) (fun i _ => zs.length - (intOf i).toNat)
      case atStart => exact ⟨0, Nat.zero_le _, rfl, Lib.hid (Chgd.start _ _)⟩
      case round =>
        obtain ⟨k, hk, rfl, HC⟩ := hrel
        obtain ⟨wp, rfl⟩ : ∃ wp, wp = wr := ⟨_, rfl⟩
        by_cases hkl : k < zs.length
        · obtain rfl := HZA.out (by omega)
          have HAT := Lib.hid (HZE.out k hkl).2
          have HFZ := Lib.hid (HF2.out (by omega))
          have hok := HZO.out k hkl
          generalize zs[k] = x at *
          obtain ⟨tb, tq, ⟨_, ta2, tc2, hte, htl, htm, hta⟩, hts, htt⟩ := hok.parts.1
          injection hte with te1 te2 te3
          subst te1 te3
          obtain ⟨ba2, bc2, bb, bo, hbe, hbl, hbm, hba, hbt⟩ := hok.parts.2.1.open_
          injection hbe with be1 be2 be3
          subst be1 be3
          have HTA := Lib.hid hta
          have HTT := Lib.hid htt
          have HBA := Lib.hid hba
          have HBT := Lib.hid hbt
          unfold maxLen at htm hbm
          have htl2 : (x.f.topics.length : Int) ≤ 9223372036854775807 := by omega
          have hbl2 : (x.f.blocks.length : Int) ≤ 9223372036854775807 := by omega
          clear hok hta htt hba hbt te2 be2 hts htl htm hbl hbm
          go_wp2_with fail
          go_loopw [12] (fun i wr => ∃ j : Nat, j ≤ x.f.topics.length ∧ i = .int .i64 j ∧ Hid (Chgd F w5 wr)) (fun i _ => x.f.topics.length - (intOf i).toNat)
          case atStart => exact ⟨0, Nat.zero_le _, rfl, HC⟩
          case round =>
            obtain ⟨j, hj, rfl, HD⟩ := hrel
            obtain ⟨wq, rfl⟩ : ∃ wq, wq = wr := ⟨_, rfl⟩
            have d9 : wq.cell? ⟨zb, zo + k * 23 + 9, none⟩ = some (.slice x.ta x.f.topics.length x.tc) := HD.out.row HAT.out HFZ.out 9 _ rfl
            by_cases hjl : j < x.f.topics.length
            · rw [HTA.out (by omega)] at d9
              have hm := HTT.out j hjl
              have HM := Lib.hid hm
              obtain ⟨⟨s1, g1⟩, g2⟩ := HD.out.str _ _ hm
              generalize x.f.topics[j] = sj at *
              clear hm
              go_wp2_with fail
              go_roundw
              case rel => exact ⟨j + 1, by omega, by go_num, Lib.hid (HD.out.set HM.out _)⟩
              case measure => simp [intOf]; omega
            · clear hj
              have d10 : wq.cell? ⟨zb, zo + k * 23 + 10, none⟩ = some (.slice x.ba x.f.blocks.length x.bc) := HD.out.row HAT.out HFZ.out 10 _ rfl
              go_wp2_with fail
              clear d9 d10 hjl
              go_loopw [13] (fun i wr => ∃ j : Nat, j ≤ x.f.blocks.length ∧ i = .int .i64 j ∧ Hid (Chgd F w5 wr)) (fun i _ => x.f.blocks.length - (intOf i).toNat)
              case atStart => exact ⟨0, Nat.zero_le _, rfl, HD⟩
              case round =>
                obtain ⟨i, hi, rfl, HG⟩ := hrel
                obtain ⟨wu, rfl⟩ : ∃ wu, wu = wr := ⟨_, rfl⟩
                have d10 : wu.cell? ⟨zb, zo + k * 23 + 10, none⟩ = some (.slice x.ba x.f.blocks.length x.bc) := HG.out.row HAT.out HFZ.out 10 _ rfl
                by_cases hil : i < x.f.blocks.length
                · rw [HBA.out (by omega)] at d10
                  obtain ⟨⟨_, _, hm, _⟩, _⟩ := HBT.out i hil
                  have HM := Lib.hid hm
                  obtain ⟨⟨s1, g1⟩, g2⟩ := HG.out.str _ _ hm
                  generalize x.f.blocks[i].text = sj at *
                  clear hm
                  go_wp2_with fail
                  go_roundw
                  case rel => exact ⟨i + 1, by omega, by go_num, Lib.hid (HG.out.set HM.out _)⟩
                  case measure => simp [intOf]; omega
                · go_wp2_with fail
                  go_roundw
                  case rel => exact ⟨k + 1, by omega, by go_num, HG⟩
                  case measure => simp [intOf]; omega
        · have HE : Hid (Below W6.heap.size W6 wp) := Lib.hid (HI.out.trans ((HB7.out.trans (HC.out.upd.below (fun b h => HF1.out b h) HB7.out.size)).mono HI.out.size))
          go_wp2_with fail
          go_roundw
          case rel => exact ⟨r + 1, by omega, by go_num, HE⟩
          case measure => simp [intOf]; omega
    · have hlt2 : ¬ (r : Int) < 2 := by omega
      have HBW := Lib.hid (HB6.out.trans (HI.out.mono HB6.out.size))
      have HEW := Lib.hid (HE6.out.mono (sees_bel HI.out))
      have HSW := Lib.hid (HS6.out.bel HI.out)
      go_wp2_with fail
      refine (log_any _ xs HX.out wo HSW.out).mono ?_
      rintro e w5 ⟨lv, es2, rfl, hys2, hI2⟩
      have HQ : Hid (es.map FctE.f = es2.map FctE.f) := Lib.hid (by rw [HYS.out, hys2])
      obtain ⟨l1, l2, rfl⟩ := hI2.row.shape
      have HE2 := Lib.hid hI2.es
      have HE1 := Lib.hid (HEW.out.mono (sees_bel hI2.bel))
      have HB7 := Lib.hid (HBW.out.trans (hI2.bel.mono HBW.out.size))
      clear hI2 hys2 HBW HEW
      go_wp2_with fail
      refine (rsameList_any _ _ es es2 HE1.out HE2.out HQ.out w5 (fun a u h => h)).mono ?_
      rintro e w6 ⟨rfl, hb⟩
      have HB8 := Lib.hid (HB7.out.trans (hb.mono HB7.out.size))
      clear hb
      go_wp2_with fail
      go_ret
      exact ⟨rfl, HB8.out⟩
end Go.Proofs.YtgbihmafmmeicaaGreatDoor
/-
  WHAT IS PROVED HERE: AccessMemory returns true and leaves its arguments as they were, for all arguments. Conditions: those of the card (the listed tables of Go's library lie as their text lays them).
-/
namespace Go.Proofs.YtgbihmafmmeicaaGreatDoor.fnAMem
open Go.ChangeShapes Go.WideShapes Go.ChangeAt Go.RowKit Go.ChangeMaps Mg

set_option maxRecDepth 100000 in
theorem contract (H : Type) (enc : TypeId × Value → H) (W : World) (base : Nat) (args : Array Value) (ds gs : List (DataW H)) (before : List MemPlace)
    (hval : ∀ (j : Nat) t v, Tryz.f9.params[j]? = some t → args[j]? = some v → Value.okWide Tryz.prog W .any base t v)
    (hW : DataW.Whole enc Tryz.prog Tryz.f9.params.toList Rows.accessMemorySpec.vars false W args.toList ds gs before) :
    Calls Tryz.prog 9 args W fun e W' => ∃ v, e = .returned v ∧ Rows.accessMemorySpec.post enc Tryz.prog Tryz.f9 false true false false W args v W' := by
  have hread : ∀ t ∈ Tryz.f9.params.toList, Tryz.prog.readableRec t = true ∧ t < Tryz.prog.types.size := by
    have hall : (Tryz.f9.params.toList.all fun t => Tryz.prog.readableRec t && decide (t < Tryz.prog.types.size)) = true := by kernel_rfl
    intro t ht
    have := List.all_eq_true.1 hall t ht
    simpa using this
  have hclose : ∀ W', Below W.heap.size W W' → (Rows.accessMemorySpec.fn H ds).results = [.lit (.bool true)] ∧ (Rows.accessMemorySpec.fn H ds).args = ds ∧ (Rows.accessMemorySpec.fn H ds).vars = [] → Rows.accessMemorySpec.post enc Tryz.prog Tryz.f9 false true false false W args (.bool true) W' :=
    fun W' hg hs => close_law hW rfl (by kernel_rfl) hs hread hg
  obtain ⟨p, q, hA0, hV, rfl, hfz, hnd⟩ := hW
  have hA : DataW.TrodAll enc Tryz.prog W 0 (fun _ => true) true Tryz.f9.params.toList args.toList ds p := hA0
  obtain ⟨rfl, rfl⟩ := trodVars_none hV
  rw [Tryz.params9] at hA hval
  clear hA0 hread hfz hnd hV
  obtain ⟨v0, vs0, d0, ds0, p0, q0, hargs, rfl, rfl, h0, r0⟩ := trodAll_cons hA
  obtain ⟨v1, vs1, d1, ds1, p1, q1, rfl, rfl, rfl, h1, r1⟩ := trodAll_cons r0
  obtain ⟨rfl, rfl, rfl⟩ := trodAll_nil r1
  obtain rfl : args = #[v0, v1] := by cases args; simp_all
  obtain ⟨l0, b0⟩ := sixes_in (hval 0 22 v0 rfl rfl) h0
  obtain ⟨x1, y1, rfl, ka1, kb1⟩ := pair_in (hval 1 23 v1 rfl rfl) h1
  refine (law_memory b0 ka1 kb1 W (Sees.self W)).mono fun e W' ⟨he, hg⟩ => ?_
  exact ⟨_, he, hclose W' hg ⟨rfl, rfl, rfl⟩⟩

theorem laid_met (os : Os) : laidMet Tryz.prog Rows.accessMemoryRow.laid ((laidWorld os).forCall (fun _ _ => 0) ⟨#[], #[.slice none 0 0, .agg #[.int .i64 0, .int .i64 0]], []⟩).memory :=
  laidMet_of_run' 8 (by kernel_rfl) (by kernel_rfl)
theorem reads (os : Os) {H : Type} (enc : TypeId × Value → H) : ∃ places, DataW.whole enc Tryz.prog ((laidWorld os).forCall (fun _ _ => 0) ⟨#[], #[.slice none 0 0, .agg #[.int .i64 0, .int .i64 0]], []⟩).memory Tryz.f9.params.toList Rows.accessMemorySpec.vars false (#[Value.slice none 0 0, .agg #[.int .i64 0, .int .i64 0]] : Array Value).toList 8 = some ([.nil, .agg [.lit (.int .i64 0), .lit (.int .i64 0)]], [], places) :=
  ⟨[], by kernel_rfl⟩

set_option maxRecDepth 100000 in
theorem lifted (os : Os) (started : os.Started) (H : Type) (enc : TypeId × Value → H) (F : Stop.Interp) :
    ReturnsInHanded {} Tryz.checked os 9 .any ((OpenSpec.ofChange Rows.accessMemorySpec).preRow enc Tryz.prog Tryz.f9 Rows.accessMemoryRow.domain false Rows.accessMemoryRow.laid) (((OpenSpec.ofChange Rows.accessMemorySpec).at F).post enc Tryz.prog Tryz.f9 false true false false) := by
  obtain ⟨places, hx⟩ := reads os enc
  refine returnsInHanded_of_row (C := Tryz.checked) (s := OpenSpec.ofChange Rows.accessMemorySpec) own started (by kernel_rfl) Tryz.func9
    (witness_row_at (enc := enc) (C := Tryz.checked) false (laidWorld os) #[.slice none 0 0, .agg #[.int .i64 0, .int .i64 0]] rfl (by kernel_rfl) (by kernel_rfl) (by kernel_rfl)
      (OpenSpec.preRow_of_cond 8 hx (by kernel_rfl) (fun k hk => by cases hk) (by kernel_rfl) (laid_met os))) ?_
  intro W base args ds gs before hval hW _ _ _ _ _ _
  exact contract H enc W base args ds gs before hval hW

theorem said : Rows.AccessMemorySaid :=
  OpenClaim.holds_of_cond 9 Tryz.f9 rfl rfl rfl rfl rfl rfl rfl ⟨rfl, rfl, rfl, rfl, rfl⟩ rfl rfl rfl rfl rfl (by kernel_rfl) Tryz.func9 (by kernel_rfl)
    (of_decide_eq_true (by kernel_rfl)) (by unfold Func.isWrapper; first | (rw [if_pos (by decide +kernel)]; kernel_rfl) | (rw [if_neg (by decide +kernel)]; exact ⟨rfl, rfl⟩))
    (fun os started H enc _ F => by rw [OpenClaim.pre_eq_preRow]; exact lifted os started H enc F)

/-- No parameter wants a stand-in; the program's own looks are off: what both cards ask. -/
theorem plain (f : FuncId) (fn : Func) (hf : Tryz.pinned.checked.prog.funcNamed "copydesk/copydesklaw06.AccessMemory" = some f) (hfn : Tryz.pinned.checked.prog.funcs[f]? = some fn) :
    false = Tryz.pinned.checked.prog.looks [] ∧ ∀ (j : Nat) t, fn.params[j]? = some t → Tryz.pinned.checked.prog.wantsStandIn t = false := by
  obtain rfl : f = 9 := Option.some.inj ((show Tryz.prog.funcNamed "copydesk/copydesklaw06.AccessMemory" = some 9 by kernel_rfl).symm.trans hf) |>.symm
  obtain rfl : fn = Tryz.f9 := (Option.some.inj (Tryz.func9.symm.trans hfn)).symm
  refine ⟨by kernel_rfl, fun j t ht => ?_⟩
  have hall : Tryz.f9.params.all (fun t => !Tryz.prog.wantsStandIn t) = true := by kernel_rfl
  have := Array.all_eq_true'.1 hall t (Array.mem_of_getElem? ht)
  exact (by simpa using this : Tryz.prog.wantsStandIn t = false)

/-- ████ THE CARD ████ -/
theorem card : Rows.AccessMemoryCardSaid :=
  Claim7.holds_tied_plain_at .later [] _ _ _ _ said (fun _ h => by cases h) (by kernel_rfl) (fun _ h => by cases h) accessMemory_row_tie rfl ⟨rfl, rfl⟩ (by kernel_rfl) rfl plain (by kernel_rfl)
end Go.Proofs.YtgbihmafmmeicaaGreatDoor.fnAMem

/-
  WHAT IS PROVED HERE: rows of bytes that a call itself has made: what append of a byte and of a string gives, and the string that is made of such a row. Conditions: sizes up to 2^46.
-/
import Derived.Test.YtlkaikopjjmneaaDoorStr
import Derived.Maps.AppendAt
import Derived.RangeFuncBox
namespace Go.Proofs.YtlkaikopjjmneaaDoor
open Go.RowKit

def byteV (c : UInt8) : Value := .int .u8 c.toNat
/-- v is a slice of bytes that holds l, nil or in a block of its own from B on -/
def Row (w : World) (B : Nat) (v : Value) (l : List UInt8) : Prop := w.ownsRow B 5 1 v l.length (l.map byteV)

theorem info5 : (Tryd.prog.info? 5).map (fun i => (i.zero, i.size, i.bytes)) = some (some (.int .u8 0), 1, 1) := by kernel_rfl

theorem Row.nil (w : World) (B : Nat) : Row w B (.slice none 0 0) [] := World.ownsRow_nil _ _ _ _
theorem Row.alloc {w : World} {B : Nat} {v : Value} {l : List UInt8} (h : Row w B v l) (o : Obj) : Row (w.alloc o) B v l := World.ownsRow.alloc h o
theorem Row.kept {w w' : World} {B : Nat} {v : Value} {l : List UInt8} {F : Nat → Prop} (h : Row w B v l) (hu : Upd F w w') (hn : ∀ k, v.ownBlock = some k → ¬ F k) : Row w' B v l := by
  refine ⟨h.1, ?_⟩
  rcases h.2 with hn | ⟨g, cap, cur, rfl, hb, hgg, rest⟩
  · exact .inl hn
  · exact .inr ⟨g, cap, cur, rfl, hb, (hu.block g (Array.getElem?_eq_some_iff.1 hgg).1 (hn g rfl)).trans hgg, rest⟩
theorem Row.below {w w' : World} {B : Nat} {v : Value} {l : List UInt8} (h : Row w B v l) (hu : Below w.heap.size w w') : Row w' B v l :=
  Row.kept (F := fun _ => False) h ⟨hu.os, hu.tape, hu.output, hu.size, fun k hk _ => hu.block k hk⟩ (fun _ _ h => h)
theorem Row.ge {w : World} {B : Nat} {v : Value} {l : List UInt8} (h : Row w B v l) : ∀ k, v.ownBlock = some k → B ≤ k := fun k hk => (World.ownsRow.lt h k hk).1
theorem Row.lt {w : World} {B : Nat} {v : Value} {l : List UInt8} (h : Row w B v l) : ∀ k, v.ownBlock = some k → k < w.heap.size := fun k hk => (World.ownsRow.lt h k hk).2
theorem Row.shape {w : World} {B : Nat} {v : Value} {l : List UInt8} (h : Row w B v l) : ∃ a cap, v = .slice a l.length cap := by
  rcases h.2 with ⟨h1, h2⟩ | ⟨g, cap, cur, h1, _⟩
  · exact ⟨none, 0, by rw [h1, h2]⟩
  · exact ⟨_, cap, h1⟩
theorem Row.cons {w : World} {B : Nat} {v : Value} {l : List UInt8} (h : Row w B v l) (hl : l ≠ []) : ∃ g cap, v = .slice (some ⟨g, 0, none⟩) l.length cap ∧ B ≤ g ∧ ∀ j (hj : j < l.length), w.cell? ⟨g, j, none⟩ = some (byteV l[j]) := by
  rcases h.2 with ⟨h1, h2⟩ | ⟨g, cap, cur, h1, hb, hh, _, _, _, ht⟩
  · exact absurd (List.length_eq_zero_iff.1 h2) hl
  · refine ⟨g, cap, h1, hb, fun j hj => ?_⟩
    have := World.ownsRow.cells h (g := g) (by rw [h1]; rfl) j (byteV l[j]) (by simp [hj])
    rwa [Addr.add_lit, Nat.zero_add] at this

section
variable {ops : Array Oper} {rest : List Oper} {o : Oper} {a : Act} {w : World} {Q : Exit → Act → World → Prop}
/-- append(b, c) -/
theorem wpList_app1 (hgd : o.guard = none) (s x : Operand) (ho : o.op = .call { callee := .builtin .append, args := #[s, x], argTypes := #[75, 75] })
    (B : Nat) (v : Value) (l : List UInt8) (hs : a.eval s = v) (hown : Row w B v l) (c : UInt8) (g cap : Nat) (hx : a.eval x = .slice (some ⟨g, 0, none⟩) 1 cap) (hc : w.cell? ⟨g, 0, none⟩ = some (byteV c))
    (hlen : l.length ≤ 70368744177664) (hB : B ≤ w.heap.size)
    (h : ∀ v' w', Row w' B v' (l ++ [c]) → w.grownBy w' v.ownBlock → wpList Tryd.prog ops Q rest (a.put o.dst v') w') : wpList Tryd.prog ops Q (o :: rest) a w := by
  obtain ⟨i0, hi, hz0, hz1, hz2⟩ := info_parts info5
  refine wpList_append_own w hgd s x 75 ho B 5 i0 (.int .u8 0) 1 1 Tryd.underlying75 hi hz0 hz1 hz2 rfl (by decide) v l.length (l.map byteV) hs hown ⟨g, 0, none⟩ 1 cap [byteV c] hx rfl
    (fun j u hj => by
      match j, hj with
      | 0, hj => simp at hj; subst hj; simpa [Addr.add] using hc)
    (by simp [byteV, Value.oneCell']) (by unfold maxLen; omega) (by omega) hB ?_
  intro v' w' h1 h2 _
  exact h v' w' (by unfold Row; simpa using h1) h2
/-- append(b, s...) of a string -/
theorem wpList_appS (hgd : o.guard = none) (s x : Operand) (ho : o.op = .call { callee := .builtin .append, args := #[s, x], argTypes := #[75, 9] })
    (B : Nat) (v : Value) (l : List UInt8) (hs : a.eval s = v) (hown : Row w B v l) (t : ByteArray) (hx : a.eval x = .string t)
    (hlen : l.length + t.size ≤ 70368744177664) (hB : B ≤ w.heap.size)
    (h : ∀ v' w', Row w' B v' (l ++ t.data.toList) → w.grownBy w' v.ownBlock → wpList Tryd.prog ops Q rest (a.put o.dst v') w') : wpList Tryd.prog ops Q (o :: rest) a w := by
  obtain ⟨i0, hi, hz0, hz1, hz2⟩ := info_parts info5
  refine Lib.wpList_append_own_string w hgd s x 75 9 ho B 5 i0 Tryd.underlying75 Tryd.underlying9 hi hz0 hz1 hz2 v l.length (l.map byteV) hs hown t hx (by unfold maxLen; omega) (by omega) hB ?_
  intro v' w' h1 h2 _
  refine h v' w' ?_ h2
  unfold Row
  rw [List.length_append, size_list, List.map_append]
  exact h1
end

/-- string(b) -/
theorem conv_row {w : World} {B : Nat} {v : Value} {l : List UInt8} (h : Row w B v l) : (convert 75 9 v).run Tryd.prog w = .ok (.string (bs l)) w := by
  by_cases hl : l = []
  · subst hl
    rcases h.2 with ⟨h1, h2⟩ | ⟨g, cap, cur, h1, _⟩
    · rw [h1]
      exact run_convert_bytes_string w 75 9 5 none 0 0 Tryd.underlying75 Tryd.underlying5 Tryd.underlying9
    · rw [h1]
      exact run_convert_bytes_back w 75 9 5 ⟨g, 0, none⟩ cap [] Tryd.underlying75 Tryd.underlying5 Tryd.underlying9 (fun j hj => by simp at hj)
  · obtain ⟨g, cap, h1, hb, hc⟩ := h.cons hl
    rw [h1]
    exact run_convert_bytes_back w 75 9 5 ⟨g, 0, none⟩ cap l Tryd.underlying75 Tryd.underlying5 Tryd.underlying9 (fun j hj => by
      rw [Addr.add_lit, Nat.zero_add, hc j hj]; rfl)
end Go.Proofs.YtlkaikopjjmneaaDoor

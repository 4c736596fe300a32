/-
  WHAT IS PROVED HERE: how nodes of templates lie in memory that is only read, and what an evaluation keeps. No condition.
-/
import Derived.Test.YtlkaikopjjmneaaDoorSpec
namespace Go.Proofs.YtlkaikopjjmneaaDoor
open Go.RowKit

def big : Nat := 1099511627776
def StrsAt (mem : Addr → Option Value) : List ByteArray → Nat → Nat → Prop
  | [], _, _ => True
  | s :: r, b, o => (mem ⟨b, o, none⟩ = some (.string s) ∧ s.size ≤ big) ∧ StrsAt mem r b (o + 1)
/-- v is a slice of n elements, at block b from cell o on where there is one -/
def SliceOf (v : Value) (n b o : Nat) : Prop := n ≤ big ∧ ∃ ao cap, v = .slice ao n cap ∧ n ≤ cap ∧ (0 < n → ao = some ⟨b, o, none⟩)
mutual
def NodeAt (mem : Addr → Option Value) : Node → Nat → Nat → Prop
  | .mk kind text name arg count filters kids els, b, o =>
    (mem ⟨b, o, none⟩ = some (.int .i64 kind) ∧ mem ⟨b, o + 1, none⟩ = some (.string text) ∧ mem ⟨b, o + 2, none⟩ = some (.string name) ∧
      mem ⟨b, o + 3, none⟩ = some (.string arg) ∧ mem ⟨b, o + 4, none⟩ = some (.int .i64 count)) ∧
    (text.size ≤ big ∧ name.size ≤ big ∧ arg.size ≤ big ∧ filters.length ≤ 2097152) ∧
    (∃ v b' o', mem ⟨b, o + 5, none⟩ = some v ∧ SliceOf v filters.length b' o' ∧ StrsAt mem filters b' o') ∧
    (∃ v b' o', mem ⟨b, o + 6, none⟩ = some v ∧ SliceOf v kids.length b' o' ∧ NodesAt mem kids b' o') ∧
    (∃ v b' o', mem ⟨b, o + 7, none⟩ = some v ∧ SliceOf v els.length b' o' ∧ NodesAt mem els b' o')
def NodesAt (mem : Addr → Option Value) : List Node → Nat → Nat → Prop
  | [], _, _ => True
  | n :: r, b, o => NodeAt mem n b o ∧ NodesAt mem r b (o + 8)
end
theorem NodesAt.get {mem : Addr → Option Value} : ∀ {l : List Node} {b o : Nat}, NodesAt mem l b o → ∀ i (h : i < l.length), NodeAt mem l[i] b (o + i * 8)
  | n :: r, b, o, hl, 0, _ => by unfold NodesAt at hl; rw [Nat.zero_mul]; exact hl.1
  | n :: r, b, o, hl, i + 1, h => by
    unfold NodesAt at hl
    have := NodesAt.get hl.2 i (by simpa using h)
    rwa [show o + 8 + i * 8 = o + (i + 1) * 8 by omega] at this
theorem StrsAt.get {mem : Addr → Option Value} : ∀ {l : List ByteArray} {b o : Nat}, StrsAt mem l b o → ∀ i (h : i < l.length), mem ⟨b, o + i, none⟩ = some (.string l[i]) ∧ l[i].size ≤ big
  | n :: r, b, o, hl, 0, _ => by unfold StrsAt at hl; exact hl.1
  | n :: r, b, o, hl, i + 1, h => by
    unfold StrsAt at hl
    have := StrsAt.get hl.2 i (by simpa using h)
    rwa [show o + 1 + i = o + (i + 1) by omega] at this

/-- memory that is only read, as a world shows it -/
def Sees (mem : Addr → Option Value) (w : World) : Prop := ∀ a v, mem a = some v → w.cell? a = some v

/-- the map of the kinds -/
def kindsObj : Obj → Prop := fun o => ∃ es c, o = .map es c ∧ ∀ n : Int, findNowKinds es n
where findNowKinds (es : Array MapEntry) (n : Int) : Prop :=
  Instr.findNow (.int .i64) (.int .i64 n) es.toList 0 = some (
    if n = 1 then some (0, .func (.func 44) #[] #[]) else if n = 2 then some (1, .func (.func 45) #[] #[]) else if n = 3 then some (2, .func (.func 46) #[] #[])
    else if n = 4 then some (3, .func (.func 47) #[] #[]) else if n = 5 then some (4, .func (.func 48) #[] #[]) else none)
end Go.Proofs.YtlkaikopjjmneaaDoor

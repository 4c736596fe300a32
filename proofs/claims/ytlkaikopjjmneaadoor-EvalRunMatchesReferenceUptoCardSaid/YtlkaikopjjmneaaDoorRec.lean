/-
  WHAT IS PROVED HERE: the recording source of the statements: what it answers, how it lies in memory, and that its three methods do so. Conditions: the sizes that it keeps.
-/
import Derived.Test.YtlkaikopjjmneaaDoorRun7
namespace Go.Proofs.YtlkaikopjjmneaaDoor
open Go.RowKit

/-- the answers of a source -/
structure Dat where
  fields : List (Int × ByteArray × ByteArray)
  lists : List (Int × ByteArray × ByteArray × List Int)
  snips : List (ByteArray × List Node)
/-- a recorded call -/
structure ACall where
  meth : Int
  id : Int
  name : ByteArray
  arg : ByteArray
  n : Int
  text : ByteArray
  ids : List Int
  nodes : List Node
  ok : Bool

def fieldA (d : Dat) (id : Int) (name : ByteArray) : Option ByteArray := ((d.fields.take 40).find? fun f => decide (f.1 = id) && decide (f.2.1 = name)).map fun f => f.2.2.extract 0 (min f.2.2.size 500)
def listA (d : Dat) (id : Int) (name arg : ByteArray) (n : Int) : List Int := (((d.lists.take 40).find? fun f => decide (f.1 = id) && decide (f.2.1 = name) && decide (f.2.2.1 = arg)).map fun f => (f.2.2.2.take 10).take n.toNat).getD []
def inclA (d : Dat) (name : ByteArray) : Option (List Node) := ((d.snips.take 20).find? fun f => decide (f.1 = name)).map (·.2)
def recOps (d : Dat) : Ops (List ACall) where
  field s id name := (((fieldA d id name).getD ⟨#[]⟩, (fieldA d id name).isSome), s ++ [{ meth := 1, id := id, name := name, arg := ⟨#[]⟩, n := 0, text := (fieldA d id name).getD ⟨#[]⟩, ids := [], nodes := [], ok := (fieldA d id name).isSome }])
  list s id name arg n := (listA d id name arg n, s ++ [{ meth := 2, id := id, name := name, arg := arg, n := n, text := ⟨#[]⟩, ids := listA d id name arg n, nodes := [], ok := false }])
  incl s name := (((inclA d name).getD [], (inclA d name).isSome), s ++ [{ meth := 3, id := 0, name := name, arg := ⟨#[]⟩, n := 0, text := ⟨#[]⟩, ids := [], nodes := (inclA d name).getD [], ok := (inclA d name).isSome }])

/-- how the answers lie in memory that is only read -/
def FieldsAt (mem : Addr → Option Value) : List (Int × ByteArray × ByteArray) → Nat → Nat → Prop
  | [], _, _ => True
  | f :: r, b, o => (mem ⟨b, o, none⟩ = some (.int .i64 f.1) ∧ mem ⟨b, o + 1, none⟩ = some (.string f.2.1) ∧ mem ⟨b, o + 2, none⟩ = some (.string f.2.2) ∧ f.2.2.size ≤ big) ∧ FieldsAt mem r b (o + 3)
def IntsM (mem : Addr → Option Value) (v : Value) (l : List Int) : Prop := ∃ b o, SliceOf v l.length b o ∧ ∀ j (h : j < l.length), mem ⟨b, o + j, none⟩ = some (.int .i64 l[j])
def ListsAt (mem : Addr → Option Value) : List (Int × ByteArray × ByteArray × List Int) → Nat → Nat → Prop
  | [], _, _ => True
  | f :: r, b, o => (mem ⟨b, o, none⟩ = some (.int .i64 f.1) ∧ mem ⟨b, o + 1, none⟩ = some (.string f.2.1) ∧ mem ⟨b, o + 2, none⟩ = some (.string f.2.2.1) ∧ ∃ v, mem ⟨b, o + 3, none⟩ = some v ∧ IntsM mem v f.2.2.2) ∧ ListsAt mem r b (o + 4)
def SnipsAt (mem : Addr → Option Value) : List (ByteArray × List Node) → Nat → Nat → Prop
  | [], _, _ => True
  | f :: r, b, o => (mem ⟨b, o, none⟩ = some (.string f.1) ∧ ∃ v b' o', mem ⟨b, o + 1, none⟩ = some v ∧ SliceOf v f.2.length b' o' ∧ NodesAt mem f.2 b' o') ∧ SnipsAt mem r b (o + 2)
structure DatAt (mem : Addr → Option Value) (d : Dat) (dF dL dS : Value) : Prop where
  f : ∃ b o, SliceOf dF d.fields.length b o ∧ FieldsAt mem d.fields b o
  l : ∃ b o, SliceOf dL d.lists.length b o ∧ ListsAt mem d.lists b o
  s : ∃ b o, SliceOf dS d.snips.length b o ∧ SnipsAt mem d.snips b o

/-- a recorded call as it lies in memory -/
structure RCall where
  a : ACall
  idsV : Value
  nodesV : Value
def RCall.cells (c : RCall) : List Value := [.int .i64 c.a.meth, .int .i64 c.a.id, .string c.a.name, .string c.a.arg, .int .i64 c.a.n, .string c.a.text, c.idsV, c.nodesV, .bool c.a.ok]
structure RecI (base : Nat) (mem : Addr → Option Value) (R : Nat) (dF dL dS : Value) (F : Nat → Prop) (w : World) (s : List ACall) : Prop where
  ex : ∃ (cv : Value) (rc : List RCall), w.heap[R]? = some (.cells #[dF, dL, dS, cv] 37 (0, 0)) ∧ w.ownsRow base 41 9 cv rc.length (rc.flatMap RCall.cells) ∧ rc.map RCall.a = s ∧
    (∀ c ∈ rc, IntsAt w c.idsV c.a.ids ∧ (∀ k, c.idsV.ownBlock = some k → base ≤ k ∧ k < w.heap.size ∧ cv.ownBlock ≠ some k) ∧ ∃ b o, SliceOf c.nodesV c.a.nodes.length b o ∧ NodesAt mem c.a.nodes b o) ∧
    ∀ k, F k ↔ (k = R ∨ cv.ownBlock = some k ∨ ∃ c ∈ rc, c.idsV.ownBlock = some k)
  lt : R < base ∧ base ≤ w.heap.size
  sees : Sees mem w
  memR : ∀ a v, mem a = some v → a.block < base ∧ a.block ≠ R
end Go.Proofs.YtlkaikopjjmneaaDoor

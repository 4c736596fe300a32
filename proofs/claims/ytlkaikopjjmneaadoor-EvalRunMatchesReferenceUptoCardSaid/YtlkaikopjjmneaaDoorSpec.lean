/-
  WHAT IS PROVED HERE: a plain function that evaluates templates (what eval.Run computes), over any source of data. No program, no condition.
-/
import Derived.Test.YtlkaikopjjmneaaDoorFlt
namespace Go.Proofs.YtlkaikopjjmneaaDoor
open Go.RowKit

/-- a node of a template -/
inductive Node where
  | mk (kind : Int) (text name arg : ByteArray) (count : Int) (filters : List ByteArray) (kids els : List Node)

/-- what a source answers -/
structure Ops (S : Type) where
  field : S → Int → ByteArray → (ByteArray × Bool) × S
  list : S → Int → ByteArray → ByteArray → Int → List Int × S
  incl : S → ByteArray → (List Node × Bool) × S

structure St (S : Type) where
  out : List UInt8
  steps : Nat
  src : S

def runFilters : List ByteArray → ByteArray → Option ByteArray
  | [], s => some s
  | f :: r, s => match filterF f s with
    | some t => runFilters r (bs t)
    | none => none

section
variable {S : Type} (ops : Ops S)
/-- (0, state): it went on; (code, state): it ended with that error -/
def putF (s : List UInt8) (st : St S) : Int × St S := if 8192 < st.out.length + s.length then (111, st) else (0, { st with out := st.out ++ s })
def seqIds (f : Int → St S → Int × St S) : List Int → St S → Int × St S
  | [], st => (0, st)
  | i :: r, st => if (f i st).1 = 0 then seqIds f r (f i st).2 else f i st
def fieldF (name : ByteArray) (filters : List ByteArray) (id : Int) (st : St S) : Int × St S :=
  let r := ops.field st.src id name
  let st1 : St S := { st with src := r.2 }
  if r.1.2 then
    match runFilters filters r.1.1 with
    | some s => putF s.data.toList st1
    | none => (110, st1)
  else (110, st1)
variable (inc : ByteArray → Int → St S → Int × St S)
mutual
def evNode : Node → Int → St S → Int × St S
  | .mk kind text name arg count filters kids els, id, st =>
    if kind = 1 then putF text.data.toList st
    else if kind = 2 then fieldF ops name filters id st
    else if kind = 3 then
      let r := ops.list st.src id name arg count
      let st1 : St S := { st with src := r.2 }
      if r.1 = [] then evList els id st1
      else if kids.isEmpty then (0, st1)
      else seqIds (fun i s => evList kids i s) r.1 st1
    else if kind = 4 then
      let r := ops.field st.src id name
      let st1 : St S := { st with src := r.2 }
      if r.1.2 && !r.1.1.data.toList.isEmpty then evList kids id st1 else evList els id st1
    else if kind = 5 then inc name id st
    else (110, st)
def evList : List Node → Int → St S → Int × St S
  | [], _, st => (0, st)
  | n :: r, id, st =>
    if 2000 ≤ st.steps then (111, st)
    else
      let x := evNode n id { st with steps := st.steps + 1 }
      if x.1 = 0 then evList r id x.2 else x
end
end
/-- evaluation with d inclusions left -/
def evD {S : Type} (ops : Ops S) : Nat → List Node → Int → St S → Int × St S
  | 0 => evList ops fun _ _ st => (111, st)
  | d + 1 => evList ops fun name id st =>
      let r := ops.incl st.src name
      let st1 : St S := { st with src := r.2 }
      if r.1.2 then evD ops d r.1.1 id st1 else (110, st1)
def incF {S : Type} (ops : Ops S) : Nat → ByteArray → Int → St S → Int × St S
  | 0 => fun _ _ st => (111, st)
  | d + 1 => fun name id st =>
      let r := ops.incl st.src name
      let st1 : St S := { st with src := r.2 }
      if r.1.2 then evD ops d r.1.1 id st1 else (110, st1)
theorem evD_eq {S : Type} (ops : Ops S) (d : Nat) : evD ops d = evList ops (incF ops d) := by cases d <;> rfl

/-- what Run gives -/
def runF {S : Type} (ops : Ops S) (l : List Node) (src : S) (id : Int) : (List UInt8 × Int) × S :=
  let r := evD ops 3 l id { out := [], steps := 0, src := src }
  if r.1 = 0 then ((r.2.out, 0), r.2.src) else (([], r.1), r.2.src)
end Go.Proofs.YtlkaikopjjmneaaDoor

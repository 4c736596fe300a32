/-
  WHAT IS PROVED HERE: what an evaluation keeps in memory (its own struct, its output, its source), and how this is handed on. No condition.
-/
import Derived.Test.YtlkaikopjjmneaaDoorNode
namespace Go.Proofs.YtlkaikopjjmneaaDoor
open Go.RowKit

/-- what a call of a method of the source leaves: a value v with res, the source's new state, and nothing else changed -/
def SrcPost {S : Type} (I : (Nat → Prop) → World → S → Prop) (F : Nat → Prop) (w : World) (res : World → Value → Prop) (s' : S) (e : Ending) (w' : World) : Prop :=
  ∃ v F', e = .returned v ∧ res w' v ∧ I F' w' s' ∧ Upd F w w' ∧ ∀ k, F' k → F k ∨ w.heap.size ≤ k

def IntsAt (w : World) (v : Value) (l : List Int) : Prop :=
  ∃ b o, SliceOf v l.length b o ∧ ∀ j (h : j < l.length), w.cell? ⟨b, o + j, none⟩ = some (.int .i64 l[j])

structure SrcOK (fF fL fI : Nat) {S : Type} (ops : Ops S) (base : Nat) (mem : Addr → Option Value) (rv : Value) (I : (Nat → Prop) → World → S → Prop) (cnt : S → Nat) : Prop where
  lt : ∀ {F w s}, I F w s → ∀ k, F k → k < w.heap.size
  keep : ∀ {F G w w' s}, I F w s → Upd G w w' → (∀ k, G k → base ≤ k ∧ ¬ F k) → I F w' s
  field : ∀ {F w s} (id : Int) (name : ByteArray), I F w s → base ≤ w.heap.size → cnt s ≤ 4000 → name.size ≤ big →
    Calls Tryd.prog fF #[rv, .int .i64 id, .string name] w (SrcPost I F w (fun _ v => v = .tuple #[.string (ops.field s id name).1.1, .bool (ops.field s id name).1.2]) (ops.field s id name).2)
  field_cnt : ∀ s id name, cnt (ops.field s id name).2 ≤ cnt s + 1
  field_len : ∀ s id name, (ops.field s id name).1.1.size ≤ 500
  list : ∀ {F w s} (id : Int) (name arg : ByteArray) (n : Int), I F w s → base ≤ w.heap.size → cnt s ≤ 4000 → name.size ≤ big → arg.size ≤ big →
    Calls Tryd.prog fL #[rv, .int .i64 id, .string name, .string arg, .int .i64 n] w (SrcPost I F w (fun w' v => IntsAt w' v (ops.list s id name arg n).1) (ops.list s id name arg n).2)
  list_cnt : ∀ s id name arg n, cnt (ops.list s id name arg n).2 ≤ cnt s + 1
  list_len : ∀ s id name arg n, (ops.list s id name arg n).1.length ≤ 2000
  incl : ∀ {F w s} (name : ByteArray), I F w s → base ≤ w.heap.size → cnt s ≤ 4000 → name.size ≤ big →
    Calls Tryd.prog fI #[rv, .string name] w (SrcPost I F w (fun _ v => ∃ lv b o, v = .tuple #[lv, .bool (ops.incl s name).1.2] ∧ SliceOf lv (ops.incl s name).1.1.length b o ∧ NodesAt mem (ops.incl s name).1.1 b o) (ops.incl s name).2)
  incl_cnt : ∀ s name, cnt (ops.incl s name).2 ≤ cnt s + 1

/-- where an evaluation lies -/
structure Env (S : Type) where
  base : Nat
  mem : Addr → Option Value
  sv : Value
  I : (Nat → Prop) → World → S → Prop
  cnt : S → Nat
  K : Nat
  E : Nat

/-- what changes from step to step, as it lies in memory -/
structure EvS (S : Type) where
  txt : Value
  F : Nat → Prop
  st : St S
  incl : Nat

/-- the blocks that an evaluation may write -/
def Foot {S : Type} (env : Env S) (x : EvS S) : Nat → Prop := fun k => k = env.E ∨ x.txt.ownBlock = some k ∨ x.F k

def kindsOK (w : World) (K : Nat) : Prop := ∃ es c, w.heap[K]? = some (.map es c) ∧ ∀ n : Int, kindsObj.findNowKinds es n

structure EvI {S : Type} (env : Env S) (w : World) (x : EvS S) : Prop where
  ev : w.heap[env.E]? = some (.cells #[x.txt, env.sv, .map (some env.K), .int .i64 x.st.steps, .int .i64 x.incl] 79 (0, 0))
  km : kindsOK w env.K
  row : Row w (env.E + 1) x.txt x.st.out
  src : env.I x.F w x.st.src
  sepF : ∀ k, x.txt.ownBlock = some k → ¬ x.F k
  sepE : ¬ x.F env.E ∧ ¬ x.F env.K
  ord : env.base ≤ env.K ∧ env.K < env.E
  sees : Sees env.mem w
  memF : ∀ a v, env.mem a = some v → a.block < env.base ∧ ¬ x.F a.block
  tab : Tab w
  tabF : 2 < env.base ∧ ¬ x.F 2
  out : x.st.out.length ≤ 8192
  steps : x.st.steps ≤ 2000
  inc : x.incl ≤ 3

def EvStep {S : Type} (env : Env S) (w w' : World) (x x' : EvS S) : Prop := Upd (Foot env x) w w' ∧ ∀ k, Foot env x' k → Foot env x k ∨ w.heap.size ≤ k
section
variable {S : Type} {env : Env S} {w w1 w2 : World} {x x1 x2 : EvS S}
theorem EvStep.refl (env : Env S) (w : World) (x : EvS S) : EvStep env w w x x := ⟨Upd.refl _ _, fun _ h => .inl h⟩
theorem EvStep.trans (h : EvStep env w w1 x x1) (k : EvStep env w1 w2 x1 x2) : EvStep env w w2 x x2 :=
  ⟨h.1.trans k.1 h.2, fun i hi => (k.2 i hi).elim (h.2 i) (fun hh => .inr (Nat.le_trans h.1.size hh))⟩
theorem EvI.ltE (h : EvI env w x) : env.E < w.heap.size := (Array.getElem?_eq_some_iff.1 h.ev).1
theorem EvI.ltB (h : EvI env w x) : env.base ≤ w.heap.size := by have := h.ltE; have := h.ord; omega
theorem EvI.cells (h : EvI env w x) : w.cell? ⟨env.E, 0, none⟩ = some x.txt ∧ w.cell? ⟨env.E, 1, none⟩ = some env.sv ∧ w.cell? ⟨env.E, 2, none⟩ = some (.map (some env.K)) ∧
    w.cell? ⟨env.E, 3, none⟩ = some (.int .i64 x.st.steps) ∧ w.cell? ⟨env.E, 4, none⟩ = some (.int .i64 x.incl) := by
  unfold World.cell?; simp only [h.ev]; simp
theorem EvI.free (h : EvI env w x) (o : Nat) : w.frozen? ⟨env.E, o, none⟩ = false := by
  unfold World.frozen?; simp only [h.ev]; simp
theorem gPow : Tryd.prog.globalNamed "internal/strconv.uint64pow10" = some 2 := by kernel_rfl
theorem tab_upd {G : Nat → Prop} (h : Tab w) (hu : Upd G w w1) (h2 : 2 < w.heap.size) (hn : ¬ G 2) : Tab w1 := by
  unfold Tab Lib.TabIs World.var? at *
  rw [gPow] at *
  simp only [Option.bind_some] at *
  rw [hu.block 2 h2 hn]
  exact h
theorem Sees.upd {mem : Addr → Option Value} {G : Nat → Prop} (h : Sees mem w) (hu : Upd G w w1) (hn : ∀ a v, mem a = some v → ¬ G a.block) : Sees mem w1 :=
  fun a v hv => hu.cell_some (h a v hv) (hn a v hv)
/-- a step that writes none of the blocks that the evaluation owns -/
theorem EvI.keep {G : Nat → Prop} (ok : ∀ {F G w w' s}, env.I F w s → Upd G w w' → (∀ k, G k → env.base ≤ k ∧ ¬ F k) → env.I F w' s) (h : EvI env w x) (hu : Upd G w w1)
    (hG : ∀ k, G k → env.base ≤ k ∧ k ≠ env.K ∧ ¬ Foot env x k) : EvI env w1 x where
  ev := (hu.block _ h.ltE (fun g => (hG _ g).2.2 (.inl rfl))).trans h.ev
  km := by
    obtain ⟨es, c, h1, h2⟩ := h.km
    exact ⟨es, c, (hu.block _ (by have := h.ord; have := h.ltE; omega) (fun g => (hG _ g).2.1 rfl)).trans h1, h2⟩
  row := h.row.kept hu (fun k hk g => (hG _ g).2.2 (.inr (.inl hk)))
  src := ok h.src hu (fun k g => ⟨(hG k g).1, fun f => (hG k g).2.2 (.inr (.inr f))⟩)
  sepF := h.sepF
  sepE := h.sepE
  ord := h.ord
  sees := h.sees.upd hu (fun a v hv g => by have := (h.memF a v hv).1; have := (hG _ g).1; omega)
  memF := h.memF
  tab := tab_upd h.tab hu (by have := h.tabF.1; have := h.ltB; omega) (fun g => by have := (hG _ g).1; have := h.tabF.1; omega)
  tabF := h.tabF
  out := h.out
  steps := h.steps
  inc := h.inc
end
end Go.Proofs.YtlkaikopjjmneaaDoor

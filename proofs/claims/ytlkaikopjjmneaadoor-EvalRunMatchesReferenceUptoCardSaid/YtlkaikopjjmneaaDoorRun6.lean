/-
  WHAT IS PROVED HERE: the evaluation of every list of nodes; the map of the kinds; eval.Run's deferred function. Conditions: those that the evaluation keeps.
-/
import Derived.Test.YtlkaikopjjmneaaDoorRun5
namespace Go.Proofs.YtlkaikopjjmneaaDoor
open Go.RowKit
section
variable {S : Type}
theorem size_kids (n : Node) : SizeOf.sizeOf n.kids < SizeOf.sizeOf n ∧ SizeOf.sizeOf n.els < SizeOf.sizeOf n := by
  cases n
  simp only [Node.kids, Node.els, Node.mk.sizeOf_spec]
  omega
theorem lists_ok {ops : Ops S} {env : Env S} {R : Nat} (ok : SrcOK 73 72 80 ops env.base env.mem (.pointer (some ⟨R, 0, none⟩)) env.I env.cnt) (hsv : env.sv = .iface 29 (.pointer (some ⟨R, 0, none⟩))) :
    ∀ d c, c + d = 3 → ∀ l, ListOK ops env c l := by
  intro d
  induction d with
  | zero =>
    intro c hc
    have key : ∀ m l, SizeOf.sizeOf l ≤ m → ListOK ops env c l := by
      intro m
      induction m with
      | zero => intro l hl; cases l <;> simp at hl
      | succ m ih =>
        intro l hl
        refine list_any ok hsv c l (fun n hn => ?_) (fun h => by omega)
        have h1 := List.sizeOf_lt_of_mem hn
        have h2 := size_kids n
        exact ⟨ih _ (by omega), ih _ (by omega)⟩
    exact fun l => key _ l (Nat.le_refl _)
  | succ d ihd =>
    intro c hc
    have key : ∀ m l, SizeOf.sizeOf l ≤ m → ListOK ops env c l := by
      intro m
      induction m with
      | zero => intro l hl; cases l <;> simp at hl
      | succ m ih =>
        intro l hl
        refine list_any ok hsv c l (fun n hn => ?_) (fun h => ihd (c + 1) (by omega))
        have h1 := List.sizeOf_lt_of_mem hn
        have h2 := size_kids n
        exact ⟨ih _ (by omega), ih _ (by omega)⟩
    exact fun l => key _ l (Nat.le_refl _)
end
theorem ins_any (W : World) (r : Nat) (es : Array MapEntry) (c : Nat) (k : Int) (f : Nat) (hh : W.heap[r]? = some (.map es c)) (h : Instr.findNow (.int .i64) (.int .i64 k) es.toList 0 = some none) :
    (Instr.mapUpdate 73 (.map (some r)) (.int .i64 k) (.func (.func f) #[] #[])).run Tryd.prog W = .ok () { W with heap := W.heap.setIfInBounds r (.map (es.push { key := .int .i64 k, val := .func (.func f) #[] #[], born := c }) (c + 1)) } := by
  have hck : ∀ W, (Instr.checkKey false 10000 3 (.int .i64 k)).run Tryd.prog W = .ok () W := fun W => by
    unfold Instr.checkKey; simp [run_underlying Tryd.underlying3]
  have hfk : ∀ W, (Instr.findKey 3 (.int .i64 k) es.toList).run Tryd.prog W = .ok none W := fun W => by
    unfold Instr.findKey; simp [run_underlying Tryd.underlying3, h]
  have hg : ∀ k' : Obj → Sem Unit, (Sem.getObj r k').run Tryd.prog W = (k' (.map es c)).run Tryd.prog W := fun k' => by
    simp [Sem.run, hh]
  unfold Instr.mapUpdate
  simp [run_underlying Tryd.underlying73, getObj, setObj, Sem.run, hh]
  erw [hck]
  simp only [Result.andThen_ok]
  erw [hfk]
  simp [Sem.run, hh]
theorem ins_kind (w : World) (es : Array MapEntry) (c : Nat) (k : Int) (f : Nat) (h : Instr.findNow (.int .i64) (.int .i64 k) es.toList 0 = some none) :
    (Instr.mapUpdate 73 (.map (some w.heap.size)) (.int .i64 k) (.func (.func f) #[] #[])).run Tryd.prog (w.alloc (.map es c)) = .ok () (w.alloc (.map (es.push { key := .int .i64 k, val := .func (.func f) #[] #[], born := c }) (c + 1))) := by
  rw [ins_any _ _ _ _ _ _ (World.alloc_heap_new w _) h]
  simp [World.alloc, -World.alloc_eq]
  apply Array.toList_inj.1
  simp
def ent (k : Int) (f c : Nat) : MapEntry := { key := .int .i64 k, val := .func (.func f) #[] #[], born := c }
set_option maxRecDepth 100000 in
set_option maxHeartbeats 1000000 in
theorem kinds_any (w : World) : Calls Tryd.prog 25 #[] w fun e w' => e = .returned (.map (some w.heap.size)) ∧ w.alloc (.map #[ent 1 44 0, ent 2 45 1, ent 3 46 2, ent 4 47 3, ent 5 48 4] 5) = w' := by
  have hmm := @run_makeMap Tryd.prog
  have h1 := ins_kind w #[] 0 1 44 rfl
  have h2 := ins_kind w #[ent 1 44 0] 1 2 45 rfl
  have h3 := ins_kind w #[ent 1 44 0, ent 2 45 1] 2 3 46 rfl
  have h4 := ins_kind w #[ent 1 44 0, ent 2 45 1, ent 3 46 2] 3 4 47 rfl
  have h5 := ins_kind w #[ent 1 44 0, ent 2 45 1, ent 3 46 2, ent 4 47 3] 4 5 48 rfl
  unfold ent at *
  simp only [List.push_toArray, List.nil_append, List.cons_append] at h1 h2 h3 h4 h5
  go_enter Tryd.func25, Tryd.ntmps25
  go_wp2
  go_ret
  exact ⟨rfl, rfl⟩
theorem kinds_ok (w : World) : kindsOK (w.alloc (.map #[ent 1 44 0, ent 2 45 1, ent 3 46 2, ent 4 47 3, ent 5 48 4] 5)) w.heap.size := by
  refine ⟨_, _, World.alloc_heap_new w _, fun n => ?_⟩
  unfold kindsObj.findNowKinds
  simp only [ent, Instr.findNow, Instr.sameNow]
  by_cases h1 : n = 1
  · subst h1; rfl
  by_cases h2 : n = 2
  · subst h2; rfl
  by_cases h3 : n = 3
  · subst h3; rfl
  by_cases h4 : n = 4
  · subst h4; rfl
  by_cases h5 : n = 5
  · subst h5; rfl
  rw [show (n == 1) = false from by simpa using h1, show (n == 2) = false from by simpa using h2, show (n == 3) = false from by simpa using h3, show (n == 4) = false from by simpa using h4, show (n == 5) = false from by simpa using h5]
  simp [h1, h2, h3, h4, h5]
end Go.Proofs.YtlkaikopjjmneaaDoor

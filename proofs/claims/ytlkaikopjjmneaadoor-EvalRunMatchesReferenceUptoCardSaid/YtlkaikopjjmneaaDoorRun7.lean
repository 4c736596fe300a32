/-
  WHAT IS PROVED HERE: eval.Run's deferred function, in a frame that panics and in one that returns; eval.Run itself. Conditions: those that the evaluation keeps.
-/
import Derived.Test.YtlkaikopjjmneaaDoorRun6
import Derived.Recover
namespace Go.Proofs.YtlkaikopjjmneaaDoor
open Go.RowKit
theorem assert_failure (n : Int) (w : World) : (Instr.typeAssert (.iface 70 (.agg #[.int .i64 n])) 20 70 true).run Tryd.prog w = .ok (.tuple #[.agg #[.int .i64 n], .bool true]) w := by kernel_rfl
set_option maxRecDepth 100000 in
set_option maxHeartbeats 4000000 in
theorem catch_panicking (g : Nat) (n m : Int) (t : ByteArray) (w : World) (hlh : g + 1 < w.heap.size) (hg : w.cell? ⟨g, 0, none⟩ = some (.string t)) (hh : w.cell? ⟨g + 1, 0, none⟩ = some (.int .i64 m)) (fg : w.frozen? ⟨g, 0, none⟩ = false) (fh : w.frozen? ⟨g + 1, 0, none⟩ = false) :
    CallsD Tryd.prog 24 #[.pointer (some ⟨g, 0, none⟩), .pointer (some ⟨g + 1, 0, none⟩)] (.panicking [{ v := .iface 70 (.agg #[.int .i64 n]), recovered := false }]) w fun e u' w' =>
      e = .returned (.tuple #[]) ∧ u' = .panicking [{ v := .iface 70 (.agg #[.int .i64 n]), recovered := true }] ∧
      w' = ((((w.setCell ⟨g, 0, none⟩ (.string ⟨#[]⟩)).setCell ⟨g + 1, 0, none⟩ (.int .i64 110)).alloc (.cells #[.int .i64 n] 70)).setCell ⟨g + 1, 0, none⟩ (.int .i64 n)) := by
  have hta := assert_failure n
  have hlg : g < w.heap.size := by omega
  obtain ⟨w3, HW3⟩ := named (((w.setCell ⟨g, 0, none⟩ (.string ⟨#[]⟩)).setCell ⟨g + 1, 0, none⟩ (.int .i64 110)).alloc (.cells #[.int .i64 n] 70))
  have hc1 : w3.cell? ⟨w.heap.size, 0, none⟩ = some (.int .i64 n) := by
    rw [HW3.out]; exact World.cell?_alloc_at _ _ _ _ (by simp)
  have hc2 : w3.cell? ⟨g + 1, 0, none⟩ = some (.int .i64 110) := by
    rw [HW3.out, World.cell?_alloc_past _ _ _ (by simp; omega)]
    exact sc_same ((sc_blk (by omega)).trans hh)
  have hf2 : w3.frozen? ⟨g + 1, 0, none⟩ = false := by
    rw [HW3.out, World.frozen?_alloc_past _ _ _ (by simp; omega)]
    simpa using fh
  rw [← HW3.out]
  refine callsD_of_wpS Tryd.func24 rfl fun c₀ cs hu => ?_
  simp only [Tryd.ntmps24, List.size_toArray, List.length_cons, List.length_nil, Nat.reduceAdd, Nat.reduceSub, Array.replicate_succ, Array.replicate_zero, List.push_toArray, List.append_toArray, List.nil_append, List.cons_append]
  apply wpS_seq
  apply wpS_region
  simp [wpOpsS, go_sem, recoverD, hu, Exit.thenS]
  refine wpS_of_wp ?_
  clear hu
  iterate 54 go_step
  rw [← HW3.out]
  clear hh hg fg fh hlg hlh
  go_wp2_with fail
  simp [bodyPostS, results, Tryd.results24]

theorem catch_idle (p q : Addr) (w : World) :
    CallsD Tryd.prog 24 #[.pointer (some p), .pointer (some q)] .returning w fun e u' w' => e = .returned (.tuple #[]) ∧ u' = .returning ∧ w' = w := by
  refine callsD_of_wpS Tryd.func24 rfl fun c₀ cs hu => ?_
  simp only [Tryd.ntmps24, List.size_toArray, List.length_cons, List.length_nil, Nat.reduceAdd, Nat.reduceSub, Array.replicate_succ, Array.replicate_zero, List.push_toArray, List.append_toArray, List.nil_append, List.cons_append]
  apply wpS_seq
  apply wpS_region
  simp [wpOpsS, go_sem, recoverD, hu, Exit.thenS]
  refine wpS_of_wp ?_
  go_wp2_with fail
  cases c₀
  simp_all [bodyPostS, results, Tryd.results24]

/-- what the caller of Run has: a source, and memory that is only read -/
structure Start {S : Type} (ops : Ops S) (mem : Addr → Option Value) (R : Nat) (I : (Nat → Prop) → World → S → Prop) (cnt : S → Nat) (F : Nat → Prop) (s : S) (w : World) : Prop where
  ok : SrcOK 73 72 80 ops w.heap.size mem (.pointer (some ⟨R, 0, none⟩)) I cnt
  src : I F w s
  cnt0 : cnt s = 0
  sees : Sees mem w
  memF : ∀ a v, mem a = some v → a.block < w.heap.size ∧ ¬ F a.block
  tab : Tab w
  tabF : 2 < w.heap.size ∧ ¬ F 2
/-- what Run leaves -/
def RunPost {S : Type} (I : (Nat → Prop) → World → S → Prop) (F : Nat → Prop) (w : World) (r : (List UInt8 × Int) × S) (e : Ending) (w' : World) : Prop :=
  e = .returned (.tuple #[.string (bs r.1.1), .int .i64 r.1.2]) ∧ ∃ F', I F' w' r.2 ∧ Upd F w w' ∧ ∀ k, F' k → F k ∨ w.heap.size ≤ k

/-- the world in which the evaluation begins -/
def startW (R : Nat) (w : World) : World :=
  ((((w.alloc (.cells #[.string ⟨#[]⟩] 9)).alloc (.cells #[.int .i64 0] 31)).alloc (.map #[ent 1 44 0, ent 2 45 1, ent 3 46 2, ent 4 47 3, ent 5 48 4] 5)).alloc
    (.cells #[.slice none 0 0, .iface 29 (.pointer (some ⟨R, 0, none⟩)), .map (some (w.heap.size + 2)), .int .i64 0, .int .i64 0] 79))
def startEnv {S : Type} (mem : Addr → Option Value) (R : Nat) (I : (Nat → Prop) → World → S → Prop) (cnt : S → Nat) (w : World) : Env S :=
  { base := w.heap.size, mem := mem, sv := .iface 29 (.pointer (some ⟨R, 0, none⟩)), I := I, cnt := cnt, K := w.heap.size + 2, E := w.heap.size + 3 }
def startS {S : Type} (F : Nat → Prop) (s : S) : EvS S := { txt := .slice none 0 0, F := F, st := { out := [], steps := 0, src := s }, incl := 0 }
theorem start_upd (R : Nat) (w : World) : Upd (fun _ => False) w (startW R w) := ((((Upd.refl _ w).alloc _).alloc _).alloc _).alloc _
theorem start_size (R : Nat) (w : World) : (startW R w).heap.size = w.heap.size + 4 := by simp [startW]
theorem start_inv {S : Type} {ops : Ops S} {mem : Addr → Option Value} {R : Nat} {I : (Nat → Prop) → World → S → Prop} {cnt : S → Nat} {F : Nat → Prop} {s : S} {w : World} (h : Start ops mem R I cnt F s w) :
    EvI (startEnv mem R I cnt w) (startW R w) (startS F s) where
  ev := by
    show (startW R w).heap[w.heap.size + 3]? = _
    have := World.alloc_heap_new (((w.alloc (.cells #[.string ⟨#[]⟩] 9)).alloc (.cells #[.int .i64 0] 31)).alloc (.map #[ent 1 44 0, ent 2 45 1, ent 3 46 2, ent 4 47 3, ent 5 48 4] 5)) (.cells #[.slice none 0 0, .iface 29 (.pointer (some ⟨R, 0, none⟩)), .map (some (w.heap.size + 2)), .int .i64 0, .int .i64 0] 79)
    simp only [World.size_alloc] at this
    exact this
  km := by
    obtain ⟨es, c, h1, h2⟩ := kinds_ok ((w.alloc (.cells #[.string ⟨#[]⟩] 9)).alloc (.cells #[.int .i64 0] 31))
    simp only [World.size_alloc] at h1
    exact ⟨es, c, (Below.heap_alloc _ _ _ (by simp [startEnv])).trans h1, h2⟩
  row := Row.nil _ _
  src := h.ok.keep h.src (start_upd R w) (fun _ f => f.elim)
  sepF := fun k hk => by cases hk
  sepE := ⟨fun f => by have := h.ok.lt h.src _ f; simp [startEnv] at this; omega, fun f => by have := h.ok.lt h.src _ f; simp [startEnv] at this; omega⟩
  ord := by simp [startEnv]
  sees := h.sees.upd (start_upd R w) (fun _ _ _ f => f)
  memF := h.memF
  tab := tab_upd h.tab (start_upd R w) h.tabF.1 (fun f => f)
  tabF := h.tabF
  out := by simp [startS]
  steps := by simp [startS]
  inc := by simp [startS]
theorem start_cells {S : Type} {ops : Ops S} {mem : Addr → Option Value} {R : Nat} {I : (Nat → Prop) → World → S → Prop} {cnt : S → Nat} {F : Nat → Prop} {s : S} {w w2 : World} (h : Start ops mem R I cnt F s w)
    (hu : Upd (Foot (startEnv mem R I cnt w) (startS F s)) (startW R w) w2) :
    w2.cell? ⟨w.heap.size, 0, none⟩ = some (.string ⟨#[]⟩) ∧ w2.cell? ⟨w.heap.size + 1, 0, none⟩ = some (.int .i64 0) ∧ w2.frozen? ⟨w.heap.size, 0, none⟩ = false ∧ w2.frozen? ⟨w.heap.size + 1, 0, none⟩ = false ∧ w.heap.size + 1 < w2.heap.size := by
  have hn : ∀ k, k < w.heap.size + 2 → w.heap.size ≤ k → ¬ Foot (startEnv mem R I cnt w) (startS F s) k := fun k h1 h2 f => by
    rcases f with f | f | f
    · simp [startEnv] at f; omega
    · cases f
    · have := h.ok.lt h.src k f; omega
  have hs := start_size R w
  have hsz := hu.size
  refine ⟨(hu.cell (p := ⟨w.heap.size, 0, none⟩) (by show w.heap.size < _; omega) (hn _ (by show w.heap.size < _; omega) (Nat.le_refl _))).trans ?_, (hu.cell (p := ⟨w.heap.size + 1, 0, none⟩) (by show w.heap.size + 1 < _; omega) (hn _ (by show w.heap.size + 1 < _; omega) (Nat.le_succ _))).trans ?_,
    (hu.frozen (p := ⟨w.heap.size, 0, none⟩) (by show w.heap.size < _; omega) (hn _ (by show w.heap.size < _; omega) (Nat.le_refl _))).trans ?_, (hu.frozen (p := ⟨w.heap.size + 1, 0, none⟩) (by show w.heap.size + 1 < _; omega) (hn _ (by show w.heap.size + 1 < _; omega) (Nat.le_succ _))).trans ?_, by omega⟩
  · unfold startW; simp [go_sem]
  · unfold startW; simp [go_sem]
  · unfold startW; simp [go_sem]
  · unfold startW; simp [go_sem]
set_option maxRecDepth 100000 in
set_option maxHeartbeats 2000000 in
theorem run_any {S : Type} {ops : Ops S} {mem : Addr → Option Value} {R : Nat} {I : (Nat → Prop) → World → S → Prop} {cnt : S → Nat} {F : Nat → Prop} {s : S} {w : World} (h : Start ops mem R I cnt F s w)
    (l : List Node) (v : Value) (b o : Nat) (hl : SliceOf v l.length b o) (hn : NodesAt mem l b o) (id : Int) :
    Calls Tryd.prog 16 #[v, .iface 29 (.pointer (some ⟨R, 0, none⟩)), .int .i64 id] w (RunPost I F w (runF ops l s id)) := by
  have hmf : ∀ (fn : Fn) (first cap : Array Value) (w : World), (Instr.makeFunc fn first cap).run Tryd.prog w = .ok (.func fn first cap) w := fun _ _ _ _ => rfl
  obtain ⟨ao, cap, rfl, _, _, _⟩ := hl.shape
  go_enter_defers Tryd.func16, Tryd.ntmps16
  go_wp2_with (go_at_call 25; (with_reducible refine (kinds_any _).mono ?_); rintro e w' ⟨rfl, rfl⟩)
  have hst : Calls Tryd.prog 26 #[.pointer (some ⟨w.heap.size + 3, 0, none⟩), .slice ao l.length cap, .int .i64 id] (startW R w) (NPost (startEnv mem R I cnt w) (startW R w) (startS F s) (evD ops 3 l id (startS F s).st)) :=
    lists_ok (env := startEnv mem R I cnt w) h.ok rfl 3 0 rfl l id _ b o _ (startS F s) rfl (start_inv h) (by show cnt s ≤ 0; rw [h.cnt0]; exact Nat.le_refl _) hl hn
  have hfin : ∀ (x' : EvS S) (w2 w3 : World), EvI (startEnv mem R I cnt w) w2 x' → EvStep (startEnv mem R I cnt w) (startW R w) w2 (startS F s) x' → Upd (fun k => k = w.heap.size ∨ k = w.heap.size + 1) w2 w3 →
      ∃ F', I F' w3 x'.st.src ∧ Upd F w w3 ∧ ∀ k, F' k → F k ∨ w.heap.size ≤ k := by
    intro x' w2 w3 g1 g2 g3
    have hs := start_size R w
    have hft : ∀ k, Foot (startEnv mem R I cnt w) (startS F s) k → F k ∨ w.heap.size ≤ k := fun k f => by
      rcases f with f | f | f
      · right; rw [f]; simp [startEnv]
      · cases f
      · exact .inl f
    have hF' : ∀ k, x'.F k → F k ∨ w.heap.size + 2 ≤ k := fun k f => by
      rcases g2.2 k (.inr (.inr f)) with f | f
      · rcases f with f | f | f
        · right; rw [f]; simp [startEnv]
        · cases f
        · exact .inl f
      · right; omega
    refine ⟨x'.F, h.ok.keep g1.src g3 (fun k e => ?_), ?_, fun k f => (hF' k f).imp (fun f => f) (fun f => by omega)⟩
    · refine ⟨by rcases e with e | e <;> omega, fun f => ?_⟩
      rcases hF' k f with f | f
      · have := h.ok.lt h.src k f; rcases e with e | e <;> omega
      · rcases e with e | e <;> omega
    · have h1 : Upd F w w2 := ((start_upd R w).mono (G := F) (fun _ f => f.elim)).trans g2.1 hft
      exact h1.trans g3 (fun k e => .inr (by rcases e with e | e <;> omega))
  have hrun : runF ops l s id = if (evD ops 3 l id (startS F s).st).1 = 0 then (((evD ops 3 l id (startS F s).st).2.out, 0), (evD ops 3 l id (startS F s).st).2.src) else (([], (evD ops 3 l id (startS F s).st).1), (evD ops 3 l id (startS F s).st).2.src) := rfl
  have HR := Lib.hid hrun
  have HF := Lib.hid hfin
  have HST := Lib.hid h
  clear hfin hrun h
  unfold startW ent at hst
  refine hst.mono ?_
  intro e w2 hp
  clear hst
  rcases hp.cases with ⟨h0, rfl⟩ | ⟨h0, rfl⟩
  · obtain ⟨x', a1, a2, a3, a4, a5⟩ := hp
    obtain ⟨c0, c1, f0, f1, hsz⟩ := start_cells HST.out a2.1
    have ct := a1.cells.1
    have hcv := conv_row a1.row
    have HA := Lib.hid (And.intro a1 (And.intro a2 a3))
    have HZ := Lib.hid h0
    clear a1 a2 a3 a4 a5 h0
    change w2.cell? ⟨w.heap.size + 3, 0, none⟩ = _ at ct
    go_wp2_with fail
    refine leaves_cons (f := 24) (args := #[.pointer (some ⟨w.heap.size, 0, none⟩), .pointer (some ⟨w.heap.size + 1, 0, none⟩)]) (by simp) (by simp [go_sem]) ?_
    refine (catch_idle _ _ _).mono ?_
    rintro e u' w3 ⟨rfl, rfl, rfl⟩
    have k0 : ((w2.setCell ⟨w.heap.size, 0, none⟩ (.string (bs x'.st.out))).setCell ⟨w.heap.size + 1, 0, none⟩ (.int .i64 0)).cell? ⟨w.heap.size, 0, none⟩ = some (.string (bs x'.st.out)) := (sc_blk (by omega)).trans (sc_same c0)
    have k1 : ((w2.setCell ⟨w.heap.size, 0, none⟩ (.string (bs x'.st.out))).setCell ⟨w.heap.size + 1, 0, none⟩ (.int .i64 0)).cell? ⟨w.heap.size + 1, 0, none⟩ = some (.int .i64 0) := sc_same ((sc_blk (by omega)).trans c1)
    generalize hw3 : (w2.setCell ⟨w.heap.size, 0, none⟩ (.string (bs x'.st.out))).setCell ⟨w.heap.size + 1, 0, none⟩ (.int .i64 0) = w3 at *
    have hu3 : Upd (fun k => k = w.heap.size ∨ k = w.heap.size + 1) w2 w3 := by
      rw [← hw3]
      exact ((Upd.refl _ w2).setCell (p := ⟨w.heap.size, 0, none⟩) (.inl (.inl rfl)) _).setCell (p := ⟨w.heap.size + 1, 0, none⟩) (.inl (.inr rfl)) _
    clear hw3
    obtain ⟨a1, a2, a3⟩ := HA.out
    have hpost : RunPost I F w (runF ops l s id) (.returned (.tuple #[.string (bs x'.st.out), .int .i64 0])) w3 := by
      rw [HR.out, if_pos HZ.out, ← a3]
      exact ⟨rfl, HF.out x' w2 w3 a1 a2 hu3⟩
    refine ⟨_, ?_, hpost⟩
    simp [results, Tryd.results16, go_sem, k0, k1]
  · obtain ⟨x', a1, a2, a3, a4, a5⟩ := hp
    obtain ⟨c0, c1, f0, f1, hsz⟩ := start_cells HST.out a2.1
    refine leaves_cons (f := 24) (args := #[.pointer (some ⟨w.heap.size, 0, none⟩), .pointer (some ⟨w.heap.size + 1, 0, none⟩)]) (by simp) (by simp [go_sem]) ?_
    refine (catch_panicking w.heap.size _ 0 ⟨#[]⟩ w2 hsz c0 c1 f0 f1).mono ?_
    rintro e u' w3 ⟨rfl, rfl, rfl⟩
    generalize hn : (evD ops 3 l id (startS F s).st).1 = n at *
    have k0 : ((((w2.setCell ⟨w.heap.size, 0, none⟩ (.string ⟨#[]⟩)).setCell ⟨w.heap.size + 1, 0, none⟩ (.int .i64 110)).alloc (.cells #[.int .i64 n] 70)).setCell ⟨w.heap.size + 1, 0, none⟩ (.int .i64 n)).cell? ⟨w.heap.size, 0, none⟩ = some (.string ⟨#[]⟩) := by
      rw [sc_blk (by omega), World.cell?_alloc_past _ _ _ (by simp; omega), sc_blk (by omega)]
      exact sc_same c0
    have k1 : ((((w2.setCell ⟨w.heap.size, 0, none⟩ (.string ⟨#[]⟩)).setCell ⟨w.heap.size + 1, 0, none⟩ (.int .i64 110)).alloc (.cells #[.int .i64 n] 70)).setCell ⟨w.heap.size + 1, 0, none⟩ (.int .i64 n)).cell? ⟨w.heap.size + 1, 0, none⟩ = some (.int .i64 n) := by
      refine sc_same (u := .int .i64 110) ?_
      rw [World.cell?_alloc_past _ _ _ (by simp; omega)]
      exact sc_same ((sc_blk (by omega)).trans c1)
    generalize hw3 : (((w2.setCell ⟨w.heap.size, 0, none⟩ (.string ⟨#[]⟩)).setCell ⟨w.heap.size + 1, 0, none⟩ (.int .i64 110)).alloc (.cells #[.int .i64 n] 70)).setCell ⟨w.heap.size + 1, 0, none⟩ (.int .i64 n) = w3 at *
    have hu3 : Upd (fun k => k = w.heap.size ∨ k = w.heap.size + 1) w2 w3 := by
      rw [← hw3]
      exact ((((Upd.refl _ w2).setCell (p := ⟨w.heap.size, 0, none⟩) (.inl (.inl rfl)) _).setCell (p := ⟨w.heap.size + 1, 0, none⟩) (.inl (.inr rfl)) _).alloc _).setCell (p := ⟨w.heap.size + 1, 0, none⟩) (.inl (.inr rfl)) _
    clear hw3
    have hpost : RunPost I F w (runF ops l s id) (.returned (.tuple #[.string ⟨#[]⟩, .int .i64 n])) w3 := by
      rw [HR.out, if_neg h0, ← a3]
      exact ⟨rfl, HF.out x' w2 w3 a1 a2 hu3⟩
    refine ⟨_, ?_, hpost⟩
    simp [results, Tryd.results16, go_sem, k0, k1]
end Go.Proofs.YtlkaikopjjmneaaDoor

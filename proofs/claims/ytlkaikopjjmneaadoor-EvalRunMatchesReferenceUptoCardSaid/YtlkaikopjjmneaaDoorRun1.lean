/-
  WHAT IS PROVED HERE: the walks of eval's fail, put and literal, at an evaluation as it lies in memory. Conditions: those that the evaluation keeps.
-/
import Derived.Test.YtlkaikopjjmneaaDoorInv
import Derived.Test.YtlkaikopjjmneaaDoorOwn2
import Derived.StillTailTactics
namespace Go.Proofs.YtlkaikopjjmneaaDoor
open Go.RowKit

abbrev panics (n : Int) : Ending := .panicked [{ v := .iface 70 (.agg #[.int .i64 n]), recovered := false }]
theorem fail_any (n : Int) (w : World) : Calls Tryd.prog 49 #[.int .i64 n] w fun e w' => e = panics n ∧ w = w' := by
  go_enter Tryd.func49, Tryd.ntmps49
  go_wp2
  exact ⟨rfl, rfl, rfl⟩

/-- a region that draws its order, all of it reads but a tail whose order is fixed -/
theorem wp_tail {P : Program} {id : Nat} {Q : Exit → Act → World → Prop} {a : Act} {w : World} {l : List Oper} (n : Nat) (hm : P.follows .mixedOrders = true) (hB : Region.lexTailB .any l.toArray n = true)
    (h : wpStill P l.toArray w.drew (fun a' => wpList P l.toArray Q (l.drop n) a' w.drew) (l.take n) a) : (Code.region id l.toArray true).wp P Q a w :=
  wp_region_still_tail n hm hB h

section
variable {S : Type}
/-- what a step of an evaluation leaves -/
def NPost (env : Env S) (w : World) (x : EvS S) (r : Int × St S) (e : Ending) (w' : World) : Prop :=
  ∃ x', EvI env w' x' ∧ EvStep env w w' x x' ∧ x'.st = r.2 ∧ env.cnt x'.st.src ≤ x'.st.steps ∧
    ((r.1 = 0 ∧ e = .returned (.tuple #[]) ∧ x'.incl = x.incl) ∨ (r.1 ≠ 0 ∧ e = panics r.1))

theorem EvI.put {env : Env S} (keep : ∀ {F G w w' s}, env.I F w s → Upd G w w' → (∀ k, G k → env.base ≤ k ∧ ¬ F k) → env.I F w' s) {w w1 : World} {x : EvS S} (h : EvI env w x) (hlt : ∀ k, x.F k → k < w.heap.size)
    {v' : Value} {l : List UInt8} (hr : Row w1 (env.E + 1) v' l) (hg : w.grownBy w1 x.txt.ownBlock) (ho : ∀ k, v'.ownBlock = some k → x.txt.ownBlock = some k ∨ w.heap.size ≤ k) (hl : l.length ≤ 8192) :
    EvI env (w1.setCell ⟨env.E, 0, none⟩ v') { x with txt := v', st := { x.st with out := l } } ∧ EvStep env w (w1.setCell ⟨env.E, 0, none⟩ v') x { x with txt := v', st := { x.st with out := l } } := by
  have hE := h.ltE
  have hEr : ∀ k, x.txt.ownBlock = some k → env.E < k := fun k hk => h.row.ge k hk
  have hEr' : ∀ k, v'.ownBlock = some k → env.E < k := fun k hk => hr.ge k hk
  have hu1 : Upd (fun k => x.txt.ownBlock = some k) w w1 := ⟨hg.os, hg.tape, hg.output, hg.size, fun k hk hn => hg.block k hk (fun e => hn e.symm)⟩
  have hev1 : w1.heap[env.E]? = some (.cells #[x.txt, env.sv, .map (some env.K), .int .i64 x.st.steps, .int .i64 x.incl] 79 (0, 0)) :=
    (hu1.block _ hE (fun e => by have := hEr _ e; omega)).trans h.ev
  have hu : Upd (fun k => k = env.E ∨ x.txt.ownBlock = some k) w (w1.setCell ⟨env.E, 0, none⟩ v') :=
    (hu1.mono (fun i e => .inl (.inr e))).setCell (.inl (.inl rfl)) v'
  have hord := h.ord
  refine ⟨⟨?_, ?_, ?_, ?_, ?_, h.sepE, h.ord, ?_, h.memF, ?_, h.tabF, hl, h.steps, h.inc⟩, ⟨hu.mono (fun i e => .inl (by rcases e with e | e; exact .inl e; exact .inr (.inl e))), ?_⟩⟩
  · rw [heap_setCell_same _ _ _ _ _ _ hev1]; rfl
  · obtain ⟨es, c, h1, h2⟩ := h.km
    exact ⟨es, c, (hu.block _ (by omega) (fun e => by rcases e with e | e; omega; have := hEr _ e; omega)).trans h1, h2⟩
  · refine Row.kept (F := fun k => k = env.E) hr ((Upd.refl (fun k => k = env.E) w1).setCell (p := ⟨env.E, 0, none⟩) (.inl rfl) v') (fun k hk e => by have := hEr' k hk; omega)
  · exact keep h.src hu (fun k e => by
      rcases e with e | e
      · subst e; exact ⟨by omega, h.sepE.1⟩
      · exact ⟨by have := hEr k e; omega, h.sepF k e⟩)
  · intro k hk hF
    rcases ho k hk with e | e
    · exact h.sepF k e hF
    · have := hlt k hF; omega
  · exact h.sees.upd hu (fun a v hv e => by
      have := (h.memF a v hv).1
      rcases e with e | e
      · omega
      · have := hEr _ e; omega)
  · exact tab_upd h.tab hu (by have := h.tabF.1; omega) (fun e => by
      have := h.tabF.1
      rcases e with e | e
      · omega
      · have := hEr _ e; omega)
  · intro k hk
    rcases hk with e | e | e
    · exact .inl (.inl e)
    · rcases ho k e with e | e
      · exact .inl (.inr (.inl e))
      · exact .inr e
    · exact .inl (.inr (.inr e))

set_option maxHeartbeats 400000 in
theorem put_any {env : Env S} (keep : ∀ {F G w w' s}, env.I F w s → Upd G w w' → (∀ k, G k → env.base ≤ k ∧ ¬ F k) → env.I F w' s) (lt : ∀ {F w s}, env.I F w s → ∀ k, F k → k < w.heap.size) {w : World} {x : EvS S} (h : EvI env w x)
    (s : ByteArray) (_hs : s.size ≤ 1099511627776) (hc : env.cnt x.st.src ≤ x.st.steps) :
    Calls Tryd.prog 68 #[.pointer (some ⟨env.E, 0, none⟩), .string s] w (NPost env w x (putF s.data.toList x.st)) := by
  obtain ⟨a, cap, hsh⟩ := h.row.shape
  have e0 := h.cells.1
  have f0 := h.free 0
  have hrow := h.row
  have hout := h.out
  by_cases hlen : 8192 < x.st.out.length + s.size
  · have hr : putF s.data.toList x.st = (111, x.st) := by rw [putF, if_pos (by simpa using hlen)]
    have HP : Hid (NPost env w x (putF s.data.toList x.st) (panics 111) w) := by
      rw [hr]
      exact ⟨x, h, EvStep.refl _ _ _, rfl, hc, .inr ⟨(by show ¬ (111 : Int) = 0; omega), rfl⟩⟩
    rw [hsh] at e0
    clear hr hrow h hsh
    go_enter Tryd.func68, Tryd.ntmps68
    go_wp2_with (go_at_call 49; (with_reducible refine (fail_any 111 _).mono ?_); rintro e w' ⟨rfl, rfl⟩)
    exact ⟨rfl, HP.out⟩
  · have hr : putF s.data.toList x.st = (0, { x.st with out := x.st.out ++ s.data.toList }) := by rw [putF, if_neg (by simpa using hlen)]
    have hfin : ∀ v' w1, Row w1 (env.E + 1) v' (x.st.out ++ s.data.toList) → w.grownBy w1 x.txt.ownBlock → (∀ k, v'.ownBlock = some k → x.txt.ownBlock = some k ∨ w.heap.size ≤ k) →
        NPost env w x (putF s.data.toList x.st) (.returned (.tuple #[])) (w1.setCell ⟨env.E, 0, none⟩ v') := by
      intro v' w1 h1 h2 h3
      rw [hr]
      have := EvI.put keep h (lt h.src) h1 h2 h3 (by simp; omega)
      exact ⟨_, this.1, this.2, rfl, hc, .inl ⟨rfl, rfl, rfl⟩⟩
    have hold : ∀ w1, w.grownBy w1 x.txt.ownBlock → w1.cell? ⟨env.E, 0, none⟩ = some x.txt ∧ w1.frozen? ⟨env.E, 0, none⟩ = false := by
      intro w1 hg
      have hne : some env.E ≠ x.txt.ownBlock := fun e => by have := h.row.ge _ e.symm; omega
      exact ⟨(World.cell?_of_block (hg.block _ h.ltE hne)).trans h.cells.1, (World.frozen?_of_block (hg.block _ h.ltE hne)).trans (h.free 0)⟩
    have hB : env.E + 1 ≤ w.heap.size := h.ltE
    have HF := Lib.hid hfin
    have HO := Lib.hid hold
    have HB := Lib.hid hB
    rw [hsh] at e0 hrow
    rw [hsh] at HF HO
    clear hr h hfin hold hB hsh
    go_enter Tryd.func68, Tryd.ntmps68
    go_wp2_with (at_builtin; refine wpList_appS2 rfl _ _ rfl (env.E + 1) _ _ rfl hrow s rfl (by omega) HB.out ?_; intro v' w1 hr1 hg1 ho1; obtain ⟨c1, f1⟩ := HO.out w1 hg1; have HN := Lib.hid (HF.out v' w1 hr1 hg1 ho1); obtain ⟨a', cap', rfl⟩ := hr1.shape; clear hr1 hg1 ho1)
    go_end0
    have hn := HN.out
    simp only [List.length_append, size_list] at hn
    exact hn

theorem NPost.ok {env : Env S} {w w' : World} {x : EvS S} {r : Int × St S} {e : Ending} (h : NPost env w x r e w') (h0 : r.1 = 0) : e = .returned (.tuple #[]) := by
  obtain ⟨_, _, _, _, _, h | h⟩ := h
  · exact h.2.1
  · exact absurd h0 h.1
theorem NPost.bad {env : Env S} {w w' : World} {x : EvS S} {r : Int × St S} {e : Ending} (h : NPost env w x r e w') (h0 : r.1 ≠ 0) : e = panics r.1 := by
  obtain ⟨_, _, _, _, _, h | h⟩ := h
  · exact absurd h.1 h0
  · exact h.2
theorem NPost.cases {env : Env S} {w w' : World} {x : EvS S} {r : Int × St S} {e : Ending} (h : NPost env w x r e w') : (r.1 = 0 ∧ e = .returned (.tuple #[])) ∨ (r.1 ≠ 0 ∧ e = panics r.1) := by
  by_cases h0 : r.1 = 0
  · exact .inl ⟨h0, h.ok h0⟩
  · exact .inr ⟨h0, h.bad h0⟩
theorem NPost.later {env : Env S} {w w2 w' : World} {x : EvS S} {r : Int × St S} {e : Ending} (hu : Upd (fun _ => False) w w2) (h : NPost env w2 x r e w') : NPost env w x r e w' := by
  obtain ⟨x', h1, h2, h3⟩ := h
  exact ⟨x', h1, EvStep.trans (x1 := x) ⟨hu.mono (fun _ f => f.elim), fun _ f => .inl f⟩ h2, h3⟩
theorem EvI.later {env : Env S} (keep : ∀ {F G w w' s}, env.I F w s → Upd G w w' → (∀ k, G k → env.base ≤ k ∧ ¬ F k) → env.I F w' s) {w w2 : World} {x : EvS S} (h : EvI env w x) (hu : Upd (fun _ => False) w w2) : EvI env w2 x :=
  h.keep keep hu (fun _ f => f.elim)
theorem upd_box (w : World) (o : Obj) : Upd (fun _ => False) w (w.alloc o).drew := ((Upd.refl _ w).alloc o).drew
theorem upd_box1 (w : World) (o : Obj) : Upd (fun _ => False) w (w.alloc o) := (Upd.refl _ w).alloc o

set_option maxRecDepth 100000 in
set_option maxHeartbeats 400000 in
theorem literal_any {env : Env S} (keep : ∀ {F G w w' s}, env.I F w s → Upd G w w' → (∀ k, G k → env.base ≤ k ∧ ¬ F k) → env.I F w' s) (lt : ∀ {F w s}, env.I F w s → ∀ k, F k → k < w.heap.size) {w : World} {x : EvS S} (h : EvI env w x)
    (kind count id : Int) (text name arg : ByteArray) (fv kv ev : Value) (hs : text.size ≤ big) (hc : env.cnt x.st.src ≤ x.st.steps) :
    Calls Tryd.prog 44 #[.pointer (some ⟨env.E, 0, none⟩), .agg #[.int .i64 kind, .string text, .string name, .string arg, .int .i64 count, fv, kv, ev], .int .i64 id] w (NPost env w x (putF text.data.toList x.st)) := by
  have hk : ∀ o, EvI env (w.alloc o).drew x := fun o => h.later keep (upd_box w o)
  have HK := Lib.hid hk
  have H0 := Lib.hid h
  clear hk h
  go_enter Tryd.func44, Tryd.ntmps44
  go_wp2_with fail
  refine wp_tail 5 (by kernel_rfl) (by kernel_rfl) ?_
  simp only [List.take_succ_cons, List.take_zero, List.drop_succ_cons, List.drop_zero]
  repeat still_step
  refine wpStill_nil ?_
  go_wp2_with fail
  refine (put_any keep lt (HK.out _) text (by unfold big at hs; omega) hc).mono ?_
  intro e w' hp
  rcases hp.cases with ⟨h0, rfl⟩ | ⟨h0, rfl⟩
  · go_wp2_with fail
    go_end0
    exact hp.later (upd_box w _)
  · exact ⟨rfl, hp.later (upd_box w _)⟩
end
end Go.Proofs.YtlkaikopjjmneaaDoor

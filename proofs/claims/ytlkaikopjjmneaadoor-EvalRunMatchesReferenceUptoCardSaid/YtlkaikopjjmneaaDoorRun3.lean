/-
  WHAT IS PROVED HERE: the walks of eval's condition, include and loop, given what the evaluation of lists of nodes does. Conditions: those that the evaluation keeps.
-/
import Derived.Test.YtlkaikopjjmneaaDoorRun2
namespace Go.Proofs.YtlkaikopjjmneaaDoor
open Go.RowKit
section
variable {S : Type}
theorem EvI.setE {env : Env S} (keep : ∀ {F G w w' s}, env.I F w s → Upd G w w' → (∀ k, G k → env.base ≤ k ∧ ¬ F k) → env.I F w' s) {w : World} {x : EvS S} (h : EvI env w x) (j : Nat) (u : Value) (x' : EvS S)
    (h1 : x'.txt = x.txt) (h2 : x'.F = x.F) (h3 : x'.st.out = x.st.out) (h4 : x'.st.src = x.st.src) (h5 : x'.st.steps ≤ 2000) (h6 : x'.incl ≤ 3)
    (hc : (#[x.txt, env.sv, .map (some env.K), .int .i64 x.st.steps, .int .i64 x.incl] : Array Value).setIfInBounds j u = #[x.txt, env.sv, .map (some env.K), .int .i64 x'.st.steps, .int .i64 x'.incl]) :
    EvI env (w.setCell ⟨env.E, j, none⟩ u) x' ∧ EvStep env w (w.setCell ⟨env.E, j, none⟩ u) x x' := by
  have hE := h.ltE
  have hord := h.ord
  have hu : Upd (fun k => k = env.E) w (w.setCell ⟨env.E, j, none⟩ u) := (Upd.refl (fun k => k = env.E) w).setCell (p := ⟨env.E, j, none⟩) (.inl rfl) u
  have hrow := h.row
  refine ⟨⟨?_, ?_, ?_, ?_, ?_, ?_, h.ord, ?_, ?_, ?_, ?_, ?_, h5, h6⟩, hu.mono (fun k e => .inl (.inl e)), ?_⟩
  · rw [heap_setCell_same _ _ _ _ _ _ h.ev, hc, h1]
  · obtain ⟨es, c, h1, h2⟩ := h.km
    exact ⟨es, c, (hu.block _ (by omega) (fun e => by omega)).trans h1, h2⟩
  · rw [h1, h3]
    exact hrow.kept hu (fun k hk e => by have := hrow.ge k hk; omega)
  · rw [h2, h4]
    exact keep h.src hu (fun k e => by subst e; exact ⟨by omega, h.sepE.1⟩)
  · rw [h1, h2]; exact h.sepF
  · rw [h2]; exact h.sepE
  · exact h.sees.upd hu (fun a v hv e => by have := (h.memF a v hv).1; omega)
  · rw [h2]; exact h.memF
  · exact tab_upd h.tab hu (by have := h.tabF.1; omega) (fun e => by have := h.tabF.1; omega)
  · rw [h2]; exact h.tabF
  · rw [h3]; exact h.out
  · intro k hk
    left
    unfold Foot at *
    rw [h1, h2] at hk
    exact hk

/-- what the evaluation of a list of nodes does, c inclusions deep -/
def ListOK (ops : Ops S) (env : Env S) (c : Nat) (l : List Node) : Prop :=
  ∀ (id : Int) (v : Value) (b o : Nat) (w : World) (x : EvS S), x.incl = c → EvI env w x → env.cnt x.st.src ≤ x.st.steps → SliceOf v l.length b o → NodesAt env.mem l b o →
    Calls Tryd.prog 26 #[.pointer (some ⟨env.E, 0, none⟩), v, .int .i64 id] w (NPost env w x (evD ops (3 - c) l id x.st))

def condF (ops : Ops S) (c : Nat) (name : ByteArray) (kids els : List Node) (id : Int) (st : St S) : Int × St S :=
  let r := ops.field st.src id name
  let st1 : St S := { st with src := r.2 }
  if r.1.2 && !r.1.1.data.toList.isEmpty then evD ops (3 - c) kids id st1 else evD ops (3 - c) els id st1

set_option maxRecDepth 100000 in
set_option maxHeartbeats 1000000 in
theorem condition_any {ops : Ops S} {env : Env S} {R : Nat} (ok : SrcOK 73 72 80 ops env.base env.mem (.pointer (some ⟨R, 0, none⟩)) env.I env.cnt) (hsv : env.sv = .iface 29 (.pointer (some ⟨R, 0, none⟩)))
    {w : World} {x : EvS S} (h : EvI env w x) (kind count id : Int) (text name arg : ByteArray) (fv kv ev : Value) (kids els : List Node) (bk ok' be oe : Nat)
    (hk1 : SliceOf kv kids.length bk ok') (hk2 : NodesAt env.mem kids bk ok') (he1 : SliceOf ev els.length be oe) (he2 : NodesAt env.mem els be oe)
    (hkids : ListOK ops env x.incl kids) (hels : ListOK ops env x.incl els) (hn : name.size ≤ big) (hc : env.cnt x.st.src + 1 ≤ x.st.steps) :
    Calls Tryd.prog 47 #[.pointer (some ⟨env.E, 0, none⟩), .agg #[.int .i64 kind, .string text, .string name, .string arg, .int .i64 count, fv, kv, ev], .int .i64 id] w (NPost env w x (condF ops x.incl name kids els id x.st)) := by
  have hm := method_Field R
  obtain ⟨w1, HW⟩ := named (w.alloc (.cells #[.int .i64 kind, .string text, .string name, .string arg, .int .i64 count, fv, kv, ev] 52)).drew
  obtain ⟨⟨⟨t, okb⟩, s'⟩, HR⟩ := named (ops.field x.st.src id name)
  have hE1 : EvI env w1 x := by rw [HW.out]; exact h.later ok.keep (upd_box w _)
  have hu1 : Upd (fun _ => False) w w1 := by rw [HW.out]; exact upd_box w _
  have e1 := h.cells.2.1
  rw [hsv] at e1
  have hst := h.steps
  have hlt := h.ltE
  have hcall := ok.field (F := x.F) (w := w1) (s := x.st.src) id name hE1.src hE1.ltB (by omega) hn
  rw [← HR.out] at hcall
  have hcnt := ok.field_cnt x.st.src id name
  rw [← HR.out] at hcnt
  have hbox : ∀ w2, Upd x.F w1 w2 → w2.cell? ⟨w.heap.size, 6, none⟩ = some kv ∧ w2.cell? ⟨w.heap.size, 7, none⟩ = some ev := by
    intro w2 hu2
    have hnf : ¬ x.F w.heap.size := fun f => by have := ok.lt h.src _ f; omega
    have hlt1 : w.heap.size < w1.heap.size := by rw [HW.out]; simp
    refine ⟨(hu2.cell (p := ⟨w.heap.size, 6, none⟩) hlt1 hnf).trans ?_, (hu2.cell (p := ⟨w.heap.size, 7, none⟩) hlt1 hnf).trans ?_⟩
    · rw [HW.out]; simp
    · rw [HW.out]; simp
  have HBX := Lib.hid hbox
  have HE := Lib.hid hE1
  have HU := Lib.hid hu1
  have HC := Lib.hid hcall
  have hst1 : ∀ F' w2, env.I F' w2 s' → Upd x.F w1 w2 → (∀ k, F' k → x.F k ∨ w1.heap.size ≤ k) →
      (∀ (l : List Node) (v : Value) (b o : Nat), ListOK ops env x.incl l → SliceOf v l.length b o → NodesAt env.mem l b o →
        Calls Tryd.prog 26 #[.pointer (some ⟨env.E, 0, none⟩), v, .int .i64 id] w2 (NPost env w x (evD ops (3 - x.incl) l id { x.st with src := s' }))) := fun F' w2 hI hU2 hF2 l v b o hl h1 h2 => by
    have := HE.out.srcStep hI hU2 hF2
    have hs : EvStep env w w2 x _ := EvStep.trans (x1 := x) ⟨HU.out.mono (fun _ f => f.elim), fun _ f => .inl f⟩ this.2
    refine (hl id v b o w2 { x with F := F', st := { x.st with src := s' } } rfl this.1 (by simp at hcnt ⊢; omega) h1 h2).mono fun e w3 hp => ?_
    exact hp.after hs rfl
  have HS := Lib.hid hst1
  clear h hE1 hu1 hcall hsv hbox hcnt hst1
  have HKI := Lib.hid hkids
  have HEL := Lib.hid hels
  have hr : condF ops x.incl name kids els id x.st = if okb && !t.data.toList.isEmpty then evD ops (3 - x.incl) kids id { x.st with src := s' } else evD ops (3 - x.incl) els id { x.st with src := s' } := by unfold condF; rw [← HR.out]
  have HRR := Lib.hid hr
  clear hr hkids hels
  cases okb
  · have HR2 : Hid (condF ops x.incl name kids els id x.st = evD ops (3 - x.incl) els id { x.st with src := s' }) := HRR
    go_enter Tryd.func47, Tryd.ntmps47
    go_wp2_with fail
    go_region_with (go_at_call 73; rw [← HW.out]; (with_reducible refine HC.out.mono ?_); rintro e w2 ⟨v, F', rfl, rfl, hI, hU2, hF2⟩)
    all_goals
      obtain ⟨c6, c7⟩ := HBX.out w2 hU2
      have hcl := HS.out _ _ hI hU2 hF2 els ev be oe HEL.out he1 he2
      rw [← HR2.out] at hcl
      have HCL := Lib.hid hcl
      clear hI hU2 hF2 hcl
      go_wp2_with fail
      refine HCL.out.mono ?_
      intro e w3 hp
      rcases hp.cases with ⟨h0, rfl⟩ | ⟨h0, rfl⟩
      · go_wp2_with fail
        go_end0
        exact hp
      · exact ⟨rfl, hp⟩
  · rcases ht : t.data.toList.isEmpty
    · have HR2 : Hid (condF ops x.incl name kids els id x.st = evD ops (3 - x.incl) kids id { x.st with src := s' }) := Lib.hid (by rw [HRR.out, ht]; rfl)
      have hte : t.toList.isEmpty = false := by rw [ByteArray.toList_eq]; exact ht
      have hte2 : (!t.toList.isEmpty) = true := by rw [hte]; rfl
      clear ht
      go_enter Tryd.func47, Tryd.ntmps47
      go_wp2_with fail
      go_region_with (go_at_call 73; rw [← HW.out]; (with_reducible refine HC.out.mono ?_); rintro e w2 ⟨v, F', rfl, rfl, hI, hU2, hF2⟩)
      all_goals
        obtain ⟨c6, c7⟩ := HBX.out w2 hU2
        have hcl := HS.out _ _ hI hU2 hF2 kids kv bk ok' HKI.out hk1 hk2
        rw [← HR2.out] at hcl
        have HCL := Lib.hid hcl
        clear hI hU2 hF2 hcl
        go_wp2_with fail
        refine HCL.out.mono ?_
        intro e w3 hp
        rcases hp.cases with ⟨h0, rfl⟩ | ⟨h0, rfl⟩
        · go_wp2_with fail
          go_end0
          exact hp
        · exact ⟨rfl, hp⟩
    · have HR2 : Hid (condF ops x.incl name kids els id x.st = evD ops (3 - x.incl) els id { x.st with src := s' }) := Lib.hid (by rw [HRR.out, ht]; rfl)
      have hte : t.toList.isEmpty = true := by rw [ByteArray.toList_eq]; exact ht
      have hte2 : (!t.toList.isEmpty) = false := by rw [hte]; rfl
      clear ht
      go_enter Tryd.func47, Tryd.ntmps47
      go_wp2_with fail
      go_region_with (go_at_call 73; rw [← HW.out]; (with_reducible refine HC.out.mono ?_); rintro e w2 ⟨v, F', rfl, rfl, hI, hU2, hF2⟩)
      all_goals
        obtain ⟨c6, c7⟩ := HBX.out w2 hU2
        have hcl := HS.out _ _ hI hU2 hF2 els ev be oe HEL.out he1 he2
        rw [← HR2.out] at hcl
        have HCL := Lib.hid hcl
        clear hI hU2 hF2 hcl
        go_wp2_with fail
        refine HCL.out.mono ?_
        intro e w3 hp
        rcases hp.cases with ⟨h0, rfl⟩ | ⟨h0, rfl⟩
        · go_wp2_with fail
          go_end0
          exact hp
        · exact ⟨rfl, hp⟩

theorem method_Include (R : Nat) (w : World) : (method 262 29 (.pointer (some ⟨R, 0, none⟩)) "Include").run Tryd.prog w = .ok (80, .pointer (some ⟨R, 0, none⟩)) w := by kernel_rfl
def incC (ops : Ops S) (c : Nat) (name : ByteArray) (id : Int) (st : St S) : Int × St S := incF ops (3 - c) name id st

set_option maxRecDepth 100000 in
set_option maxHeartbeats 1000000 in
theorem include_any {ops : Ops S} {env : Env S} {R : Nat} (ok : SrcOK 73 72 80 ops env.base env.mem (.pointer (some ⟨R, 0, none⟩)) env.I env.cnt) (hsv : env.sv = .iface 29 (.pointer (some ⟨R, 0, none⟩)))
    {w : World} {x : EvS S} (h : EvI env w x) (kind count id : Int) (text name arg : ByteArray) (fv kv ev : Value)
    (hincl : x.incl < 3 → ∀ l, ListOK ops env (x.incl + 1) l) (hn : name.size ≤ big) (hc : env.cnt x.st.src + 1 ≤ x.st.steps) :
    Calls Tryd.prog 48 #[.pointer (some ⟨env.E, 0, none⟩), .agg #[.int .i64 kind, .string text, .string name, .string arg, .int .i64 count, fv, kv, ev], .int .i64 id] w (NPost env w x (incC ops x.incl name id x.st)) := by
  have hE1 : ∀ o, EvI env (w.alloc o) x := fun o => h.later ok.keep (upd_box1 w _)
  have e1 := h.cells.2.1
  have e4 := h.cells.2.2.2.2
  rw [hsv] at e1
  have hst := h.steps
  have hlt := h.ltE
  have HE1 := Lib.hid hE1
  by_cases hin : 3 ≤ x.incl
  · have hx3 : x.incl = 3 := by have := h.inc; omega
    have hr : incC ops x.incl name id x.st = (111, x.st) := by unfold incC; rw [hx3]; rfl
    have HN : ∀ o, Hid (NPost env w x (incC ops x.incl name id x.st) (panics 111) (w.alloc o)) := fun o => by
      rw [hr]
      exact ⟨x, h.later ok.keep (upd_box1 w _), EvStep.quiet (upd_box1 w _), rfl, by omega, .inr ⟨(by show ¬ (111 : Int) = 0; omega), rfl⟩⟩
    clear hr h hE1 hx3
    go_enter Tryd.func48, Tryd.ntmps48
    go_wp2_with (go_at_call 49; (with_reducible refine (fail_any 111 _).mono ?_); rintro e w' ⟨rfl, rfl⟩)
    exact ⟨rfl, (HN _).out⟩
  · have hlt3 : x.incl < 3 := by omega
    have hm := method_Include R
    obtain ⟨w1, HW⟩ := named (w.alloc (.cells #[.int .i64 kind, .string text, .string name, .string arg, .int .i64 count, fv, kv, ev] 52)).drew
    obtain ⟨⟨⟨ns, okb⟩, s'⟩, HR⟩ := named (ops.incl x.st.src name)
    have hE1' : EvI env w1 x := by rw [HW.out]; exact h.later ok.keep (upd_box w _)
    have hu1 : Upd (fun _ => False) w w1 := by rw [HW.out]; exact upd_box w _
    have hcall := ok.incl (F := x.F) (w := w1) (s := x.st.src) name hE1'.src hE1'.ltB (by omega) hn
    rw [← HR.out] at hcall
    have hcnt := ok.incl_cnt x.st.src name
    rw [← HR.out] at hcnt
    have hr : incC ops x.incl name id x.st = if okb then evD ops (3 - (x.incl + 1)) ns id { x.st with src := s' } else (110, { x.st with src := s' }) := by
      unfold incC
      obtain ⟨d, hd⟩ : ∃ d, 3 - x.incl = d + 1 := ⟨2 - x.incl, by omega⟩
      rw [hd, show 3 - (x.incl + 1) = d by omega]
      show (if (ops.incl x.st.src name).1.2 = true then evD ops d (ops.incl x.st.src name).1.1 id { x.st with src := (ops.incl x.st.src name).2 } else (110, { x.st with src := (ops.incl x.st.src name).2 })) = _
      rw [← HR.out]
    have HRR := Lib.hid hr
    have hst1 : ∀ F' w2, env.I F' w2 s' → Upd x.F w1 w2 → (∀ k, F' k → x.F k ∨ w1.heap.size ≤ k) → ∃ x1, EvI env w2 x1 ∧ EvStep env w w2 x x1 ∧ x1.st = { x.st with src := s' } ∧ x1.incl = x.incl := fun F' w2 hI hU2 hF2 => by
      have := hE1'.srcStep hI hU2 hF2
      exact ⟨_, this.1, EvStep.trans (x1 := x) ⟨hu1.mono (fun _ f => f.elim), fun _ f => .inl f⟩ this.2, rfl, rfl⟩
    have HS := Lib.hid hst1
    have HC := Lib.hid hcall
    have HCN : env.cnt s' ≤ x.st.steps := by simp at hcnt; omega
    have HI := Lib.hid hincl
    clear h hE1 hE1' hu1 hcall hcnt hst1 hr hsv hincl
    cases okb
    · have HR2 : Hid (incC ops x.incl name id x.st = (110, { x.st with src := s' })) := HRR
      go_enter Tryd.func48, Tryd.ntmps48
      go_wp2_with fail
      go_region_with (go_at_call 80; rw [← HW.out]; (with_reducible refine HC.out.mono ?_); rintro e w2 ⟨v, F', rfl, ⟨lv, b, o, rfl, h1, h2⟩, hI, hU2, hF2⟩)
      all_goals
        obtain ⟨x1, hx1, hx2, hx3, hx4⟩ := HS.out _ _ hI hU2 hF2
        have HN : Hid (NPost env w x (incC ops x.incl name id x.st) (panics 110) w2) := by
          rw [HR2.out]
          exact ⟨x1, hx1, hx2, hx3, by rw [hx3]; exact HCN, .inr ⟨(by show ¬ (110 : Int) = 0; omega), rfl⟩⟩
        clear hx1 hx2 hx3 hx4 hI hU2 hF2 h1 h2
        go_wp2_with (go_at_call 49; (with_reducible refine (fail_any 110 _).mono ?_); rintro e w' ⟨rfl, rfl⟩)
        exact ⟨rfl, HN.out⟩
    · have HR2 : Hid (incC ops x.incl name id x.st = evD ops (3 - (x.incl + 1)) ns id { x.st with src := s' }) := HRR
      go_enter Tryd.func48, Tryd.ntmps48
      go_wp2_with fail
      go_region_with (go_at_call 80; rw [← HW.out]; (with_reducible refine HC.out.mono ?_); rintro e w2 ⟨v, F', rfl, ⟨lv, b, o, rfl, h1, h2⟩, hI, hU2, hF2⟩)
      all_goals
        obtain ⟨x1, hx1, hx2, hx3, hx4⟩ := HS.out _ _ hI hU2 hF2
        have c4 := hx1.cells.2.2.2.2
        have f4 := hx1.free 4
        rw [hx4] at c4
        have hput := hx1.setE ok.keep 4 (.int .i64 (x.incl + 1 : Nat)) { x1 with incl := x.incl + 1 } rfl rfl rfl rfl hx1.steps (by show x.incl + 1 ≤ 3; omega) rfl
        have hcl := HI.out hlt3 ns id lv b o _ { x1 with incl := x.incl + 1 } rfl hput.1 (by show env.cnt x1.st.src ≤ x1.st.steps; rw [hx3]; exact HCN) h1 h2
        have hst2 : EvStep env w (w2.setCell ⟨env.E, 4, none⟩ (.int .i64 (x.incl + 1 : Nat))) x { x1 with incl := x.incl + 1 } := hx2.trans hput.2
        have e5 : ((x.incl + 1 : Nat) : Int) = (x.incl : Int) + 1 := by omega
        have hst3 : ∀ e w3, NPost env (w2.setCell ⟨env.E, 4, none⟩ (.int .i64 (x.incl + 1 : Nat))) { x1 with incl := x.incl + 1 } (evD ops (3 - (x.incl + 1)) ns id x1.st) e w3 →
            ((evD ops (3 - (x.incl + 1)) ns id x1.st).1 ≠ 0 ∧ e = panics (evD ops (3 - (x.incl + 1)) ns id x1.st).1 ∧ NPost env w x (incC ops x.incl name id x.st) e w3) ∨
            (e = .returned (.tuple #[]) ∧ w3.cell? ⟨env.E, 4, none⟩ = some (.int .i64 (x.incl + 1 : Nat)) ∧ w3.frozen? ⟨env.E, 4, none⟩ = false ∧ NPost env w x (incC ops x.incl name id x.st) e (w3.setCell ⟨env.E, 4, none⟩ (.int .i64 x.incl))) := by
          rintro e w3 ⟨x2, g1, g2, g3, g4, g5⟩
          have hsteps := hst2.trans g2
          rcases g5 with ⟨g5, g6, g7⟩ | ⟨g5, g6⟩
          · right
            have hc4 := g1.cells.2.2.2.2
            rw [g7] at hc4
            have hp2 := g1.setE ok.keep 4 (.int .i64 x.incl) { x2 with incl := x.incl } rfl rfl rfl rfl g1.steps (by show x.incl ≤ 3; omega) rfl
            refine ⟨g6, hc4, g1.free 4, ?_⟩
            rw [HR2.out, ← hx3]
            exact ⟨_, hp2.1, hsteps.trans hp2.2, g3, g4, .inl ⟨g5, g6, rfl⟩⟩
          · left
            refine ⟨g5, g6, ?_⟩
            rw [HR2.out, ← hx3]
            exact ⟨x2, g1, hsteps, g3, g4, .inr ⟨g5, g6⟩⟩
        rw [e5] at hcl hst3
        have HCL := Lib.hid hcl
        have HS3 := Lib.hid hst3
        clear hx1 hx2 hx3 hx4 hI hU2 hF2 h1 h2 hput hcl hst2 hst3 e5
        go_wp2_with fail
        refine HCL.out.mono ?_
        intro e w3 hp
        rcases HS3.out e w3 hp with ⟨_, rfl, hf⟩ | ⟨rfl, c5, f5, hf⟩
        · exact ⟨rfl, hf⟩
        · have HF := Lib.hid hf
          clear hf hp
          go_wp2_with fail
          go_end0
          exact HF.out
end
end Go.Proofs.YtlkaikopjjmneaaDoor

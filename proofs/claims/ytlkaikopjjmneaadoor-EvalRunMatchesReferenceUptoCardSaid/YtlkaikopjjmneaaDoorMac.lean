/-
  WHAT IS PROVED HERE: the reference's machine in memory: its methods put, field, include, one, all, and the reference's Run. Conditions: those that the source keeps; the list that the source hands back lies in memory of its own.
-/
import Derived.Test.YtlkaikopjjmneaaDoorFrx
import Derived.Test.YtlkaikopjjmneaaDoorCat
import Derived.Deep.RegionWith
import Derived.Deep.RegionHeld3
import Derived.Test.YtlkaikopjjmneaaDoorRec6
import Derived.Test.YtlkaikopjjmneaaDoorRun7
namespace Go.Proofs.YtlkaikopjjmneaaDoor
open Go.RowKit
/-! Mch -/

structure MEnv (S : Type) where
  base : Nat
  mem : Addr → Option Value
  I : (Nat → Prop) → World → S → Prop
  cnt : S → Nat
  R : Nat
  M : Nat
section
variable {S : Type}
def mCells (R steps : Nat) (out : List UInt8) (e : Int) : Array Value := #[.pointer (some ⟨R, 0, none⟩), .int .i64 steps, .string (bs out), .int .i64 e]
structure MI (env : MEnv S) (F : Nat → Prop) (w : World) (st : St S) (e : Int) : Prop where
  ev : w.heap[env.M]? = some (.cells (mCells env.R st.steps st.out e) 83 (0, 0))
  src : env.I F w st.src
  notF : ¬ F env.M
  ord : env.base ≤ env.M
  sees : Sees env.mem w
  memF : ∀ a v, env.mem a = some v → a.block < env.base ∧ ¬ F a.block
  out : st.out.length ≤ 8192
  steps : st.steps ≤ 2000
  cnt : env.cnt st.src ≤ st.steps
def MFoot (env : MEnv S) (F : Nat → Prop) : Nat → Prop := fun k => k = env.M ∨ F k
structure MStep (env : MEnv S) (w : World) (F : Nat → Prop) (w1 : World) (F1 : Nat → Prop) : Prop where
  upd : Upd (MFoot env F) w w1
  foot : ∀ k, MFoot env F1 k → MFoot env F k ∨ w.heap.size ≤ k
def MPost (env : MEnv S) (w : World) (F : Nat → Prop) (res : Int × St S) (e : Ending) (w' : World) : Prop := e = .returned (.tuple #[]) ∧ ∃ F', MI env F' w' res.2 res.1 ∧ MStep env w F w' F'
variable {env : MEnv S} {F F1 F2 : Nat → Prop} {w w1 w2 : World} {st st1 : St S} {e : Int}
theorem MStep.refl : MStep env w F w F := ⟨Upd.refl _ _, fun _ h => .inl h⟩
theorem MStep.trans (h : MStep env w F w1 F1) (k : MStep env w1 F1 w2 F2) : MStep env w F w2 F2 :=
  ⟨h.upd.trans k.upd h.foot, fun i hi => (k.foot i hi).elim (h.foot i) (fun hh => .inr (Nat.le_trans h.upd.size hh))⟩
theorem MStep.quiet (hu : Upd (fun _ => False) w w1) : MStep env w F w1 F := ⟨hu.mono (fun _ f => f.elim), fun _ h => .inl h⟩
theorem MPost.after {res : Int × St S} {en : Ending} {w' : World} (hs : MStep env w F w1 F1) (h : MPost env w1 F1 res en w') : MPost env w F res en w' := by
  obtain ⟨rfl, F', h1, h2⟩ := h
  exact ⟨rfl, F', h1, hs.trans h2⟩
theorem MI.ltM (h : MI env F w st e) : env.M < w.heap.size := blk_lt h.ev
theorem MI.ltB (h : MI env F w st e) : env.base ≤ w.heap.size := by have := h.ltM; have := h.ord; omega
theorem MI.later (keep : ∀ {F G w w' s}, env.I F w s → Upd G w w' → (∀ k, G k → env.base ≤ k ∧ ¬ F k) → env.I F w' s) (h : MI env F w st e) (hu : Upd (fun _ => False) w w1) : MI env F w1 st e :=
  ⟨(hu.block _ h.ltM (fun f => f)).trans h.ev, keep h.src hu (fun _ f => f.elim), h.notF, h.ord, h.sees.upd hu (fun _ _ _ f => f), h.memF, h.out, h.steps, h.cnt⟩
theorem MI.srcStep {s' : S} (h : MI env F w st e) (hI : env.I F1 w1 s') (hu : Upd F w w1) (hF : ∀ k, F1 k → F k ∨ w.heap.size ≤ k) (hc : env.cnt s' ≤ st.steps) :
    MI env F1 w1 { st with src := s' } e ∧ MStep env w F w1 F1 := by
  have hM := h.ltM
  have hB := h.ltB
  refine ⟨⟨(hu.block _ hM h.notF).trans h.ev, hI, fun f => ?_, h.ord, h.sees.upd hu (fun a v hv f => (h.memF a v hv).2 f), fun a v hv => ⟨(h.memF a v hv).1, fun f => ?_⟩, h.out, h.steps, hc⟩, hu.mono (fun k f => .inl (.inr f)), fun k f => ?_⟩
  · rcases hF _ f with f | f
    · exact h.notF f
    · omega
  · rcases hF _ f with f | f
    · exact (h.memF a v hv).2 f
    · have := (h.memF a v hv).1; omega
  · rcases f with f | f
    · exact .inl (.inl f)
    · exact (hF _ f).imp (fun f => .inr f) (fun f => f)
/-- a store into the machine's own block -/
theorem MI.store (keep : ∀ {F G w w' s}, env.I F w s → Upd G w w' → (∀ k, G k → env.base ≤ k ∧ ¬ F k) → env.I F w' s) (h : MI env F w st e) (j : Nat) (v : Value) (st1 : St S) (e1 : Int) (hsrc : st1.src = st.src) (hv : (mCells env.R st.steps st.out e).set! j v = mCells env.R st1.steps st1.out e1)
    (ho : st1.out.length ≤ 8192) (hs : st1.steps ≤ 2000) (hc : env.cnt st.src ≤ st1.steps) : MI env F (w.setCell ⟨env.M, j, none⟩ v) st1 e1 ∧ MStep env w F (w.setCell ⟨env.M, j, none⟩ v) F := by
  have hu : Upd (fun k => k = env.M) w (w.setCell ⟨env.M, j, none⟩ v) := (Upd.refl (fun k => k = env.M) w).setCell (p := ⟨env.M, j, none⟩) (.inl rfl) v
  refine ⟨⟨?_, ?_, h.notF, h.ord, h.sees.upd hu (fun a v hv f => ?_), h.memF, ho, hs, by rw [hsrc]; exact hc⟩, hu.mono (fun k f => .inl (.inl f)), fun k f => .inl f⟩
  · rw [heap_setCell_same w env.M j _ _ v h.ev, ← hv]; rfl
  · rw [hsrc]; exact keep h.src hu (fun k f => ⟨by rw [f]; exact h.ord, by rw [f]; exact h.notF⟩)
  · have := (h.memF a v hv).1; have := h.ord; omega
theorem MI.cells (h : MI env F w st e) : w.cell? ⟨env.M, 0, none⟩ = some (.pointer (some ⟨env.R, 0, none⟩)) ∧ w.cell? ⟨env.M, 1, none⟩ = some (.int .i64 st.steps) ∧ w.cell? ⟨env.M, 2, none⟩ = some (.string (bs st.out)) ∧ w.cell? ⟨env.M, 3, none⟩ = some (.int .i64 e) :=
  ⟨blk_cell h.ev 0, blk_cell h.ev 1, blk_cell h.ev 2, blk_cell h.ev 3⟩
theorem MI.free (h : MI env F w st e) (j : Nat) : w.frozen? ⟨env.M, j, none⟩ = false := blk_free h.ev j
/-- an error is stored -/
theorem MI.fail (keep : ∀ {F G w w' s}, env.I F w s → Upd G w w' → (∀ k, G k → env.base ≤ k ∧ ¬ F k) → env.I F w' s) (h : MI env F w st e) (e1 : Int) : MPost env w F (e1, st) (.returned (.tuple #[])) (w.setCell ⟨env.M, 3, none⟩ (.int .i64 e1)) := by
  have := h.store keep 3 (.int .i64 e1) st e1 rfl rfl h.out h.steps h.cnt
  exact ⟨rfl, F, this.1, this.2⟩
set_option maxHeartbeats 400000 in
theorem put_m (keep : ∀ {F G w w' s}, env.I F w s → Upd G w w' → (∀ k, G k → env.base ≤ k ∧ ¬ F k) → env.I F w' s) (h : MI env F w st 0) (s : ByteArray) (hs : s.size ≤ 1099511627776) :
    Calls Tryd.prog 70 #[.pointer (some ⟨env.M, 0, none⟩), .string s] w (MPost env w F (putF s.data.toList st)) := by
  obtain ⟨c0, c1, c2, c3⟩ := h.cells
  have f2 := h.free 2
  have f3 := h.free 3
  have ho := h.out
  have hz : (bs st.out).size = st.out.length := bs_size _
  by_cases hlt : 8192 < st.out.length + s.size
  · have hp : putF s.data.toList st = (111, st) := by unfold putF; rw [size_list, if_pos hlt]
    have HF := Lib.hid (h.fail keep 111)
    rw [hp]
    clear hp h
    have hz2 : 8192 < (bs st.out).size + s.size := by omega
    have hz3 : (bs st.out).size ≤ 8192 := by omega
    generalize bs st.out = O at *
    clear hz
    go_enter Tryd.func70, Tryd.ntmps70
    go_wp2
    go_end0
    exact HF.out
  · have hp : putF s.data.toList st = (0, { st with out := st.out ++ s.data.toList }) := by unfold putF; rw [size_list, if_neg hlt]
    have e : bs st.out ++ s = bs (st.out ++ s.data.toList) := by rw [bs_append, bs_of]
    have hstore := h.store keep 2 (.string (bs (st.out ++ s.data.toList))) { st with out := st.out ++ s.data.toList } 0 rfl rfl (by show (st.out ++ s.data.toList).length ≤ 8192; rw [List.length_append, size_list]; omega) h.steps h.cnt
    have HF : Hid (MPost env w F (0, { st with out := st.out ++ s.data.toList }) (.returned (.tuple #[])) (w.setCell ⟨env.M, 2, none⟩ (.string (bs st.out ++ s)))) := Lib.hid (by rw [e]; exact ⟨rfl, F, hstore.1, hstore.2⟩)
    clear e
    rw [hp]
    clear hp h hstore
    have hz2 : ¬ 8192 < (bs st.out).size + s.size := by omega
    have hz3 : (bs st.out).size ≤ 8192 := by omega
    generalize bs st.out = O at *
    clear hz
    go_enter Tryd.func70, Tryd.ntmps70
    go_wp2
    go_end0
    exact HF.out
end
/-! Mcf -/
section
variable {S : Type} {ops : Ops S} {env : MEnv S} {F : Nat → Prop} {w : World} {st : St S}
theorem rflt_someB {nm c : ByteArray} {r : List UInt8} (h : filterF nm c = some r) (hs : c.size ≤ 1099511627776) (w : World) : Calls Tryd.prog 21 #[.string nm, .string c] w fun e w' => e = .returned (.tuple #[.string (bs r), .bool true]) ∧ Upd (fun _ => False) w w' :=
  (ref_filter nm c hs w).mono fun e w' ⟨h1, h2⟩ => ⟨by rw [h1, h]; rfl, Upd.of_below0 h2⟩
theorem rflt_noneB {nm c : ByteArray} (h : filterF nm c = none) (hs : c.size ≤ 1099511627776) (w : World) : Calls Tryd.prog 21 #[.string nm, .string c] w fun e w' => e = .returned (.tuple #[.string ⟨#[]⟩, .bool false]) ∧ Upd (fun _ => False) w w' :=
  (ref_filter nm c hs w).mono fun e w' ⟨h1, h2⟩ => ⟨by rw [h1, h]; rfl, Upd.of_below0 h2⟩
set_option maxRecDepth 100000 in
set_option maxHeartbeats 1000000 in
theorem field_m (ok : SrcOK 73 72 80 ops env.base env.mem (.pointer (some ⟨env.R, 0, none⟩)) env.I env.cnt) (h : MI env F w st 0) (kind count id : Int) (text name arg : ByteArray) (fv kv ev : Value) (filters : List ByteArray) (b o : Nat)
    (hfl : filters.length ≤ 2097152) (hf1 : SliceOf fv filters.length b o) (hf2 : StrsAt env.mem filters b o) (hn : name.size ≤ big) (hc : env.cnt st.src + 1 ≤ st.steps) :
    Calls Tryd.prog 71 #[.pointer (some ⟨env.M, 0, none⟩), .agg #[.int .i64 kind, .string text, .string name, .string arg, .int .i64 count, fv, kv, ev], .int .i64 id] w (MPost env w F (fieldF ops name filters id st)) := by
  obtain ⟨ao, capf, rfl, hao, hfbig, _⟩ := hf1.shape
  obtain ⟨w1, HW⟩ := named (w.alloc (.cells #[.int .i64 kind, .string text, .string name, .string arg, .int .i64 count, .slice ao filters.length capf, kv, ev] 52)).drew
  obtain ⟨⟨⟨t, okb⟩, s'⟩, HR⟩ := named (ops.field st.src id name)
  have hE1 : MI env F w1 st 0 := by rw [HW.out]; exact h.later ok.keep (upd_box w _)
  have hu1 : Upd (fun _ => False) w w1 := by rw [HW.out]; exact upd_box w _
  have hst := h.steps
  have hcall := ok.field (F := F) (w := w1) (s := st.src) id name hE1.src hE1.ltB (by omega) hn
  rw [← HR.out] at hcall
  have hcnt := ok.field_cnt st.src id name
  rw [← HR.out] at hcnt
  have hlen := ok.field_len st.src id name
  rw [← HR.out] at hlen
  have hcl := h.cells.1
  have hlM := h.ltM
  have hbox : ∀ w2, Upd F w1 w2 → w2.cell? ⟨w.heap.size, 5, none⟩ = some (.slice ao filters.length capf) := by
    intro w2 hu2
    refine (hu2.cell (p := ⟨w.heap.size, 5, none⟩) ?_ ?_).trans ?_
    · rw [HW.out]; simp
    · intro f; have := ok.lt h.src _ f; simp at this
    · rw [HW.out]; simp
  have hstep : ∀ F' w2, env.I F' w2 s' → Upd F w1 w2 → (∀ k, F' k → F k ∨ w1.heap.size ≤ k) → MI env F' w2 { st with src := s' } 0 ∧ MStep env w F w2 F' := fun F' w2 hI hU2 hF2 => by
    have := hE1.srcStep hI hU2 hF2 (by simp at hcnt; omega)
    exact ⟨this.1, (MStep.quiet hu1).trans this.2⟩
  have HBX := Lib.hid hbox
  have HS := Lib.hid hstep
  have HC := Lib.hid hcall
  have HLN := Lib.hid hlen
  clear h hE1 hu1 hcall hcnt hlen hbox hstep
  cases okb
  · have hr : fieldF ops name filters id st = (110, { st with src := s' }) := by unfold fieldF; rw [← HR.out]; rfl
    rw [hr]
    clear hr
    go_enter Tryd.func71, Tryd.ntmps71
    go_wp2_with fail
    go_region_with (go_at_call 73; rw [← HW.out]; (with_reducible refine HC.out.mono ?_); rintro e w2 ⟨v, F', rfl, rfl, hI, hU2, hF2⟩)
    all_goals
      obtain ⟨hx1, hx2⟩ := HS.out _ _ hI hU2 hF2
      have HN := Lib.hid ((hx1.fail ok.keep 110).after hx2)
      obtain ⟨m0, m1, m2, m3⟩ := hx1.cells
      have g3 := hx1.free 3
      have c5 := HBX.out w2 hU2
      have hM2 := hx1.ltM
      clear hx1 hx2 hI hU2 hF2
      go_wp2_with fail
      go_loopw [6, 7, 8] (fun sv okv i wr => sv = .string t ∧ okv = .bool false ∧ i = .int .i64 0 ∧ w2 = wr) (fun _ _ i _ => 0)
      case atStart => exact ⟨rfl, rfl, rfl, rfl⟩
      case round =>
        obtain ⟨rfl, rfl, rfl, rfl⟩ := hrel
        go_wp2_with fail
        go_end0
        exact HN.out
  · have hr : fieldF ops name filters id st = match runFilters filters t with | some s => putF s.data.toList { st with src := s' } | none => (110, { st with src := s' }) := by unfold fieldF; rw [← HR.out]; rfl
    have HRR := Lib.hid hr
    clear hr
    go_enter Tryd.func71, Tryd.ntmps71
    go_wp2_with fail
    go_region_with (go_at_call 73; rw [← HW.out]; (with_reducible refine HC.out.mono ?_); rintro e w2 ⟨v, F', rfl, rfl, hI, hU2, hF2⟩)
    all_goals
      have hx := HS.out _ _ hI hU2 hF2
      have HX := Lib.hid hx
      have hltw := Upd.size hU2
      have c5 := HBX.out w2 hU2
      have hw5 := World.block_lt_of_cell? w2 _ c5
      clear hx hI hU2 hF2
      go_wp2_with fail
      go_loopw [6, 7, 8] (fun sv okv i wr => ∃ (k : Nat) (cur : ByteArray) (o' : Bool), k ≤ filters.length ∧ i = .int .i64 k ∧ sv = .string cur ∧ okv = .bool o' ∧ Hid ((o' = true ∧ runFilters filters t = runFilters (filters.drop k) cur ∧ cur.size ≤ 500 + 2520 * k ∧ sp cur.data.toList ≤ 500) ∨ (o' = false ∧ runFilters filters t = none)) ∧ Upd (fun _ => False) w2 wr) (fun _ _ i _ => filters.length - (intOf i).toNat)
      case atStart => exact ⟨0, t, true, Nat.zero_le _, rfl, rfl, rfl, Lib.hid (.inl ⟨rfl, rfl, by have h1 : t.size ≤ 500 := HLN.out; omega, by have h1 : t.size ≤ 500 := HLN.out; have h2 := sp_le t.data.toList; rw [size_list] at h2; omega⟩), Upd.refl _ _⟩
      case round =>
        obtain ⟨k, cur, o', hk, rfl, rfl, rfl, HQ, huw⟩ := hrel
        have hEw : MI env F' wr { st with src := s' } 0 := HX.out.1.later ok.keep huw
        have c5r := huw.cell_some c5 (fun f => f)
        rcases HQ.out with ⟨rfl, hq1, hq2, hq3⟩ | ⟨rfl, hq1⟩
        · have hcs2 : cur.size ≤ 1099511627776 := by omega
          by_cases hlt2 : k < filters.length
          · have hmem := hf2.get k hlt2
            have hrd := hEw.sees _ _ hmem.1
            have hao2 := hao (by omega)
            subst hao2
            have hq := runFilters_drop filters k hlt2 cur
            have HQ2 := Lib.hid hq
            have HQ1 := Lib.hid hq1
            generalize filters[k] = fname at *
            clear hmem hq hEw hao hq1
            rcases hres : filterF fname cur with _ | r
            · have HRS := Lib.hid hres
              have HFN : Hid (runFilters filters t = none) := Lib.hid (by rw [HQ1.out, HQ2.out, hres])
              clear hres
              go_wp2_with (go_at_call 21; (refine (rflt_noneB HRS.out hcs2 _).mono ?_); rintro e w3 ⟨rfl, hu3⟩)
              go_roundw
              case rel => exact ⟨k + 1, ⟨#[]⟩, false, by omega, by go_num, rfl, rfl, Lib.hid (.inr ⟨rfl, HFN.out⟩), huw.trans hu3 (fun _ f => .inl f)⟩
              case measure => simp [intOf]; omega
            · have HRS := Lib.hid hres
              have hgr := filter_grow fname cur r hcs2 hres
              have HFN : Hid (runFilters filters t = runFilters (filters.drop (k + 1)) (bs r)) := Lib.hid (by rw [HQ1.out, HQ2.out, hres])
              have HGR := Lib.hid hgr
              clear hres hgr
              go_wp2_with (go_at_call 21; (refine (rflt_someB HRS.out hcs2 _).mono ?_); rintro e w3 ⟨rfl, hu3⟩)
              go_roundw
              case rel => exact ⟨k + 1, bs r, true, by omega, by go_num, rfl, rfl, Lib.hid (.inl ⟨rfl, HFN.out, by rw [bs_size]; have := HGR.out; omega, by rw [bs_list]; have := HGR.out; omega⟩), huw.trans hu3 (fun _ f => .inl f)⟩
              case measure => simp [intOf]; omega
          · have hke : k = filters.length := by omega
            have HQ4 : Hid (runFilters filters t = some cur) := Lib.hid (by rw [hq1, hke, List.drop_length]; rfl)
            have hput := put_m ok.keep hEw cur hcs2
            have HPU := Lib.hid hput
            have HN : Hid (∀ e w3, MPost env wr F' (putF cur.data.toList { st with src := s' }) e w3 → MPost env w F (fieldF ops name filters id st) e w3) := Lib.hid (fun e w3 hp => by
              rw [HRR.out, HQ4.out]
              exact hp.after (HX.out.2.trans (MStep.quiet huw)))
            clear hEw hput hq1 hq2 hq3
            go_wp2_with (go_at_call 70; refine HPU.out.mono ?_; rintro e w3 ⟨rfl, hp2⟩)
            go_end0
            exact HN.out _ _ ⟨rfl, hp2⟩
        · have HN : Hid (MPost env w F (fieldF ops name filters id st) (.returned (.tuple #[])) (wr.setCell ⟨env.M, 3, none⟩ (.int .i64 110))) := Lib.hid (by
            rw [HRR.out, hq1]
            exact (hEw.fail ok.keep 110).after (HX.out.2.trans (MStep.quiet huw)))
          obtain ⟨m0, m1, m2, m3⟩ := hEw.cells
          have g3 := hEw.free 3
          have hM2 := hEw.ltM
          clear hEw hq1
          go_wp2_with fail
          go_end0
          exact HN.out
end
/-! Mci -/
section
variable {S : Type} {ops : Ops S} {env : MEnv S} {F : Nat → Prop} {w : World} {st : St S}
def AllOK (ops : Ops S) (env : MEnv S) (c : Nat) (l : List Node) : Prop :=
  ∀ (F : Nat → Prop) (w : World) (st : St S) (id : Int) (v : Value) (b o : Nat), MI env F w st 0 → SliceOf v l.length b o → NodesAt env.mem l b o → Calls Tryd.prog 27 #[.pointer (some ⟨env.M, 0, none⟩), v, .int .i64 id, .int .i64 c] w (MPost env w F (evD ops (3 - c) l id st))
theorem MPost.later {res : Int × St S} {en : Ending} {w' w2 : World} (keep : ∀ {F G w w' s}, env.I F w s → Upd G w w' → (∀ k, G k → env.base ≤ k ∧ ¬ F k) → env.I F w' s) (h : MPost env w F res en w') (hu : Upd (fun _ => False) w' w2) : MPost env w F res en w2 := by
  obtain ⟨rfl, F', h1, h2⟩ := h
  exact ⟨rfl, F', h1.later keep hu, h2.trans (MStep.quiet hu)⟩
set_option maxRecDepth 100000 in
set_option maxHeartbeats 1000000 in
theorem include_m (ok : SrcOK 73 72 80 ops env.base env.mem (.pointer (some ⟨env.R, 0, none⟩)) env.I env.cnt) (c : Nat) (hc3 : c ≤ 3) (hall : c < 3 → ∀ l, AllOK ops env (c + 1) l) (h : MI env F w st 0) (kind count id : Int) (text name arg : ByteArray) (fv kv ev : Value)
    (hn : name.size ≤ big) (hc : env.cnt st.src + 1 ≤ st.steps) :
    Calls Tryd.prog 74 #[.pointer (some ⟨env.M, 0, none⟩), .agg #[.int .i64 kind, .string text, .string name, .string arg, .int .i64 count, fv, kv, ev], .int .i64 id, .int .i64 c] w (MPost env w F (incF ops (3 - c) name id st)) := by
  obtain ⟨w1, HW⟩ := named (w.alloc (.cells #[.int .i64 kind, .string text, .string name, .string arg, .int .i64 count, fv, kv, ev] 52)).drew
  have hu1 : Upd (fun _ => False) w w1 := by rw [HW.out]; exact upd_box w _
  by_cases h3 : c = 3
  · subst h3
    have HN : Hid (MPost env w F (incF ops (3 - 3) name id st) (.returned (.tuple #[])) ((w.setCell ⟨env.M, 3, none⟩ (.int .i64 111)).alloc (.cells #[.int .i64 kind, .string text, .string name, .string arg, .int .i64 count, fv, kv, ev] 52))) := Lib.hid ((h.fail ok.keep 111).later ok.keep (upd_box1 _ _))
    obtain ⟨m0, m1, m2, m3⟩ := h.cells
    have g3 := h.free 3
    have hM2 := h.ltM
    clear h hu1
    go_enter Tryd.func74, Tryd.ntmps74
    go_wp2_with fail
    go_end0
    exact HN.out
  · have hlt : c < 3 := by omega
    obtain ⟨⟨⟨l, okb⟩, s'⟩, HR⟩ := named (ops.incl st.src name)
    have hE1 : MI env F w1 st 0 := by rw [HW.out]; exact h.later ok.keep (upd_box w _)
    have hst := h.steps
    have hcall := ok.incl (F := F) (w := w1) (s := st.src) name hE1.src hE1.ltB (by omega) hn
    rw [← HR.out] at hcall
    have hcnt := ok.incl_cnt st.src name
    rw [← HR.out] at hcnt
    have hcl := h.cells.1
    have hlM := h.ltM
    have hstep : ∀ F' w2, env.I F' w2 s' → Upd F w1 w2 → (∀ k, F' k → F k ∨ w1.heap.size ≤ k) → MI env F' w2 { st with src := s' } 0 ∧ MStep env w F w2 F' := fun F' w2 hI hU2 hF2 => by
      have := hE1.srcStep hI hU2 hF2 (by simp at hcnt; omega)
      exact ⟨this.1, (MStep.quiet hu1).trans this.2⟩
    have hr : incF ops (3 - c) name id st = if okb then evD ops (3 - (c + 1)) l id { st with src := s' } else (110, { st with src := s' }) := by
      have e : ∀ d, incF ops (d + 1) name id st = if (ops.incl st.src name).1.2 then evD ops d (ops.incl st.src name).1.1 id { st with src := (ops.incl st.src name).2 } else (110, { st with src := (ops.incl st.src name).2 }) := fun d => rfl
      rw [show 3 - c = (3 - (c + 1)) + 1 by omega, e, ← HR.out]
    have HS := Lib.hid hstep
    have HC := Lib.hid hcall
    have HRR := Lib.hid hr
    have HALL := Lib.hid (hall hlt)
    have hc3i : ¬ (3 : Int) ≤ (c : Int) := by omega
    clear h hE1 hu1 hcall hcnt hstep hr h3 hall
    cases okb
    · go_enter Tryd.func74, Tryd.ntmps74
      go_wp2_with fail
      go_region_with (go_at_call 80; rw [← HW.out]; (with_reducible refine HC.out.mono ?_); rintro e w2 ⟨v, F', rfl, ⟨lv, b, o, rfl, h1, h2⟩, hI, hU2, hF2⟩)
      all_goals
        obtain ⟨hx1, hx2⟩ := HS.out _ _ hI hU2 hF2
        have HN : Hid (MPost env w F (incF ops (3 - c) name id st) (.returned (.tuple #[])) (w2.setCell ⟨env.M, 3, none⟩ (.int .i64 110))) := Lib.hid (by rw [HRR.out]; exact (hx1.fail ok.keep 110).after hx2)
        obtain ⟨m0, m1, m2, m3⟩ := hx1.cells
        have g3 := hx1.free 3
        have hM2 := hx1.ltM
        obtain ⟨la, lcap, rfl, _, _, _⟩ := h1.shape
        clear hx1 hx2 hI hU2 hF2 h1 h2
        go_wp2_with fail
        go_end0
        exact HN.out
    · go_enter Tryd.func74, Tryd.ntmps74
      go_wp2_with fail
      go_region_with (go_at_call 80; rw [← HW.out]; (with_reducible refine HC.out.mono ?_); rintro e w2 ⟨v, F', rfl, ⟨lv, b, o, rfl, h1, h2⟩, hI, hU2, hF2⟩)
      all_goals
        obtain ⟨hx1, hx2⟩ := HS.out _ _ hI hU2 hF2
        obtain ⟨la, lcap, rfl, _, _, _⟩ := h1.shape
        have HCA := Lib.hid (show Calls Tryd.prog 27 #[.pointer (some ⟨env.M, 0, none⟩), .slice la l.length lcap, .int .i64 id, .int .i64 ((c : Int) + 1)] w2 (MPost env w2 F' (evD ops (3 - (c + 1)) l id { st with src := s' })) from HALL.out l F' w2 { st with src := s' } id _ b o hx1 h1 h2)
        have HX2 := Lib.hid hx2
        clear hx1 hx2 hI hU2 hF2 h1 h2
        go_wp2_with (go_at_call 27; refine HCA.out.mono ?_; rintro e w3 ⟨rfl, hp2⟩)
        go_end0
        rw [HRR.out]
        exact MPost.after HX2.out ⟨rfl, hp2⟩
end
/-! Mco -/
section
variable {S : Type} {ops : Ops S} {env : MEnv S} {F : Nat → Prop} {w : World} {st : St S}
def oneF (ops : Ops S) (c : Nat) (n : Node) (id : Int) (st : St S) : Int × St S := if 2000 ≤ st.steps then (111, st) else evNode ops (incF ops (3 - c)) n id { st with steps := st.steps + 1 }
theorem one_set (keep : ∀ {F G w w' s}, env.I F w s → Upd G w w' → (∀ k, G k → env.base ≤ k ∧ ¬ F k) → env.I F w' s) (lt : ∀ {F w s}, env.I F w s → ∀ k, F k → k < w.heap.size) (h : MI env F w st 0) (hs : ¬ 2000 ≤ st.steps) (nc : Array Value) :
    MI env F ((w.setCell ⟨env.M, 1, none⟩ (.int .i64 ((st.steps : Int) + 1))).alloc (.cells nc 52)) { st with steps := st.steps + 1 } 0 ∧
    MStep env w F ((w.setCell ⟨env.M, 1, none⟩ (.int .i64 ((st.steps : Int) + 1))).alloc (.cells nc 52)) F ∧
    (∀ j, ((w.setCell ⟨env.M, 1, none⟩ (.int .i64 ((st.steps : Int) + 1))).alloc (.cells nc 52)).cell? ⟨w.heap.size, j, none⟩ = nc[j]?) ∧
    ¬ F w.heap.size ∧ w.heap.size ≠ env.M ∧ ((w.setCell ⟨env.M, 1, none⟩ (.int .i64 ((st.steps : Int) + 1))).alloc (.cells nc 52)).heap.size = w.heap.size + 1 := by
  have h1 := h.store keep 1 (.int .i64 ((st.steps : Int) + 1)) { st with steps := st.steps + 1 } 0 rfl rfl h.out (by show st.steps + 1 ≤ 2000; omega) (by show env.cnt st.src ≤ st.steps + 1; have := h.cnt; omega)
  refine ⟨h1.1.later keep (upd_box1 _ _), h1.2.trans (MStep.quiet (upd_box1 _ _)), fun j => World.cell?_alloc_at _ _ _ _ (by simp), fun f => by have := lt h.src _ f; omega, by have := h.ltM; omega, by simp⟩
theorem mi_drew (keep : ∀ {F G w w' s}, env.I F w s → Upd G w w' → (∀ k, G k → env.base ≤ k ∧ ¬ F k) → env.I F w' s) {e : Int} (h : MI env F w st e) : MI env F w.drew st e := h.later keep ((Upd.refl _ w).drew)
theorem ms_drew : MStep env w F w.drew F := MStep.quiet ((Upd.refl _ w).drew)

set_option maxRecDepth 100000 in
set_option maxHeartbeats 1000000 in
theorem one_full (ok : SrcOK 73 72 80 ops env.base env.mem (.pointer (some ⟨env.R, 0, none⟩)) env.I env.cnt) (c : Nat) (h : MI env F w st 0) (hs : 2000 ≤ st.steps) (kind count id : Int) (text name arg : ByteArray) (fv kv ev : Value) (filters : List ByteArray) (kids els : List Node) :
    Calls Tryd.prog 50 #[.pointer (some ⟨env.M, 0, none⟩), .agg #[.int .i64 kind, .string text, .string name, .string arg, .int .i64 count, fv, kv, ev], .int .i64 id, .int .i64 c] w (MPost env w F (oneF ops c (.mk kind text name arg count filters kids els) id st)) := by
  have hr : oneF ops c (.mk kind text name arg count filters kids els) id st = (111, st) := by unfold oneF; rw [if_pos hs]
  rw [hr]
  have HN : Hid (MPost env w F (111, st) (.returned (.tuple #[])) ((w.setCell ⟨env.M, 3, none⟩ (.int .i64 111)).alloc (.cells #[.int .i64 kind, .string text, .string name, .string arg, .int .i64 count, fv, kv, ev] 52))) := Lib.hid ((h.fail ok.keep 111).later ok.keep (upd_box1 _ _))
  obtain ⟨m0, m1, m2, m3⟩ := h.cells
  have g3 := h.free 3
  have hM2 := h.ltM
  have hst := h.steps
  have hsi : (2000 : Int) ≤ (st.steps : Int) := by omega
  clear h hr
  go_enter Tryd.func50, Tryd.ntmps50
  go_wp2_with fail
  go_end0
  exact HN.out

set_option maxRecDepth 100000 in
set_option maxHeartbeats 1000000 in
theorem one_lit (ok : SrcOK 73 72 80 ops env.base env.mem (.pointer (some ⟨env.R, 0, none⟩)) env.I env.cnt) (c : Nat) (h : MI env F w st 0) (hs : ¬ 2000 ≤ st.steps) (count id : Int) (text name arg : ByteArray) (fv kv ev : Value) (filters : List ByteArray) (kids els : List Node) (ht : text.size ≤ 1099511627776) :
    Calls Tryd.prog 50 #[.pointer (some ⟨env.M, 0, none⟩), .agg #[.int .i64 1, .string text, .string name, .string arg, .int .i64 count, fv, kv, ev], .int .i64 id, .int .i64 c] w (MPost env w F (oneF ops c (.mk 1 text name arg count filters kids els) id st)) := by
  have hr : oneF ops c (.mk 1 text name arg count filters kids els) id st = putF text.data.toList { st with steps := st.steps + 1 } := by unfold oneF; rw [if_neg hs, evNode, if_pos rfl]
  obtain ⟨hx1, hx2, _, _, _, _⟩ := one_set ok.keep ok.lt h hs #[.int .i64 1, .string text, .string name, .string arg, .int .i64 count, fv, kv, ev]
  obtain ⟨W1, HW⟩ := named ((w.setCell ⟨env.M, 1, none⟩ (.int .i64 ((st.steps : Int) + 1))).alloc (.cells #[.int .i64 1, .string text, .string name, .string arg, .int .i64 count, fv, kv, ev] 52))
  rw [← HW.out] at hx1 hx2
  have hp := put_m ok.keep hx1 text ht
  have HP := Lib.hid hp
  have HX := Lib.hid hx2
  rw [hr]
  obtain ⟨m0, m1, m2, m3⟩ := h.cells
  have g1 := h.free 1
  have hM2 := h.ltM
  have hsi : ¬ (2000 : Int) ≤ (st.steps : Int) := by omega
  clear h hr hx1 hx2 hp
  go_enter Tryd.func50, Tryd.ntmps50
  go_wp2_with (go_at_call 70; rw [← HW.out]; (with_reducible refine HP.out.mono ?_); rintro e w3 ⟨rfl, hp2⟩)
  go_end0
  exact MPost.after HX.out ⟨rfl, hp2⟩

set_option maxRecDepth 100000 in
set_option maxHeartbeats 1000000 in
theorem one_fld (ok : SrcOK 73 72 80 ops env.base env.mem (.pointer (some ⟨env.R, 0, none⟩)) env.I env.cnt) (c : Nat) (h : MI env F w st 0) (hs : ¬ 2000 ≤ st.steps) (count id : Int) (text name arg : ByteArray) (fv kv ev : Value) (filters : List ByteArray) (kids els : List Node) (b o : Nat)
    (hfl : filters.length ≤ 2097152) (hf1 : SliceOf fv filters.length b o) (hf2 : StrsAt env.mem filters b o) (hn : name.size ≤ big) :
    Calls Tryd.prog 50 #[.pointer (some ⟨env.M, 0, none⟩), .agg #[.int .i64 2, .string text, .string name, .string arg, .int .i64 count, fv, kv, ev], .int .i64 id, .int .i64 c] w (MPost env w F (oneF ops c (.mk 2 text name arg count filters kids els) id st)) := by
  have hr : oneF ops c (.mk 2 text name arg count filters kids els) id st = fieldF ops name filters id { st with steps := st.steps + 1 } := by unfold oneF; rw [if_neg hs, evNode, if_neg (by decide), if_pos rfl]
  obtain ⟨hx1, hx2, _, _, _, _⟩ := one_set ok.keep ok.lt h hs #[.int .i64 2, .string text, .string name, .string arg, .int .i64 count, fv, kv, ev]
  obtain ⟨W1, HW⟩ := named ((w.setCell ⟨env.M, 1, none⟩ (.int .i64 ((st.steps : Int) + 1))).alloc (.cells #[.int .i64 2, .string text, .string name, .string arg, .int .i64 count, fv, kv, ev] 52))
  rw [← HW.out] at hx1 hx2
  have hp := field_m ok hx1 2 count id text name arg fv kv ev filters b o hfl hf1 hf2 hn (by show env.cnt st.src + 1 ≤ st.steps + 1; have := h.cnt; omega)
  have HP := Lib.hid hp
  have HX := Lib.hid hx2
  rw [hr]
  obtain ⟨m0, m1, m2, m3⟩ := h.cells
  have g1 := h.free 1
  have hM2 := h.ltM
  have hsi : ¬ (2000 : Int) ≤ (st.steps : Int) := by omega
  clear h hr hx1 hx2 hp
  go_enter Tryd.func50, Tryd.ntmps50
  go_wp2_with (go_at_call 71; rw [← HW.out]; (with_reducible refine HP.out.mono ?_); rintro e w3 ⟨rfl, hp2⟩)
  go_end0
  exact MPost.after HX.out ⟨rfl, hp2⟩

set_option maxRecDepth 100000 in
set_option maxHeartbeats 1000000 in
theorem one_inc (ok : SrcOK 73 72 80 ops env.base env.mem (.pointer (some ⟨env.R, 0, none⟩)) env.I env.cnt) (c : Nat) (hc3 : c ≤ 3) (hall : c < 3 → ∀ l, AllOK ops env (c + 1) l) (h : MI env F w st 0) (hs : ¬ 2000 ≤ st.steps) (count id : Int) (text name arg : ByteArray) (fv kv ev : Value) (filters : List ByteArray) (kids els : List Node)
    (hn : name.size ≤ big) :
    Calls Tryd.prog 50 #[.pointer (some ⟨env.M, 0, none⟩), .agg #[.int .i64 5, .string text, .string name, .string arg, .int .i64 count, fv, kv, ev], .int .i64 id, .int .i64 c] w (MPost env w F (oneF ops c (.mk 5 text name arg count filters kids els) id st)) := by
  have hr : oneF ops c (.mk 5 text name arg count filters kids els) id st = incF ops (3 - c) name id { st with steps := st.steps + 1 } := by unfold oneF; rw [if_neg hs, evNode, if_neg (by decide), if_neg (by decide), if_neg (by decide), if_neg (by decide), if_pos rfl]
  obtain ⟨hx1, hx2, _, _, _, _⟩ := one_set ok.keep ok.lt h hs #[.int .i64 5, .string text, .string name, .string arg, .int .i64 count, fv, kv, ev]
  obtain ⟨W1, HW⟩ := named ((w.setCell ⟨env.M, 1, none⟩ (.int .i64 ((st.steps : Int) + 1))).alloc (.cells #[.int .i64 5, .string text, .string name, .string arg, .int .i64 count, fv, kv, ev] 52))
  rw [← HW.out] at hx1 hx2
  have hp := include_m ok c hc3 hall hx1 5 count id text name arg fv kv ev hn (by show env.cnt st.src + 1 ≤ st.steps + 1; have := h.cnt; omega)
  have HP := Lib.hid hp
  have HX := Lib.hid hx2
  rw [hr]
  obtain ⟨m0, m1, m2, m3⟩ := h.cells
  have g1 := h.free 1
  have hM2 := h.ltM
  have hsi : ¬ (2000 : Int) ≤ (st.steps : Int) := by omega
  clear h hr hx1 hx2 hp
  go_enter Tryd.func50, Tryd.ntmps50
  go_wp2_with (go_at_call 74; rw [← HW.out]; (with_reducible refine HP.out.mono ?_); rintro e w3 ⟨rfl, hp2⟩)
  go_end0
  exact MPost.after HX.out ⟨rfl, hp2⟩

set_option maxRecDepth 100000 in
set_option maxHeartbeats 1000000 in
theorem one_bad (ok : SrcOK 73 72 80 ops env.base env.mem (.pointer (some ⟨env.R, 0, none⟩)) env.I env.cnt) (c : Nat) (h : MI env F w st 0) (hs : ¬ 2000 ≤ st.steps) (kind count id : Int) (text name arg : ByteArray) (fv kv ev : Value) (filters : List ByteArray) (kids els : List Node)
    (n1 : ¬ kind = 1) (n2 : ¬ kind = 2) (n3 : ¬ kind = 3) (n4 : ¬ kind = 4) (n5 : ¬ kind = 5) :
    Calls Tryd.prog 50 #[.pointer (some ⟨env.M, 0, none⟩), .agg #[.int .i64 kind, .string text, .string name, .string arg, .int .i64 count, fv, kv, ev], .int .i64 id, .int .i64 c] w (MPost env w F (oneF ops c (.mk kind text name arg count filters kids els) id st)) := by
  have hr : oneF ops c (.mk kind text name arg count filters kids els) id st = (110, { st with steps := st.steps + 1 }) := by unfold oneF; rw [if_neg hs, evNode, if_neg n1, if_neg n2, if_neg n3, if_neg n4, if_neg n5]
  have h1 := h.store ok.keep 1 (.int .i64 ((st.steps : Int) + 1)) { st with steps := st.steps + 1 } 0 rfl rfl h.out (by show st.steps + 1 ≤ 2000; omega) (by show env.cnt st.src ≤ st.steps + 1; have := h.cnt; omega)
  have HN : Hid (MPost env w F (110, { st with steps := st.steps + 1 }) (.returned (.tuple #[])) (((w.setCell ⟨env.M, 1, none⟩ (.int .i64 ((st.steps : Int) + 1))).setCell ⟨env.M, 3, none⟩ (.int .i64 110)).alloc (.cells #[.int .i64 kind, .string text, .string name, .string arg, .int .i64 count, fv, kv, ev] 52))) :=
    Lib.hid (((h1.1.fail ok.keep 110).after h1.2).later ok.keep (upd_box1 _ _))
  rw [hr]
  obtain ⟨m0, m1, m2, m3⟩ := h.cells
  have g1 := h.free 1
  have g3 := h.free 3
  have hM2 := h.ltM
  have hsi : ¬ (2000 : Int) ≤ (st.steps : Int) := by omega
  have e1 : ((kind : Int) == 1) = false := by simpa using n1
  have e2 : ((kind : Int) == 2) = false := by simpa using n2
  have e3 : ((kind : Int) == 3) = false := by simpa using n3
  have e4 : ((kind : Int) == 4) = false := by simpa using n4
  have e5 : ((kind : Int) == 5) = false := by simpa using n5
  clear h hr h1 n1 n2 n3 n4 n5
  go_enter Tryd.func50, Tryd.ntmps50
  go_wp2_with fail
  go_end0
  exact HN.out
end
/-! Mcc -/
section
variable {S : Type} {ops : Ops S} {env : MEnv S} {F : Nat → Prop} {w : World} {st : St S}
set_option maxRecDepth 100000 in
set_option maxHeartbeats 1000000 in
theorem one_cond (ok : SrcOK 73 72 80 ops env.base env.mem (.pointer (some ⟨env.R, 0, none⟩)) env.I env.cnt) (c : Nat) (h : MI env F w st 0) (hs : ¬ 2000 ≤ st.steps) (count id : Int) (text name arg : ByteArray) (fv kv ev : Value) (filters : List ByteArray) (kids els : List Node) (kb ko eb eo : Nat)
    (k1 : SliceOf kv kids.length kb ko) (k2 : NodesAt env.mem kids kb ko) (e1 : SliceOf ev els.length eb eo) (e2 : NodesAt env.mem els eb eo) (hk : AllOK ops env c kids) (he : AllOK ops env c els) (hn : name.size ≤ big) :
    Calls Tryd.prog 50 #[.pointer (some ⟨env.M, 0, none⟩), .agg #[.int .i64 4, .string text, .string name, .string arg, .int .i64 count, fv, kv, ev], .int .i64 id, .int .i64 c] w (MPost env w F (oneF ops c (.mk 4 text name arg count filters kids els) id st)) := by
  obtain ⟨ka, kcap, rfl, _, _, _⟩ := k1.shape
  obtain ⟨ea, ecap, rfl, _, _, _⟩ := e1.shape
  obtain ⟨⟨⟨t, okb⟩, s'⟩, HR⟩ := named (ops.field st.src id name)
  have hr : oneF ops c (.mk 4 text name arg count filters kids els) id st = if okb && !t.data.toList.isEmpty then evD ops (3 - c) kids id { st with steps := st.steps + 1, src := s' } else evD ops (3 - c) els id { st with steps := st.steps + 1, src := s' } := by
    unfold oneF
    rw [if_neg hs, evNode, if_neg (by decide), if_neg (by decide), if_neg (by decide), if_pos rfl, evD_eq]
    show (if (ops.field st.src id name).1.2 && !(ops.field st.src id name).1.1.data.toList.isEmpty then _ else _) = _
    rw [← HR.out]
  obtain ⟨hx1, hx2, hb, hnF, hnM, hz⟩ := one_set ok.keep ok.lt h hs #[.int .i64 4, .string text, .string name, .string arg, .int .i64 count, fv, .slice ka kids.length kcap, .slice ea els.length ecap]
  obtain ⟨W1, HW⟩ := named ((w.setCell ⟨env.M, 1, none⟩ (.int .i64 ((st.steps : Int) + 1))).alloc (.cells #[.int .i64 4, .string text, .string name, .string arg, .int .i64 count, fv, .slice ka kids.length kcap, .slice ea els.length ecap] 52)).drew
  have hud : Upd (fun _ => False) ((w.setCell ⟨env.M, 1, none⟩ (.int .i64 ((st.steps : Int) + 1))).alloc (.cells #[.int .i64 4, .string text, .string name, .string arg, .int .i64 count, fv, .slice ka kids.length kcap, .slice ea els.length ecap] 52)) W1 := by rw [HW.out]; exact (Upd.refl _ _).drew
  have hE1 := hx1.later ok.keep hud
  have hS1 := hx2.trans (MStep.quiet (F := F) hud)
  have hz1 : W1.heap.size = w.heap.size + 1 := by rw [HW.out]; simp
  have hb6 : W1.cell? ⟨w.heap.size, 6, none⟩ = some (.slice ka kids.length kcap) := hud.cell_some (hb 6) (fun f => f)
  have hb7 : W1.cell? ⟨w.heap.size, 7, none⟩ = some (.slice ea els.length ecap) := hud.cell_some (hb 7) (fun f => f)
  have hcs := h.cnt
  have hst := h.steps
  have hcall := ok.field (F := F) (w := W1) (s := st.src) id name hE1.src hE1.ltB (by omega) hn
  rw [← HR.out] at hcall
  have hcnt := ok.field_cnt st.src id name
  rw [← HR.out] at hcnt
  have hlen := ok.field_len st.src id name
  rw [← HR.out] at hlen
  have hstep : ∀ F' w2, env.I F' w2 s' → Upd F W1 w2 → (∀ k, F' k → F k ∨ W1.heap.size ≤ k) → MI env F' w2 { st with steps := st.steps + 1, src := s' } 0 ∧ MStep env w F w2 F' ∧ w2.cell? ⟨w.heap.size, 6, none⟩ = some (.slice ka kids.length kcap) ∧ w2.cell? ⟨w.heap.size, 7, none⟩ = some (.slice ea els.length ecap) := fun F' w2 hI hU2 hF2 => by
    have := hE1.srcStep hI hU2 hF2 (by show env.cnt s' ≤ st.steps + 1; simp at hcnt; omega)
    exact ⟨this.1, hS1.trans this.2, hU2.cell_some hb6 hnF, hU2.cell_some hb7 hnF⟩
  have HS := Lib.hid hstep
  have HC := Lib.hid hcall
  have HRR := Lib.hid hr
  have HK := Lib.hid (And.intro hk (And.intro k1 k2))
  have HE := Lib.hid (And.intro he (And.intro e1 e2))
  obtain ⟨m0, m1, m2, m3⟩ := h.cells
  have g1 := h.free 1
  have hM2 := h.ltM
  have hsi : ¬ (2000 : Int) ≤ (st.steps : Int) := by omega
  have hts : t.size ≤ 500 := hlen
  clear h hr hx1 hx2 hb hud hE1 hS1 hb6 hb7 hcall hcnt hlen hstep hk he k1 k2 e1 e2 hz
  cases okb
  · go_enter Tryd.func50, Tryd.ntmps50
    go_wp2_with fail
    go_region_with (go_at_call 73; rw [← HW.out]; (with_reducible refine HC.out.mono ?_); rintro e w2 ⟨v, F', rfl, rfl, hI, hU2, hF2⟩)
    all_goals
      obtain ⟨hx1, hx2, c6, c7⟩ := HS.out _ _ hI hU2 hF2
      have HCA := Lib.hid (HE.out.1 F' w2 _ id _ eb eo hx1 HE.out.2.1 HE.out.2.2)
      have HX2 := Lib.hid hx2
      have hw5 := World.block_lt_of_cell? w2 _ c7
      clear hx1 hx2 hI hU2 hF2
      go_wp2_with (go_at_call 27; refine HCA.out.mono ?_; rintro e w3 ⟨rfl, hp2⟩)
      go_end0
      rw [HRR.out]
      exact MPost.after HX2.out ⟨rfl, hp2⟩
  · by_cases he : t = ⟨#[]⟩
    · subst he
      go_enter Tryd.func50, Tryd.ntmps50
      go_wp2_with fail
      go_region_with (go_at_call 73; rw [← HW.out]; (with_reducible refine HC.out.mono ?_); rintro e w2 ⟨v, F', rfl, rfl, hI, hU2, hF2⟩)
      all_goals
        obtain ⟨hx1, hx2, c6, c7⟩ := HS.out _ _ hI hU2 hF2
        have HCA := Lib.hid (HE.out.1 F' w2 _ id _ eb eo hx1 HE.out.2.1 HE.out.2.2)
        have HX2 := Lib.hid hx2
        have hw5 := World.block_lt_of_cell? w2 _ c7
        clear hx1 hx2 hI hU2 hF2
        go_wp2_with (go_at_call 27; refine HCA.out.mono ?_; rintro e w3 ⟨rfl, hp2⟩)
        go_end0
        rw [HRR.out]
        exact MPost.after HX2.out ⟨rfl, hp2⟩
    · have hem : t.data.toList.isEmpty = false := by
        rw [List.isEmpty_eq_false_iff]
        intro e
        exact he (by cases t with | mk d => congr 1; exact Array.toList_eq_nil_iff.1 e)
      have hte : t.toList.isEmpty = false := by rw [ByteArray.toList_eq]; exact hem
      have hte2 : (!t.toList.isEmpty) = true := by rw [hte]; rfl
      have HEM := Lib.hid hem
      clear hem he
      go_enter Tryd.func50, Tryd.ntmps50
      go_wp2_with fail
      go_region_with (go_at_call 73; rw [← HW.out]; (with_reducible refine HC.out.mono ?_); rintro e w2 ⟨v, F', rfl, rfl, hI, hU2, hF2⟩)
      all_goals
        obtain ⟨hx1, hx2, c6, c7⟩ := HS.out _ _ hI hU2 hF2
        have HCA := Lib.hid (HK.out.1 F' w2 _ id _ kb ko hx1 HK.out.2.1 HK.out.2.2)
        have HX2 := Lib.hid hx2
        have hw5 := World.block_lt_of_cell? w2 _ c6
        clear hx1 hx2 hI hU2 hF2
        go_wp2_with (go_at_call 27; refine HCA.out.mono ?_; rintro e w3 ⟨rfl, hp2⟩)
        go_end0
        rw [HRR.out, HEM.out]
        exact MPost.after HX2.out ⟨rfl, hp2⟩
end
/-! Mcl -/
section
variable {S : Type} {ops : Ops S} {env : MEnv S} {F : Nat → Prop} {w : World} {st : St S}
def OkL (ops : Ops S) (env : MEnv S) : Prop := ∀ {F : Nat → Prop} {w : World} {s : S} (id : Int) (name arg : ByteArray) (n : Int), env.I F w s → env.base ≤ w.heap.size → env.cnt s ≤ 4000 → name.size ≤ big → arg.size ≤ big →
    Calls Tryd.prog 72 #[.pointer (some ⟨env.R, 0, none⟩), .int .i64 id, .string name, .string arg, .int .i64 n] w (LPost env.I F w (fun w' v => IntsAt w' v (ops.list s id name arg n).1) (ops.list s id name arg n).2)
def AllErr (env : MEnv S) : Prop := ∀ (F : Nat → Prop) (w : World) (st : St S) (e : Int) (n : Nat) (v : Value) (b o : Nat) (id c : Int), e ≠ 0 → MI env F w st e → SliceOf v n b o →
    Calls Tryd.prog 27 #[.pointer (some ⟨env.M, 0, none⟩), v, .int .i64 id, .int .i64 c] w (MPost env w F (e, st))
theorem evD_nil (ops : Ops S) (d : Nat) (id : Int) (st : St S) : evD ops d [] id st = (0, st) := by rw [evD_eq, evList]
theorem seq_nil (ops : Ops S) (d : Nat) : ∀ (l : List Int) (st : St S), seqIds (fun i s => evD ops d [] i s) l st = (0, st)
  | [], _ => rfl
  | i :: r, st => by rw [seqIds, if_pos (by rw [evD_nil]), seq_nil ops d r, evD_nil]
set_option maxRecDepth 100000 in
set_option maxHeartbeats 1000000 in
theorem all_err : AllErr env := by
  intro F w st e n v b o id c he h hs
  obtain ⟨a, cap, rfl, _, hbig, _⟩ := hs.shape
  have hbig2 : n ≤ 1099511627776 := hbig
  have hne : ((e : Int) == 0) = false := by simpa using he
  have HP : Hid (MPost env w F (e, st) (.returned (.tuple #[])) w) := Lib.hid ⟨rfl, F, h, MStep.refl⟩
  obtain ⟨m0, m1, m2, m3⟩ := h.cells
  have hM2 := h.ltM
  clear h he
  go_enter Tryd.func27, Tryd.ntmps27
  go_wp2_with fail
  go_loopw [8] (fun i wr => ∃ k : Nat, k ≤ n ∧ i = .int .i64 k ∧ w = wr) (fun i _ => n - (intOf i).toNat)
  case atStart => exact ⟨0, Nat.zero_le _, rfl, by first | rfl | trivial⟩
  case round =>
    obtain ⟨k, hk, rfl, rfl⟩ := hrel
    by_cases hlt : k < n
    · go_wp2_with fail
      go_roundw
      case rel => exact ⟨k + 1, by omega, by go_num, by first | rfl | trivial⟩
      case measure => simp [intOf]; omega
    · go_wp2_with fail
      go_end0
      exact HP.out

end
/-! Mcm -/
section
variable {S : Type} {ops : Ops S} {env : MEnv S} {F : Nat → Prop} {w : World} {st : St S}
set_option maxRecDepth 100000 in
set_option maxHeartbeats 2000000 in
theorem one_lst (ok : SrcOK 73 72 80 ops env.base env.mem (.pointer (some ⟨env.R, 0, none⟩)) env.I env.cnt) (okl : OkL ops env) (c : Nat) (h : MI env F w st 0) (hs : ¬ 2000 ≤ st.steps) (count id : Int) (text name arg : ByteArray) (fv kv ev : Value) (filters : List ByteArray) (kids els : List Node) (kb ko eb eo : Nat)
    (k1 : SliceOf kv kids.length kb ko) (k2 : NodesAt env.mem kids kb ko) (e1 : SliceOf ev els.length eb eo) (e2 : NodesAt env.mem els eb eo) (hk : AllOK ops env c kids) (he : AllOK ops env c els) (hn : name.size ≤ big) (ha : arg.size ≤ big) :
    Calls Tryd.prog 50 #[.pointer (some ⟨env.M, 0, none⟩), .agg #[.int .i64 3, .string text, .string name, .string arg, .int .i64 count, fv, kv, ev], .int .i64 id, .int .i64 c] w (MPost env w F (oneF ops c (.mk 3 text name arg count filters kids els) id st)) := by
  obtain ⟨ka, kcap, rfl, _, _, _⟩ := k1.shape
  obtain ⟨ea, ecap, rfl, _, _, _⟩ := e1.shape
  obtain ⟨⟨ids, s'⟩, HR⟩ := named (ops.list st.src id name arg count)
  have hr : oneF ops c (.mk 3 text name arg count filters kids els) id st = if ids = [] then evD ops (3 - c) els id { st with steps := st.steps + 1, src := s' } else seqIds (fun i s => evD ops (3 - c) kids i s) ids { st with steps := st.steps + 1, src := s' } := by
    unfold oneF
    rw [if_neg hs, evNode, if_neg (by decide), if_neg (by decide), if_pos rfl]
    show (if (ops.list st.src id name arg count).1 = [] then _ else if kids.isEmpty then _ else _) = _
    rw [← HR.out]
    simp only [evD_eq]
    by_cases hi : ids = []
    · rw [if_pos hi, if_pos hi]
    · rw [if_neg hi, if_neg hi]
      cases kids with
      | nil => simp only [← evD_eq]; rw [seq_nil]; rfl
      | cons a r => rfl
  obtain ⟨hx1, hx2, hb, hnF, hnM, hz⟩ := one_set ok.keep ok.lt h hs #[.int .i64 3, .string text, .string name, .string arg, .int .i64 count, fv, .slice ka kids.length kcap, .slice ea els.length ecap]
  obtain ⟨W1, HW⟩ := named ((w.setCell ⟨env.M, 1, none⟩ (.int .i64 ((st.steps : Int) + 1))).alloc (.cells #[.int .i64 3, .string text, .string name, .string arg, .int .i64 count, fv, .slice ka kids.length kcap, .slice ea els.length ecap] 52)).drew
  have hud : Upd (fun _ => False) ((w.setCell ⟨env.M, 1, none⟩ (.int .i64 ((st.steps : Int) + 1))).alloc (.cells #[.int .i64 3, .string text, .string name, .string arg, .int .i64 count, fv, .slice ka kids.length kcap, .slice ea els.length ecap] 52)) W1 := by rw [HW.out]; exact (Upd.refl _ _).drew
  have hE1 := hx1.later ok.keep hud
  have hS1 := hx2.trans (MStep.quiet (F := F) hud)
  have hz1 : W1.heap.size = w.heap.size + 1 := by rw [HW.out]; simp
  have hb6 : W1.cell? ⟨w.heap.size, 6, none⟩ = some (.slice ka kids.length kcap) := hud.cell_some (hb 6) (fun f => f)
  have hb7 : W1.cell? ⟨w.heap.size, 7, none⟩ = some (.slice ea els.length ecap) := hud.cell_some (hb 7) (fun f => f)
  have hcs := h.cnt
  have hst := h.steps
  have hcall := okl (F := F) (w := W1) (s := st.src) id name arg count hE1.src hE1.ltB (by omega) hn ha
  rw [← HR.out] at hcall
  have hcnt := ok.list_cnt st.src id name arg count
  rw [← HR.out] at hcnt
  have hlen := ok.list_len st.src id name arg count
  rw [← HR.out] at hlen
  have hlen2 : ids.length ≤ 2000 := hlen
  have hltM1 := hE1.ltM
  /- what holds behind List: the machine, the box, the ids, and that no later write of the machine meets these -/
  have hstep : ∀ (F' : Nat → Prop) w2 (ib io icap : Nat) (ia : Option Addr), env.I F' w2 s' → Upd F W1 w2 → (∀ k, F' k → F k ∨ W1.heap.size ≤ k) → (∀ k, (Value.slice ia ids.length icap).ownBlock = some k → W1.heap.size ≤ k ∧ ¬ F' k) → SliceOf (.slice ia ids.length icap) ids.length ib io →
      (∀ j (h : j < ids.length), w2.cell? ⟨ib, io + j, none⟩ = some (.int .i64 ids[j])) →
      MI env F' w2 { st with steps := st.steps + 1, src := s' } 0 ∧ MStep env w F w2 F' ∧ ∀ F2 wr, MStep env w2 F' wr F2 → wr.cell? ⟨w.heap.size, 6, none⟩ = some (.slice ka kids.length kcap) ∧ wr.cell? ⟨w.heap.size, 7, none⟩ = some (.slice ea els.length ecap) ∧ ∀ j (h : j < ids.length), wr.cell? ⟨ib, io + j, none⟩ = some (.int .i64 ids[j]) := by
    intro F' w2 ib io icap ia hI hU2 hF2 ho hsl hce
    have := hE1.srcStep hI hU2 hF2 (by show env.cnt s' ≤ st.steps + 1; simp at hcnt; omega)
    refine ⟨this.1, hS1.trans this.2, fun F2 wr hM => ?_⟩
    have hnB : ¬ MFoot env F' w.heap.size := fun f => by
      rcases f with f | f
      · exact hnM f
      · rcases hF2 _ f with f | f
        · exact hnF f
        · omega
    refine ⟨hM.upd.cell_some (hU2.cell_some hb6 hnF) hnB, hM.upd.cell_some (hU2.cell_some hb7 hnF) hnB, fun j hj => hM.upd.cell_some (hce j hj) (fun f => ?_)⟩
    obtain ⟨_, ia', icap', e, _, hpos⟩ := hsl
    injection e with e3 _ _
    subst e3
    have hia := hpos (by omega)
    subst hia
    obtain ⟨o1, o2⟩ := ho ib rfl
    rcases f with f | f
    · have f2 : ib = env.M := f
      omega
    · exact o2 f
  have HS := Lib.hid hstep
  have HC := Lib.hid hcall
  have HRR := Lib.hid hr
  have HK := Lib.hid (And.intro hk (And.intro k1 k2))
  have HE := Lib.hid (And.intro he (And.intro e1 e2))
  have HAE := Lib.hid (all_err (env := env))
  obtain ⟨m0, m1, m2, m3⟩ := h.cells
  have g1 := h.free 1
  have hM2 := h.ltM
  have hsi : ¬ (2000 : Int) ≤ (st.steps : Int) := by omega
  clear h hr hx1 hx2 hb hud hE1 hS1 hb6 hb7 hcall hcnt hlen hstep hk he e1 e2 k2 hz hnF hnM hltM1
  go_enter Tryd.func50, Tryd.ntmps50
  go_wp2_with fail
  refine wp_tail 11 (by kernel_rfl) (by kernel_rfl) ?_
  simp only [List.take_succ_cons, List.take_zero, List.drop_succ_cons, List.drop_zero]
  repeat still_step
  refine wpStill_nil ?_
  go_wp2_with fail
  rw [← HW.out]
  refine HC.out.mono ?_
  rintro e w2 ⟨v, F', rfl, ⟨ib, io, hsl, hce⟩, hI, hU2, hF2, ho⟩
  obtain ⟨ia, icap, rfl, hia, _, hic⟩ := hsl.shape
  · obtain ⟨hx1, hx2, hlat⟩ := HS.out _ _ ib io icap ia hI hU2 hF2 ho hsl hce
    have HX1 := Lib.hid hx1
    have HX2 := Lib.hid hx2
    have HL := Lib.hid hlat
    have HIA := Lib.hid hia
    clear hx1 hx2 hlat hI hU2 hF2 ho hsl hce hia
    go_wp2_with fail
    go_loopw [9] (fun i wr => ∃ (k : Nat) (F2 : Nat → Prop) (e : Int) (x : St S), k ≤ ids.length ∧ i = .int .i64 k ∧ MI env F2 wr x e ∧ MStep env w2 F' wr F2 ∧
        Hid (seqIds (fun i s => evD ops (3 - c) kids i s) ids { st with steps := st.steps + 1, src := s' } = if e = 0 then seqIds (fun i s => evD ops (3 - c) kids i s) (ids.drop k) x else (e, x))) (fun i _ => ids.length - (intOf i).toNat)
    case atStart => exact ⟨0, F', 0, _, Nat.zero_le _, rfl, HX1.out, MStep.refl, Lib.hid (by rw [if_pos rfl]; rfl)⟩
    case round =>
      obtain ⟨k, F2, e, x, hk, rfl, b1, b2, b3⟩ := hrel
      obtain ⟨c6, c7, cg⟩ := HL.out _ _ b2
      have hw5 := World.block_lt_of_cell? wr _ c6
      by_cases hlt : k < ids.length
      · have c8 := cg k hlt
        have hia2 := HIA.out (by omega)
        subst hia2
        have hsd := seqIds_drop (fun i s => evD ops (3 - c) kids i s) ids k hlt x
        have HSD := Lib.hid hsd
        have hib := World.block_lt_of_cell? wr _ c8
        generalize ids[k] = z at *
        have hcl : Calls Tryd.prog 27 #[.pointer (some ⟨env.M, 0, none⟩), .slice ka kids.length kcap, .int .i64 z, .int .i64 c] wr.drew (MPost env wr F2 (if e = 0 then evD ops (3 - c) kids z x else (e, x))) := by
          by_cases he : e = 0
          · subst he
            rw [if_pos rfl]
            exact (HK.out.1 F2 wr.drew x z _ kb ko (mi_drew ok.keep b1) HK.out.2.1 HK.out.2.2).mono fun _ _ hp => hp.after ms_drew
          · rw [if_neg he]
            exact (HAE.out F2 wr.drew x e kids.length _ kb ko z c he (mi_drew ok.keep b1) HK.out.2.1).mono fun _ _ hp => hp.after ms_drew
        have HCL := Lib.hid hcl
        have HB := Lib.hid (And.intro b1 b2)
        clear hcl b1 b2 hsd cg
        have hlti : (k : Int) < (ids.length : Int) := by omega
        go_wp2_with fail
        refine wp_tail 8 (by kernel_rfl) (by kernel_rfl) ?_
        simp only [List.take_succ_cons, List.take_zero, List.drop_succ_cons, List.drop_zero]
        repeat still_step
        refine wpStill_nil ?_
        go_wp2_with fail
        refine HCL.out.mono ?_
        rintro e' w3 ⟨rfl, F3, d1, d2⟩
        · have hq : Hid (seqIds (fun i s => evD ops (3 - c) kids i s) ids { st with steps := st.steps + 1, src := s' } = if (if e = 0 then evD ops (3 - c) kids z x else (e, x)).1 = 0 then seqIds (fun i s => evD ops (3 - c) kids i s) (ids.drop (k + 1)) (if e = 0 then evD ops (3 - c) kids z x else (e, x)).2 else ((if e = 0 then evD ops (3 - c) kids z x else (e, x)).1, (if e = 0 then evD ops (3 - c) kids z x else (e, x)).2)) := Lib.hid (by
            rw [b3.out]
            by_cases he : e = 0
            · rw [if_pos he, HSD.out, if_pos he]
            · rw [if_neg he, if_neg he, if_neg he])
          have hm3 := HB.out.2.trans d2
          have HD := Lib.hid (And.intro d1 hm3)
          clear d1 d2 hm3
          go_wp2_with fail
          go_roundw
          case rel => exact ⟨k + 1, F3, _, _, by omega, by go_num, HD.out.1, HD.out.2, hq⟩
          case measure => simp [intOf]; omega
      · have hke : k = ids.length := by omega
        by_cases hids : ids = []
        · have hb4 : (e, x) = (0, { st with steps := st.steps + 1, src := s' }) := by
            have := b3.out
            rw [hke, List.drop_length, hids, seqIds, seqIds] at this
            split at this
            · next h0 => rw [h0]; exact this.symm
            · exact this.symm
          obtain ⟨rfl, rfl⟩ := Prod.mk.inj hb4
          have hcl := HE.out.1 F2 wr _ id _ eb eo b1 HE.out.2.1 HE.out.2.2
          have HCL := Lib.hid hcl
          have HRQ : Hid (oneF ops c (.mk 3 text name arg count filters kids els) id st = evD ops (3 - c) els id { st with steps := st.steps + 1, src := s' }) := Lib.hid (by rw [HRR.out, if_pos hids])
          have HM := Lib.hid (HX2.out.trans b2)
          have hl0 : ids.length = 0 := by rw [hids]; rfl
          have hli : ((ids.length : Int) == 0) = true := by rw [hl0]; rfl
          clear hcl b1 b2 hb4 hids cg
          go_wp2_with (go_at_call 27; refine HCL.out.mono ?_; rintro e w3 ⟨rfl, hp2⟩)
          go_end0
          rw [HRQ.out]
          exact MPost.after HM.out ⟨rfl, hp2⟩
        · have hpos : 0 < ids.length := List.length_pos_iff.2 hids
          have hli : ((ids.length : Int) == 0) = false := by rw [beq_eq_false_iff_ne]; omega
          have HN : Hid (MPost env w F (oneF ops c (.mk 3 text name arg count filters kids els) id st) (.returned (.tuple #[])) wr) := Lib.hid (by
            have e5 : oneF ops c (.mk 3 text name arg count filters kids els) id st = (e, x) := by
              rw [HRR.out, if_neg hids, b3.out, hke, List.drop_length, seqIds]
              split
              · next h0 => rw [h0]
              · rfl
            rw [e5]
            exact ⟨rfl, F2, b1, HX2.out.trans b2⟩)
          clear b1 b2 hids cg
          go_wp2_with fail
          go_end0
          exact HN.out
end
/-! Mca -/
section
variable {S : Type} {ops : Ops S} {env : MEnv S} {F : Nat → Prop} {w : World} {st : St S}
theorem one_any (ok : SrcOK 73 72 80 ops env.base env.mem (.pointer (some ⟨env.R, 0, none⟩)) env.I env.cnt) (okl : OkL ops env) (c : Nat) (hc3 : c ≤ 3) (kind count id : Int) (text name arg : ByteArray) (filters : List ByteArray) (kids els : List Node) (fv kv ev : Value) (fb fo kb ko eb eo : Nat)
    (s1 : text.size ≤ big) (s2 : name.size ≤ big) (s3 : arg.size ≤ big) (s4 : filters.length ≤ 2097152) (f1 : SliceOf fv filters.length fb fo) (f2 : StrsAt env.mem filters fb fo)
    (k1 : SliceOf kv kids.length kb ko) (k2 : NodesAt env.mem kids kb ko) (e1 : SliceOf ev els.length eb eo) (e2 : NodesAt env.mem els eb eo)
    (hk : AllOK ops env c kids) (he : AllOK ops env c els) (hincl : c < 3 → ∀ l, AllOK ops env (c + 1) l) (h : MI env F w st 0) :
    Calls Tryd.prog 50 #[.pointer (some ⟨env.M, 0, none⟩), .agg #[.int .i64 kind, .string text, .string name, .string arg, .int .i64 count, fv, kv, ev], .int .i64 id, .int .i64 c] w (MPost env w F (oneF ops c (.mk kind text name arg count filters kids els) id st)) := by
  by_cases hs : 2000 ≤ st.steps
  · exact one_full ok c h hs kind count id text name arg fv kv ev filters kids els
  by_cases g1 : kind = 1
  · subst g1; exact one_lit ok c h hs count id text name arg fv kv ev filters kids els (by unfold big at s1; omega)
  by_cases g2 : kind = 2
  · subst g2; exact one_fld ok c h hs count id text name arg fv kv ev filters kids els fb fo s4 f1 f2 s2
  by_cases g3 : kind = 3
  · subst g3; exact one_lst ok okl c h hs count id text name arg fv kv ev filters kids els kb ko eb eo k1 k2 e1 e2 hk he s2 s3
  by_cases g4 : kind = 4
  · subst g4; exact one_cond ok c h hs count id text name arg fv kv ev filters kids els kb ko eb eo k1 k2 e1 e2 hk he s2
  by_cases g5 : kind = 5
  · subst g5; exact one_inc ok c hc3 hincl h hs count id text name arg fv kv ev filters kids els s2
  · exact one_bad ok c h hs kind count id text name arg fv kv ev filters kids els g1 g2 g3 g4 g5
theorem evD_cons2 (ops : Ops S) (c : Nat) (n : Node) (r : List Node) (id : Int) (st : St S) :
    evD ops (3 - c) (n :: r) id st = if (oneF ops c n id st).1 = 0 then evD ops (3 - c) r id (oneF ops c n id st).2 else oneF ops c n id st := by
  rw [evD_cons]
  unfold oneF
  by_cases h : 2000 ≤ st.steps
  · rw [if_pos h, if_pos h, if_neg (by show ¬ (111 : Int) = 0; omega)]
  · rw [if_neg h, if_neg h]

set_option maxRecDepth 100000 in
set_option maxHeartbeats 1000000 in
theorem all_m (ok : SrcOK 73 72 80 ops env.base env.mem (.pointer (some ⟨env.R, 0, none⟩)) env.I env.cnt) (okl : OkL ops env) (c : Nat) (hc3 : c ≤ 3) (l : List Node) (hn : ∀ n ∈ l, AllOK ops env c n.kids ∧ AllOK ops env c n.els) (hincl : c < 3 → ∀ l, AllOK ops env (c + 1) l) : AllOK ops env c l := by
  intro F w st id v b o h hsl hnodes
  obtain ⟨ao, cap, rfl, hao, hbig, hcap⟩ := hsl.shape
  have hbig2 : l.length ≤ 1099511627776 := hbig
  have HN := Lib.hid hn
  have HI := Lib.hid hincl
  have HH := Lib.hid h
  have HAO := Lib.hid hao
  have HOK := Lib.hid (And.intro ok (And.intro (show Hid (OkL ops env) from Lib.hid okl) hc3))
  clear hn hincl h hbig hsl hao ok okl
  go_enter Tryd.func27, Tryd.ntmps27
  go_wp2_with fail
  go_loopw [8] (fun i wr => ∃ (k : Nat) (F2 : Nat → Prop) (e : Int) (x : St S), k ≤ l.length ∧ i = .int .i64 k ∧ MI env F2 wr x e ∧ MStep env w F wr F2 ∧
      Hid (evD ops (3 - c) l id st = if e = 0 then evD ops (3 - c) (l.drop k) id x else (e, x))) (fun i _ => l.length - (intOf i).toNat)
  case atStart => exact ⟨0, F, 0, st, Nat.zero_le _, rfl, HH.out, MStep.refl, Lib.hid (by rw [if_pos rfl]; rfl)⟩
  case round =>
    obtain ⟨k, F2, e, x, hk, rfl, b1, b2, b3⟩ := hrel
    obtain ⟨q0, q1, q2, q3⟩ := b1.cells
    have hqM := b1.ltM
    by_cases hlt : k < l.length
    · by_cases he : e = 0
      · subst he
        have hnode := hnodes.get k hlt
        have hnk := HN.out l[k] (List.getElem_mem hlt)
        have hdr : l.drop k = l[k] :: l.drop (k + 1) := List.drop_eq_getElem_cons hlt
        rw [if_pos rfl, hdr, evD_cons2] at b3
        generalize l[k] = nd at *
        obtain ⟨kind, text, name, arg, count, filters, kids, els⟩ := nd
        unfold NodeAt at hnode
        obtain ⟨⟨m0, m1, m2, m3, m4⟩, ⟨s1, s2, s3, s4⟩, ⟨fv, fb, fo, m5, f1, f2⟩, ⟨kv, kb, ko, m6, k1, k2⟩, ⟨ev, eb, eo, m7, e1, e2⟩⟩ := hnode
        obtain ⟨fa, fcap, rfl, _, _, _⟩ := f1.shape
        obtain ⟨ka, kcap, rfl, _, _, _⟩ := k1.shape
        obtain ⟨ea, ecap, rfl, _, _, _⟩ := e1.shape
        have hao2 := HAO.out (by omega)
        subst hao2
        have hs := b1.sees
        have c0 := hs _ _ m0
        have c1 := hs _ _ m1
        have c2 := hs _ _ m2
        have c3 := hs _ _ m3
        have c4 := hs _ _ m4
        have c5 := hs _ _ m5
        have c6 := hs _ _ m6
        have c7 := hs _ _ m7
        obtain ⟨ok, hkl, _⟩ := HOK.out
        have hcl := one_any ok hkl.out c hc3 kind count id text name arg filters kids els _ _ _ fb fo kb ko eb eo s1 s2 s3 s4 f1 f2 k1 k2 e1 e2 hnk.1 hnk.2 HI.out b1
        have HCL := Lib.hid hcl
        have HB := Lib.hid (And.intro b1 b2)
        clear m0 m1 m2 m3 m4 m5 m6 m7 hs b1 b2 f1 f2 k1 k2 e1 e2 hdr hnodes hcl ok hkl hnk
        generalize oneF ops c (.mk kind text name arg count filters kids els) id x = res at *
        go_wp2_with (go_at_call 50; (with_reducible refine HCL.out.mono ?_); rintro e' w3 ⟨rfl, F3, d1, d2⟩)
        go_roundw
        case rel => exact ⟨k + 1, F3, res.1, res.2, by omega, by go_num, d1, HB.out.2.trans d2, Lib.hid (by rw [b3.out])⟩
        case measure => simp [intOf]; omega
      · have hne : ((e : Int) == 0) = false := by simpa using he
        have HB := Lib.hid (And.intro b1 b2)
        have HQ : Hid (evD ops (3 - c) l id st = if e = 0 then evD ops (3 - c) (l.drop (k + 1)) id x else (e, x)) := Lib.hid (by rw [b3.out, if_neg he, if_neg he])
        clear b1 b2 b3 hnodes
        go_wp2_with fail
        go_roundw
        case rel => exact ⟨k + 1, F2, e, x, by omega, by go_num, HB.out.1, HB.out.2, HQ⟩
        case measure => simp [intOf]; omega
    · have hke : k = l.length := by omega
      have HN : Hid (MPost env w F (evD ops (3 - c) l id st) (.returned (.tuple #[])) wr) := Lib.hid (by
        have e5 : evD ops (3 - c) l id st = (e, x) := by
          rw [b3.out, hke, List.drop_length, evD_nil]
          split
          · next h0 => rw [h0]
          · rfl
        rw [e5]
        exact ⟨rfl, F2, b1, b2⟩)
      clear b1 b2 b3 hnodes
      go_wp2_with fail
      go_end0
      exact HN.out
theorem alls_ok (ok : SrcOK 73 72 80 ops env.base env.mem (.pointer (some ⟨env.R, 0, none⟩)) env.I env.cnt) (okl : OkL ops env) :
    ∀ d c, c + d = 3 → ∀ l, AllOK ops env c l := by
  intro d
  induction d with
  | zero =>
    intro c hc
    have key : ∀ m l, SizeOf.sizeOf l ≤ m → AllOK ops env c l := by
      intro m
      induction m with
      | zero => intro l hl; cases l <;> simp at hl
      | succ m ih =>
        intro l hl
        refine all_m ok okl c (by omega) l (fun n hn => ?_) (fun h => by omega)
        have h1 := List.sizeOf_lt_of_mem hn
        have h2 := size_kids n
        exact ⟨ih _ (by omega), ih _ (by omega)⟩
    exact fun l => key _ l (Nat.le_refl _)
  | succ d ihd =>
    intro c hc
    have key : ∀ m l, SizeOf.sizeOf l ≤ m → AllOK ops env c l := by
      intro m
      induction m with
      | zero => intro l hl; cases l <;> simp at hl
      | succ m ih =>
        intro l hl
        refine all_m ok okl c (by omega) l (fun n hn => ?_) (fun h => ihd (c + 1) (by omega))
        have h1 := List.sizeOf_lt_of_mem hn
        have h2 := size_kids n
        exact ⟨ih _ (by omega), ih _ (by omega)⟩
    exact fun l => key _ l (Nat.le_refl _)

set_option maxRecDepth 100000 in
set_option maxHeartbeats 1000000 in
/-- what the reference's Run leaves -/
theorem refrun_any {w : World} {R : Nat} {I : (Nat → Prop) → World → S → Prop} {cnt : S → Nat} {mem : Addr → Option Value} {s : S} (hst : Start ops mem R I cnt F s w) (okl : ∀ M, OkL ops ⟨w.heap.size, mem, I, cnt, R, M⟩)
    (l : List Node) (v : Value) (b o : Nat) (hl : SliceOf v l.length b o) (hn : NodesAt mem l b o) (id : Int) :
    Calls Tryd.prog 17 #[v, .pointer (some ⟨R, 0, none⟩), .int .i64 id] w (RunPost I F w (runF ops l s id)) := by
  obtain ⟨la, lc, rfl, _, _, _⟩ := hl.shape
  obtain ⟨env, HEV⟩ := named (⟨w.heap.size, mem, I, cnt, R, w.heap.size⟩ : MEnv S)
  obtain ⟨W1, HW⟩ := named (w.alloc (.cells #[.pointer (some ⟨R, 0, none⟩), .int .i64 0, .string ⟨#[]⟩, .int .i64 0] 83))
  have hu1 : Upd (fun _ => False) w W1 := by rw [HW.out]; exact upd_box1 _ _
  have hlt := hst.ok.lt hst.src
  have hM : MI env F W1 { out := [], steps := 0, src := s } 0 := by
    rw [HEV.out]
    exact ⟨by rw [HW.out]; exact World.alloc_heap_new _ _, hst.ok.keep hst.src hu1 (fun _ f => f.elim), fun f => by have := hlt _ f; simp at this, Nat.le_refl _, hst.sees.upd hu1 (fun _ _ _ f => f), hst.memF, Nat.zero_le _, Nat.zero_le _, by show cnt s ≤ 0; rw [hst.cnt0]; exact Nat.le_refl _⟩
  have hcl : Calls Tryd.prog 27 #[.pointer (some ⟨w.heap.size, 0, none⟩), .slice la l.length lc, .int .i64 id, .int .i64 0] W1 (MPost env W1 F (evD ops 3 l id { out := [], steps := 0, src := s })) := by
    have := alls_ok (env := env) (by rw [HEV.out]; exact hst.ok) (by rw [HEV.out]; exact okl _) 3 0 rfl l F W1 _ id _ b o hM hl (by rw [HEV.out]; exact hn)
    rw [HEV.out] at this ⊢
    exact this
  have hfin : ∀ (F' : Nat → Prop) (w2 : World) (e : Int) (x : St S), MI env F' w2 x e → MStep env W1 F w2 F' → (w2.cell? ⟨w.heap.size, 2, none⟩ = some (.string (bs x.out)) ∧ w2.cell? ⟨w.heap.size, 3, none⟩ = some (.int .i64 e)) ∧ w.heap.size < w2.heap.size ∧ I F' w2 x.src ∧ Upd F w w2 ∧ ∀ k, F' k → F k ∨ w.heap.size ≤ k := by
    intro F' w2 e x h1 h2
    rw [HEV.out] at h1 h2
    have hz := h2.upd.size
    have hz1 := hu1.size
    refine ⟨h1.cells.2.2, h1.ltM, h1.src, ?_, fun k f => ?_⟩
    · have h3 := h2.upd.mono (G := fun k => k = w.heap.size ∨ F k) (fun k f => .inl f)
      have h4 : Upd (fun k => k = w.heap.size ∨ F k) w w2 := (hu1.mono (fun _ f => f.elim)).trans h3 (fun _ f => .inl f)
      exact h4.mono (fun k f => f.elim (fun f => .inr (by rw [f]; exact Nat.le_refl _)) .inl)
    · rcases h2.foot k (.inr f) with f | f
      · rcases f with f | f
        · exact .inr (by rw [f]; exact Nat.le_refl _)
        · exact .inl f
      · exact .inr (by omega)
  have HF := Lib.hid hfin
  have HCL := Lib.hid hcl
  have HKE := Lib.hid hst
  have HRN : Hid (runF ops l s id = if (evD ops 3 l id { out := [], steps := 0, src := s }).1 = 0 then (((evD ops 3 l id { out := [], steps := 0, src := s }).2.out, 0), (evD ops 3 l id { out := [], steps := 0, src := s }).2.src) else (([], (evD ops 3 l id { out := [], steps := 0, src := s }).1), (evD ops 3 l id { out := [], steps := 0, src := s }).2.src)) := Lib.hid rfl
  clear hcl hfin hM hn hl hst okl hlt hu1 HEV
  generalize evD ops 3 l id { out := [], steps := 0, src := s } = res at *
  obtain ⟨e0, x⟩ := res
  go_enter Tryd.func17, Tryd.ntmps17
  go_wp2_with fail
  rw [← HW.out]
  refine HCL.out.mono ?_
  rintro e' w3 ⟨rfl, F3, d1, d2⟩
  obtain ⟨⟨p1, p2⟩, p3, p4, p5, p6⟩ := HF.out _ _ _ _ d1 d2
  simp only at p1 p2
  have HP := Lib.hid (And.intro p4 (And.intro p5 p6))
  clear d1 d2 p4 p5 p6
  by_cases h0 : e0 = 0
  · have HQ : Hid (RunPost I F w (runF ops l s id) (.returned (.tuple #[.string (bs x.out), .int .i64 0])) w3) := Lib.hid (by rw [HRN.out, if_pos h0]; exact ⟨rfl, F3, HP.out⟩)
    subst h0
    generalize bs x.out = O at *
    go_wp2_with fail
    go_ret2
    exact HQ.out
  · have hne : ((e0 : Int) == 0) = false := by simpa using h0
    have HQ : ∀ n, Hid (RunPost I F w (runF ops l s id) (.returned (.tuple #[.string ⟨#[]⟩, .int .i64 e0])) (w3.drewN n)) := fun n => Lib.hid (by
      rw [HRN.out, if_neg h0]
      obtain ⟨q1, q2, q3⟩ := HP.out
      exact ⟨rfl, F3, HKE.out.ok.keep q1 (upd_drewN _ _) (fun _ f => f.elim), q2.trans (upd_drewN _ _) (fun _ f => f.elim), q3⟩)
    clear h0
    go_wp2_with fail
    go_quiet (fail)
    go_wp2_with fail
    go_ret2
    exact (HQ _).out
end
end Go.Proofs.YtlkaikopjjmneaaDoor

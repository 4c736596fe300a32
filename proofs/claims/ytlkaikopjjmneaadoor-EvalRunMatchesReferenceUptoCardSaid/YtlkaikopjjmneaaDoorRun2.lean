/-
  WHAT IS PROVED HERE: the walk of eval's field, at an evaluation as it lies in memory. Conditions: those that the evaluation keeps.
-/
import Derived.Test.YtlkaikopjjmneaaDoorRun1
import Derived.Test.YtlkaikopjjmneaaDoorGrow
import Derived.Deep.RegionWith
namespace Go.Proofs.YtlkaikopjjmneaaDoor
open Go.RowKit
section
variable {S : Type}
theorem EvI.srcStep {env : Env S} {w w1 : World} {x : EvS S} (h : EvI env w x)
    {F' : Nat → Prop} {s' : S} (hi : env.I F' w1 s') (hu : Upd x.F w w1) (hF : ∀ k, F' k → x.F k ∨ w.heap.size ≤ k) :
    EvI env w1 { x with F := F', st := { x.st with src := s' } } ∧ EvStep env w w1 x { x with F := F', st := { x.st with src := s' } } := by
  have hE := h.ltE
  have hord := h.ord
  have hold : ∀ k, k < w.heap.size → ¬ x.F k → ¬ F' k := fun k h1 h2 h3 => by rcases hF k h3 with e | e; exact h2 e; omega
  refine ⟨⟨(hu.block _ hE h.sepE.1).trans h.ev, ?_, h.row.kept hu h.sepF, hi, ?_, ⟨hold _ hE h.sepE.1, hold _ (by omega) h.sepE.2⟩, h.ord, ?_, ?_, ?_, ?_, h.out, h.steps, h.inc⟩,
    ⟨hu.mono (fun k e => .inl (.inr (.inr e))), ?_⟩⟩
  · obtain ⟨es, c, h1, h2⟩ := h.km
    exact ⟨es, c, (hu.block _ (by omega) h.sepE.2).trans h1, h2⟩
  · exact fun k hk => hold k (h.row.lt k hk) (h.sepF k hk)
  · exact h.sees.upd hu (fun a v hv => (h.memF a v hv).2)
  · exact fun a v hv => ⟨(h.memF a v hv).1, hold _ (by have := (h.memF a v hv).1; omega) (h.memF a v hv).2⟩
  · exact tab_upd h.tab hu (by have := h.tabF.1; omega) h.tabF.2
  · exact ⟨h.tabF.1, hold _ (by have := h.tabF.1; omega) h.tabF.2⟩
  · intro k hk
    rcases hk with e | e | e
    · exact .inl (.inl e)
    · exact .inl (.inr (.inl e))
    · exact (hF k e).imp (fun e => .inr (.inr e)) id

theorem NPost.after {env : Env S} {w w1 w' : World} {x x1 : EvS S} {r : Int × St S} {e : Ending} (hs : EvStep env w w1 x x1) (hi : x1.incl = x.incl) (h : NPost env w1 x1 r e w') : NPost env w x r e w' := by
  obtain ⟨x', h1, h2, h3, h4, h5⟩ := h
  refine ⟨x', h1, hs.trans h2, h3, h4, ?_⟩
  rcases h5 with ⟨a, b, c⟩ | h5
  · exact .inl ⟨a, b, c.trans hi⟩
  · exact .inr h5
theorem EvStep.quiet {env : Env S} {w w1 : World} {x : EvS S} (hu : Upd (fun _ => False) w w1) : EvStep env w w1 x x := ⟨hu.mono (fun _ f => f.elim), fun _ f => .inl f⟩
theorem SliceOf.shape {v : Value} {n b o : Nat} (h : SliceOf v n b o) : ∃ ao cap, v = .slice ao n cap ∧ (0 < n → ao = some ⟨b, o, none⟩) ∧ n ≤ big ∧ n ≤ cap := by
  obtain ⟨h1, ao, cap, h2, h3, h4⟩ := h
  exact ⟨ao, cap, h2, h4, h1, h3⟩
theorem Upd.of_below0 {w w' : World} (h : Below w.heap.size w w') : Upd (fun _ => False) w w' := ⟨h.os, h.tape, h.output, h.size, fun k hk _ => h.block k hk⟩
theorem runFilters_drop (l : List ByteArray) (k : Nat) (h : k < l.length) (s : ByteArray) : runFilters (l.drop k) s = match filterF l[k] s with | some t => runFilters (l.drop (k + 1)) (bs t) | none => none := by
  rw [List.drop_eq_getElem_cons h, runFilters]
  cases filterF l[k] s <;> rfl
theorem method_Field (R : Nat) (w : World) : (method 262 29 (.pointer (some ⟨R, 0, none⟩)) "Field").run Tryd.prog w = .ok (73, .pointer (some ⟨R, 0, none⟩)) w := by kernel_rfl

set_option maxRecDepth 100000 in
set_option maxHeartbeats 1000000 in
theorem field_any {ops : Ops S} {env : Env S} {R : Nat} (ok : SrcOK 73 72 80 ops env.base env.mem (.pointer (some ⟨R, 0, none⟩)) env.I env.cnt) (hsv : env.sv = .iface 29 (.pointer (some ⟨R, 0, none⟩)))
    {w : World} {x : EvS S} (h : EvI env w x) (kind count id : Int) (text name arg : ByteArray) (fv kv ev : Value) (filters : List ByteArray) (b o : Nat)
    (hfl : filters.length ≤ 2097152) (hf1 : SliceOf fv filters.length b o) (hf2 : StrsAt env.mem filters b o) (hn : name.size ≤ big) (hc : env.cnt x.st.src + 1 ≤ x.st.steps) :
    Calls Tryd.prog 45 #[.pointer (some ⟨env.E, 0, none⟩), .agg #[.int .i64 kind, .string text, .string name, .string arg, .int .i64 count, fv, kv, ev], .int .i64 id] w (NPost env w x (fieldF ops name filters id x.st)) := by
  obtain ⟨ao, capf, rfl, hao, hfbig, _⟩ := hf1.shape
  have hm := method_Field R
  obtain ⟨w1, HW⟩ := named (w.alloc (.cells #[.int .i64 kind, .string text, .string name, .string arg, .int .i64 count, .slice ao filters.length capf, kv, ev] 52)).drew
  obtain ⟨⟨⟨t, okb⟩, s'⟩, HR⟩ := named (ops.field x.st.src id name)
  have hE1 : EvI env w1 x := by rw [HW.out]; exact h.later ok.keep (upd_box w _)
  have hu1 : Upd (fun _ => False) w w1 := by rw [HW.out]; exact upd_box w _
  have e1 := h.cells.2.1
  rw [hsv] at e1
  have hst := h.steps
  have hlt := h.ltE
  have hcall := ok.field (F := x.F) (w := w1) (s := x.st.src) id name hE1.src hE1.ltB (by omega) hn
  rw [← HR.out] at hcall
  have hcnt := ok.field_cnt x.st.src id name
  rw [← HR.out] at hcnt
  have hlen := ok.field_len x.st.src id name
  rw [← HR.out] at hlen
  have hbox : ∀ w2, Upd x.F w1 w2 → w2.cell? ⟨w.heap.size, 5, none⟩ = some (.slice ao filters.length capf) := by
    intro w2 hu2
    refine (hu2.cell (p := ⟨w.heap.size, 5, none⟩) ?_ ?_).trans ?_
    · rw [HW.out]; simp
    · intro f; have := ok.lt h.src _ f; simp at this
    · rw [HW.out]; simp
  have HBX := Lib.hid hbox
  have HH := Lib.hid h
  have HE := Lib.hid hE1
  have HU := Lib.hid hu1
  have HC := Lib.hid hcall
  have HCN := Lib.hid hcnt
  have HLN := Lib.hid hlen
  clear h hE1 hu1 hcall hcnt hlen hsv hbox
  have hst1 : ∀ F' w2, env.I F' w2 s' → Upd x.F w1 w2 → (∀ k, F' k → x.F k ∨ w1.heap.size ≤ k) → ∃ x1, EvI env w2 x1 ∧ EvStep env w w2 x x1 ∧ x1.st = { x.st with src := s' } ∧ x1.incl = x.incl := fun F' w2 hI hU2 hF2 => by
    have := HE.out.srcStep hI hU2 hF2
    exact ⟨_, this.1, EvStep.trans (x1 := x) ⟨HU.out.mono (fun _ f => f.elim), fun _ f => .inl f⟩ this.2, rfl, rfl⟩
  have HS := Lib.hid hst1
  clear hst1
  cases okb
  · have hr : fieldF ops name filters id x.st = (110, { x.st with src := s' }) := by unfold fieldF; rw [← HR.out]; rfl
    have HRR := Lib.hid hr
    clear hr
    go_enter Tryd.func45, Tryd.ntmps45
    go_wp2_with fail
    go_region_with (go_at_call 73; rw [← HW.out]; (with_reducible refine HC.out.mono ?_); rintro e w2 ⟨v, F', rfl, rfl, hI, hU2, hF2⟩)
    all_goals
      obtain ⟨x1, hx1, hx2, hx3, hx4⟩ := HS.out _ _ hI hU2 hF2
      have HN : Hid (NPost env w x (fieldF ops name filters id x.st) (panics 110) w2) := by
        rw [HRR.out]
        exact ⟨x1, hx1, hx2, hx3, by rw [hx3]; have := HCN.out; simp at this ⊢; omega, .inr ⟨(by show ¬ (110 : Int) = 0; omega), rfl⟩⟩
      clear hx1 hx2 hx3 hx4 hI hU2 hF2
      go_wp2_with (go_at_call 49; (with_reducible refine (fail_any 110 _).mono ?_); rintro e w' ⟨rfl, rfl⟩)
      exact ⟨rfl, HN.out⟩
  · have hr : fieldF ops name filters id x.st = match runFilters filters t with | some s => putF s.data.toList { x.st with src := s' } | none => (110, { x.st with src := s' }) := by unfold fieldF; rw [← HR.out]; rfl
    have HRR := Lib.hid hr
    clear hr
    go_enter Tryd.func45, Tryd.ntmps45
    go_wp2_with fail
    go_region_with (go_at_call 73; rw [← HW.out]; (with_reducible refine HC.out.mono ?_); rintro e w2 ⟨v, F', rfl, rfl, hI, hU2, hF2⟩)
    all_goals
      obtain ⟨x1, hx1, hx2, hx3, hx4⟩ := HS.out _ _ hI hU2 hF2
      have c5 := HBX.out w2 hU2
      have HX := Lib.hid hx1
      have HX2 := Lib.hid hx2
      have HX3 := Lib.hid hx3
      have HX4 := Lib.hid hx4
      have HLE : filters.length ≤ 2097152 := hfl
      clear hx1 hx2 hx3 hx4 hI hU2 hF2
      go_wp2_with fail
      clear c5
      go_loopw [27, 6, 7, 9] (fun i sv okv _ wr => ∃ (k : Nat) (cur : ByteArray), k ≤ filters.length ∧ i = .int .i64 k ∧ sv = .string cur ∧ okv = .bool true ∧ Hid (runFilters filters t = runFilters (filters.drop k) cur) ∧ cur.size ≤ 500 + 2520 * k ∧ sp cur.data.toList ≤ 500 ∧ Upd (fun _ => False) w2 wr) (fun i _ _ _ _ => filters.length - (intOf i).toNat)
      case atStart => exact ⟨0, t, Nat.zero_le _, rfl, rfl, rfl, Lib.hid rfl, by have h1 : t.size ≤ 500 := HLN.out; omega, by have h1 : t.size ≤ 500 := HLN.out; have h2 := sp_le t.data.toList; rw [size_list] at h2; omega, Upd.refl _ _⟩
      case round =>
        obtain ⟨k, cur, hk, rfl, rfl, rfl, HQ, hcs, hsp, huw⟩ := hrel
        have hEw : EvI env wr x1 := HX.out.later ok.keep huw
        have hcs2 : cur.size ≤ 1099511627776 := by omega
        by_cases hlt2 : k < filters.length
        · have hmem := hf2.get k hlt2
          have hrd := hEw.sees _ _ hmem.1
          have hao2 := hao (by omega)
          subst hao2
          have hq := runFilters_drop filters k hlt2 cur
          have HQ2 := Lib.hid hq
          have hfa := filter_any filters[k] cur hcs2 wr hEw.tab
          have HEW := Lib.hid hEw
          generalize filters[k] = fname at *
          clear hmem hq hEw hao
          rcases hres : filterF fname cur with _ | r
          · rw [hres] at hfa
            have HN : ∀ w3, Upd (fun _ => False) wr w3 → NPost env w x (fieldF ops name filters id x.st) (panics 110) w3 := fun w3 hu3 => by
              rw [HRR.out, HQ.out, HQ2.out, hres]
              refine ⟨x1, HEW.out.later ok.keep hu3, HX2.out.trans ((EvStep.quiet huw).trans (EvStep.quiet hu3)), HX3.out, by rw [HX3.out]; have := HCN.out; simp at this ⊢; omega, .inr ⟨(by show ¬ (110 : Int) = 0; omega), rfl⟩⟩
            have HNN := Lib.hid HN
            have HFA : Hid (Calls Tryd.prog 20 #[.string fname, .string cur] wr fun e w' => e = .returned (.tuple #[.string ⟨#[]⟩, .bool false]) ∧ Below wr.heap.size wr w') := hfa
            clear HN hfa hres
            go_wp2_with (first
              | (go_at_call 20; (with_reducible refine HFA.out.mono ?_); rintro e w3 ⟨rfl, hb3⟩)
              | (go_at_call 49; (with_reducible refine (fail_any 110 _).mono ?_); rintro e w' ⟨rfl, rfl⟩))
            exact ⟨rfl, HNN.out _ (Upd.of_below0 hb3)⟩
          · rw [hres] at hfa
            have hgr := filter_grow fname cur r hcs2 hres
            rw [hres] at HQ2
            have HQ3 : Hid (runFilters (filters.drop k) cur = runFilters (filters.drop (k + 1)) (bs r)) := HQ2
            have HFA : Hid (Calls Tryd.prog 20 #[.string fname, .string cur] wr fun e w' => e = .returned (.tuple #[.string (bs r), .bool true]) ∧ Below wr.heap.size wr w') := hfa
            clear hfa hres HQ2
            obtain ⟨hg1, hg2⟩ := hgr
            go_wp2_with (go_at_call 20; (with_reducible refine HFA.out.mono ?_); rintro e w3 ⟨rfl, hb3⟩)
            go_roundw
            case rel => exact ⟨k + 1, bs r, by omega, by go_num, rfl, rfl, Lib.hid (by rw [HQ.out, HQ3.out]), by rw [bs_size]; omega, by rw [bs_list]; omega, huw.trans (Upd.of_below0 hb3) (fun _ f => .inl f)⟩
            case measure => simp [intOf]; omega
        · have hke : k = filters.length := by omega
          have HQ4 : Hid (runFilters filters t = some cur) := Lib.hid (by rw [HQ.out, hke, List.drop_length]; rfl)
          have hcw : env.cnt x1.st.src ≤ x1.st.steps := by rw [HX3.out]; have := HCN.out; simp at this ⊢; omega
          have hput := put_any ok.keep ok.lt hEw cur hcs2 hcw
          have HPU := Lib.hid hput
          have HN : ∀ e w3, NPost env wr x1 (putF cur.data.toList x1.st) e w3 → NPost env w x (fieldF ops name filters id x.st) e w3 := fun e w3 hp => by
            rw [HRR.out, HQ4.out]
            rw [HX3.out] at hp
            exact (hp.after (EvStep.quiet huw) rfl).after HX2.out HX4.out
          have HNN := Lib.hid HN
          clear hEw hcw hput HN
          go_wp2_with fail
          refine HPU.out.mono ?_
          intro e w3 hp
          rcases hp.cases with ⟨h0, rfl⟩ | ⟨h0, rfl⟩
          · go_wp2_with fail
            go_end0
            exact HNN.out _ _ hp
          · have hp2 := HNN.out _ _ hp
            exact ⟨rfl, hp2⟩
end
end Go.Proofs.YtlkaikopjjmneaaDoor

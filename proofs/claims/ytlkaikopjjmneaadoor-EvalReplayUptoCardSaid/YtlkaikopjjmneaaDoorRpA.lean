/-
  WHAT IS PROVED HERE: the evaluation over the replaying source: fields, conditions and inclusions (printed by tools/rep.py). Conditions: those that the evaluation keeps.
-/
import Derived.Test.YtlkaikopjjmneaaDoorRps
import Derived.Deep.RegionWith
namespace Go.Proofs.YtlkaikopjjmneaaDoor.Rep
open Go.RowKit

section
variable {S : Type}
theorem method_Field (R : Nat) (w : World) : (method 262 57 (.pointer (some ⟨R, 0, none⟩)) "Field").run Tryd.prog w = .ok (116, .pointer (some ⟨R, 0, none⟩)) w := by kernel_rfl

set_option maxRecDepth 100000 in
set_option maxHeartbeats 1000000 in
theorem field_any {ops : Ops S} {env : Env S} {R : Nat} (ok : SrcOK 116 118 117 ops env.base env.mem (.pointer (some ⟨R, 0, none⟩)) env.I env.cnt) (hsv : env.sv = .iface 57 (.pointer (some ⟨R, 0, none⟩)))
    {w : World} {x : EvS S} (h : EvI env w x) (kind count id : Int) (text name arg : ByteArray) (fv kv ev : Value) (filters : List ByteArray) (b o : Nat)
    (hfl : filters.length ≤ 2097152) (hf1 : SliceOf fv filters.length b o) (hf2 : StrsAt env.mem filters b o) (hn : name.size ≤ big) (hc : env.cnt x.st.src + 1 ≤ x.st.steps) :
    Calls Tryd.prog 45 #[.pointer (some ⟨env.E, 0, none⟩), .agg #[.int .i64 kind, .string text, .string name, .string arg, .int .i64 count, fv, kv, ev], .int .i64 id] w (NPost env w x (fieldF ops name filters id x.st)) := by
  obtain ⟨ao, capf, rfl, hao, hfbig, _⟩ := hf1.shape
  have hm := method_Field R
  obtain ⟨w1, HW⟩ := named (w.alloc (.cells #[.int .i64 kind, .string text, .string name, .string arg, .int .i64 count, .slice ao filters.length capf, kv, ev] 52)).drew
  obtain ⟨⟨⟨t, okb⟩, s'⟩, HR⟩ := named (ops.field x.st.src id name)
  have hE1 : EvI env w1 x := by rw [HW.out]; exact h.later ok.keep (upd_box w _)
  have hu1 : Upd (fun _ => False) w w1 := by rw [HW.out]; exact upd_box w _
  have e1 := h.cells.2.1
  rw [hsv] at e1
  have hst := h.steps
  have hlt := h.ltE
  have hcall := ok.field (F := x.F) (w := w1) (s := x.st.src) id name hE1.src hE1.ltB (by omega) hn
  rw [← HR.out] at hcall
  have hcnt := ok.field_cnt x.st.src id name
  rw [← HR.out] at hcnt
  have hlen := ok.field_len x.st.src id name
  rw [← HR.out] at hlen
  have hbox : ∀ w2, Upd x.F w1 w2 → w2.cell? ⟨w.heap.size, 5, none⟩ = some (.slice ao filters.length capf) := by
    intro w2 hu2
    refine (hu2.cell (p := ⟨w.heap.size, 5, none⟩) ?_ ?_).trans ?_
    · rw [HW.out]; simp
    · intro f; have := ok.lt h.src _ f; simp at this
    · rw [HW.out]; simp
  have HBX := Lib.hid hbox
  have HH := Lib.hid h
  have HE := Lib.hid hE1
  have HU := Lib.hid hu1
  have HC := Lib.hid hcall
  have HCN := Lib.hid hcnt
  have HLN := Lib.hid hlen
  clear h hE1 hu1 hcall hcnt hlen hsv hbox
  have hst1 : ∀ F' w2, env.I F' w2 s' → Upd x.F w1 w2 → (∀ k, F' k → x.F k ∨ w1.heap.size ≤ k) → ∃ x1, EvI env w2 x1 ∧ EvStep env w w2 x x1 ∧ x1.st = { x.st with src := s' } ∧ x1.incl = x.incl := fun F' w2 hI hU2 hF2 => by
    have := HE.out.srcStep hI hU2 hF2
    exact ⟨_, this.1, EvStep.trans (x1 := x) ⟨HU.out.mono (fun _ f => f.elim), fun _ f => .inl f⟩ this.2, rfl, rfl⟩
  have HS := Lib.hid hst1
  clear hst1
  cases okb
  · have hr : fieldF ops name filters id x.st = (110, { x.st with src := s' }) := by unfold fieldF; rw [← HR.out]; rfl
    have HRR := Lib.hid hr
    clear hr
    go_enter Tryd.func45, Tryd.ntmps45
    go_wp2_with fail
    go_region_with (go_at_call 116; rw [← HW.out]; (with_reducible refine HC.out.mono ?_); rintro e w2 ⟨v, F', rfl, rfl, hI, hU2, hF2⟩)
    all_goals
      obtain ⟨x1, hx1, hx2, hx3, hx4⟩ := HS.out _ _ hI hU2 hF2
      have HN : Hid (NPost env w x (fieldF ops name filters id x.st) (panics 110) w2) := by
        rw [HRR.out]
        exact ⟨x1, hx1, hx2, hx3, by rw [hx3]; have := HCN.out; simp at this ⊢; omega, .inr ⟨(by show ¬ (110 : Int) = 0; omega), rfl⟩⟩
      clear hx1 hx2 hx3 hx4 hI hU2 hF2
      go_wp2_with (go_at_call 49; (with_reducible refine (fail_any 110 _).mono ?_); rintro e w' ⟨rfl, rfl⟩)
      exact ⟨rfl, HN.out⟩
  · have hr : fieldF ops name filters id x.st = match runFilters filters t with | some s => putF s.data.toList { x.st with src := s' } | none => (110, { x.st with src := s' }) := by unfold fieldF; rw [← HR.out]; rfl
    have HRR := Lib.hid hr
    clear hr
    go_enter Tryd.func45, Tryd.ntmps45
    go_wp2_with fail
    go_region_with (go_at_call 116; rw [← HW.out]; (with_reducible refine HC.out.mono ?_); rintro e w2 ⟨v, F', rfl, rfl, hI, hU2, hF2⟩)
    all_goals
      obtain ⟨x1, hx1, hx2, hx3, hx4⟩ := HS.out _ _ hI hU2 hF2
      have c5 := HBX.out w2 hU2
      have HX := Lib.hid hx1
      have HX2 := Lib.hid hx2
      have HX3 := Lib.hid hx3
      have HX4 := Lib.hid hx4
      have HLE : filters.length ≤ 2097152 := hfl
      clear hx1 hx2 hx3 hx4 hI hU2 hF2
      go_wp2_with fail
      clear c5
      go_loopw [27, 6, 7, 9] (fun i sv okv _ wr => ∃ (k : Nat) (cur : ByteArray), k ≤ filters.length ∧ i = .int .i64 k ∧ sv = .string cur ∧ okv = .bool true ∧ Hid (runFilters filters t = runFilters (filters.drop k) cur) ∧ cur.size ≤ 500 + 2520 * k ∧ sp cur.data.toList ≤ 500 ∧ Upd (fun _ => False) w2 wr) (fun i _ _ _ _ => filters.length - (intOf i).toNat)
      case atStart => exact ⟨0, t, Nat.zero_le _, rfl, rfl, rfl, Lib.hid rfl, by have h1 : t.size ≤ 500 := HLN.out; omega, by have h1 : t.size ≤ 500 := HLN.out; have h2 := sp_le t.data.toList; rw [size_list] at h2; omega, Upd.refl _ _⟩
      case round =>
        obtain ⟨k, cur, hk, rfl, rfl, rfl, HQ, hcs, hsp, huw⟩ := hrel
        have hEw : EvI env wr x1 := HX.out.later ok.keep huw
        have hcs2 : cur.size ≤ 1099511627776 := by omega
        by_cases hlt2 : k < filters.length
        · have hmem := hf2.get k hlt2
          have hrd := hEw.sees _ _ hmem.1
          have hao2 := hao (by omega)
          subst hao2
          have hq := runFilters_drop filters k hlt2 cur
          have HQ2 := Lib.hid hq
          have hfa := filter_any filters[k] cur hcs2 wr hEw.tab
          have HEW := Lib.hid hEw
          generalize filters[k] = fname at *
          clear hmem hq hEw hao
          rcases hres : filterF fname cur with _ | r
          · rw [hres] at hfa
            have HN : ∀ w3, Upd (fun _ => False) wr w3 → NPost env w x (fieldF ops name filters id x.st) (panics 110) w3 := fun w3 hu3 => by
              rw [HRR.out, HQ.out, HQ2.out, hres]
              refine ⟨x1, HEW.out.later ok.keep hu3, HX2.out.trans ((EvStep.quiet huw).trans (EvStep.quiet hu3)), HX3.out, by rw [HX3.out]; have := HCN.out; simp at this ⊢; omega, .inr ⟨(by show ¬ (110 : Int) = 0; omega), rfl⟩⟩
            have HNN := Lib.hid HN
            have HFA : Hid (Calls Tryd.prog 20 #[.string fname, .string cur] wr fun e w' => e = .returned (.tuple #[.string ⟨#[]⟩, .bool false]) ∧ Below wr.heap.size wr w') := hfa
            clear HN hfa hres
            go_wp2_with (first
              | (go_at_call 20; (with_reducible refine HFA.out.mono ?_); rintro e w3 ⟨rfl, hb3⟩)
              | (go_at_call 49; (with_reducible refine (fail_any 110 _).mono ?_); rintro e w' ⟨rfl, rfl⟩))
            exact ⟨rfl, HNN.out _ (Upd.of_below0 hb3)⟩
          · rw [hres] at hfa
            have hgr := filter_grow fname cur r hcs2 hres
            rw [hres] at HQ2
            have HQ3 : Hid (runFilters (filters.drop k) cur = runFilters (filters.drop (k + 1)) (bs r)) := HQ2
            have HFA : Hid (Calls Tryd.prog 20 #[.string fname, .string cur] wr fun e w' => e = .returned (.tuple #[.string (bs r), .bool true]) ∧ Below wr.heap.size wr w') := hfa
            clear hfa hres HQ2
            obtain ⟨hg1, hg2⟩ := hgr
            go_wp2_with (go_at_call 20; (with_reducible refine HFA.out.mono ?_); rintro e w3 ⟨rfl, hb3⟩)
            go_roundw
            case rel => exact ⟨k + 1, bs r, by omega, by go_num, rfl, rfl, Lib.hid (by rw [HQ.out, HQ3.out]), by rw [bs_size]; omega, by rw [bs_list]; omega, huw.trans (Upd.of_below0 hb3) (fun _ f => .inl f)⟩
            case measure => simp [intOf]; omega
        · have hke : k = filters.length := by omega
          have HQ4 : Hid (runFilters filters t = some cur) := Lib.hid (by rw [HQ.out, hke, List.drop_length]; rfl)
          have hcw : env.cnt x1.st.src ≤ x1.st.steps := by rw [HX3.out]; have := HCN.out; simp at this ⊢; omega
          have hput := put_any ok.keep ok.lt hEw cur hcs2 hcw
          have HPU := Lib.hid hput
          have HN : ∀ e w3, NPost env wr x1 (putF cur.data.toList x1.st) e w3 → NPost env w x (fieldF ops name filters id x.st) e w3 := fun e w3 hp => by
            rw [HRR.out, HQ4.out]
            rw [HX3.out] at hp
            exact (hp.after (EvStep.quiet huw) rfl).after HX2.out HX4.out
          have HNN := Lib.hid HN
          clear hEw hcw hput HN
          go_wp2_with fail
          refine HPU.out.mono ?_
          intro e w3 hp
          rcases hp.cases with ⟨h0, rfl⟩ | ⟨h0, rfl⟩
          · go_wp2_with fail
            go_end0
            exact HNN.out _ _ hp
          · have hp2 := HNN.out _ _ hp
            exact ⟨rfl, hp2⟩
end
section
variable {S : Type}
set_option maxRecDepth 100000 in
set_option maxHeartbeats 1000000 in
theorem condition_any {ops : Ops S} {env : Env S} {R : Nat} (ok : SrcOK 116 118 117 ops env.base env.mem (.pointer (some ⟨R, 0, none⟩)) env.I env.cnt) (hsv : env.sv = .iface 57 (.pointer (some ⟨R, 0, none⟩)))
    {w : World} {x : EvS S} (h : EvI env w x) (kind count id : Int) (text name arg : ByteArray) (fv kv ev : Value) (kids els : List Node) (bk ok' be oe : Nat)
    (hk1 : SliceOf kv kids.length bk ok') (hk2 : NodesAt env.mem kids bk ok') (he1 : SliceOf ev els.length be oe) (he2 : NodesAt env.mem els be oe)
    (hkids : ListOK ops env x.incl kids) (hels : ListOK ops env x.incl els) (hn : name.size ≤ big) (hc : env.cnt x.st.src + 1 ≤ x.st.steps) :
    Calls Tryd.prog 47 #[.pointer (some ⟨env.E, 0, none⟩), .agg #[.int .i64 kind, .string text, .string name, .string arg, .int .i64 count, fv, kv, ev], .int .i64 id] w (NPost env w x (condF ops x.incl name kids els id x.st)) := by
  have hm := method_Field R
  obtain ⟨w1, HW⟩ := named (w.alloc (.cells #[.int .i64 kind, .string text, .string name, .string arg, .int .i64 count, fv, kv, ev] 52)).drew
  obtain ⟨⟨⟨t, okb⟩, s'⟩, HR⟩ := named (ops.field x.st.src id name)
  have hE1 : EvI env w1 x := by rw [HW.out]; exact h.later ok.keep (upd_box w _)
  have hu1 : Upd (fun _ => False) w w1 := by rw [HW.out]; exact upd_box w _
  have e1 := h.cells.2.1
  rw [hsv] at e1
  have hst := h.steps
  have hlt := h.ltE
  have hcall := ok.field (F := x.F) (w := w1) (s := x.st.src) id name hE1.src hE1.ltB (by omega) hn
  rw [← HR.out] at hcall
  have hcnt := ok.field_cnt x.st.src id name
  rw [← HR.out] at hcnt
  have hbox : ∀ w2, Upd x.F w1 w2 → w2.cell? ⟨w.heap.size, 6, none⟩ = some kv ∧ w2.cell? ⟨w.heap.size, 7, none⟩ = some ev := by
    intro w2 hu2
    have hnf : ¬ x.F w.heap.size := fun f => by have := ok.lt h.src _ f; omega
    have hlt1 : w.heap.size < w1.heap.size := by rw [HW.out]; simp
    refine ⟨(hu2.cell (p := ⟨w.heap.size, 6, none⟩) hlt1 hnf).trans ?_, (hu2.cell (p := ⟨w.heap.size, 7, none⟩) hlt1 hnf).trans ?_⟩
    · rw [HW.out]; simp
    · rw [HW.out]; simp
  have HBX := Lib.hid hbox
  have HE := Lib.hid hE1
  have HU := Lib.hid hu1
  have HC := Lib.hid hcall
  have hst1 : ∀ F' w2, env.I F' w2 s' → Upd x.F w1 w2 → (∀ k, F' k → x.F k ∨ w1.heap.size ≤ k) →
      (∀ (l : List Node) (v : Value) (b o : Nat), ListOK ops env x.incl l → SliceOf v l.length b o → NodesAt env.mem l b o →
        Calls Tryd.prog 26 #[.pointer (some ⟨env.E, 0, none⟩), v, .int .i64 id] w2 (NPost env w x (evD ops (3 - x.incl) l id { x.st with src := s' }))) := fun F' w2 hI hU2 hF2 l v b o hl h1 h2 => by
    have := HE.out.srcStep hI hU2 hF2
    have hs : EvStep env w w2 x _ := EvStep.trans (x1 := x) ⟨HU.out.mono (fun _ f => f.elim), fun _ f => .inl f⟩ this.2
    refine (hl id v b o w2 { x with F := F', st := { x.st with src := s' } } rfl this.1 (by simp at hcnt ⊢; omega) h1 h2).mono fun e w3 hp => ?_
    exact hp.after hs rfl
  have HS := Lib.hid hst1
  clear h hE1 hu1 hcall hsv hbox hcnt hst1
  have HKI := Lib.hid hkids
  have HEL := Lib.hid hels
  have hr : condF ops x.incl name kids els id x.st = if okb && !t.data.toList.isEmpty then evD ops (3 - x.incl) kids id { x.st with src := s' } else evD ops (3 - x.incl) els id { x.st with src := s' } := by unfold condF; rw [← HR.out]
  have HRR := Lib.hid hr
  clear hr hkids hels
  cases okb
  · have HR2 : Hid (condF ops x.incl name kids els id x.st = evD ops (3 - x.incl) els id { x.st with src := s' }) := HRR
    go_enter Tryd.func47, Tryd.ntmps47
    go_wp2_with fail
    go_region_with (go_at_call 116; rw [← HW.out]; (with_reducible refine HC.out.mono ?_); rintro e w2 ⟨v, F', rfl, rfl, hI, hU2, hF2⟩)
    all_goals
      obtain ⟨c6, c7⟩ := HBX.out w2 hU2
      have hcl := HS.out _ _ hI hU2 hF2 els ev be oe HEL.out he1 he2
      rw [← HR2.out] at hcl
      have HCL := Lib.hid hcl
      clear hI hU2 hF2 hcl
      go_wp2_with fail
      refine HCL.out.mono ?_
      intro e w3 hp
      rcases hp.cases with ⟨h0, rfl⟩ | ⟨h0, rfl⟩
      · go_wp2_with fail
        go_end0
        exact hp
      · exact ⟨rfl, hp⟩
  · rcases ht : t.data.toList.isEmpty
    · have HR2 : Hid (condF ops x.incl name kids els id x.st = evD ops (3 - x.incl) kids id { x.st with src := s' }) := Lib.hid (by rw [HRR.out, ht]; rfl)
      have hte : t.toList.isEmpty = false := by rw [ByteArray.toList_eq]; exact ht
      have hte2 : (!t.toList.isEmpty) = true := by rw [hte]; rfl
      clear ht
      go_enter Tryd.func47, Tryd.ntmps47
      go_wp2_with fail
      go_region_with (go_at_call 116; rw [← HW.out]; (with_reducible refine HC.out.mono ?_); rintro e w2 ⟨v, F', rfl, rfl, hI, hU2, hF2⟩)
      all_goals
        obtain ⟨c6, c7⟩ := HBX.out w2 hU2
        have hcl := HS.out _ _ hI hU2 hF2 kids kv bk ok' HKI.out hk1 hk2
        rw [← HR2.out] at hcl
        have HCL := Lib.hid hcl
        clear hI hU2 hF2 hcl
        go_wp2_with fail
        refine HCL.out.mono ?_
        intro e w3 hp
        rcases hp.cases with ⟨h0, rfl⟩ | ⟨h0, rfl⟩
        · go_wp2_with fail
          go_end0
          exact hp
        · exact ⟨rfl, hp⟩
    · have HR2 : Hid (condF ops x.incl name kids els id x.st = evD ops (3 - x.incl) els id { x.st with src := s' }) := Lib.hid (by rw [HRR.out, ht]; rfl)
      have hte : t.toList.isEmpty = true := by rw [ByteArray.toList_eq]; exact ht
      have hte2 : (!t.toList.isEmpty) = false := by rw [hte]; rfl
      clear ht
      go_enter Tryd.func47, Tryd.ntmps47
      go_wp2_with fail
      go_region_with (go_at_call 116; rw [← HW.out]; (with_reducible refine HC.out.mono ?_); rintro e w2 ⟨v, F', rfl, rfl, hI, hU2, hF2⟩)
      all_goals
        obtain ⟨c6, c7⟩ := HBX.out w2 hU2
        have hcl := HS.out _ _ hI hU2 hF2 els ev be oe HEL.out he1 he2
        rw [← HR2.out] at hcl
        have HCL := Lib.hid hcl
        clear hI hU2 hF2 hcl
        go_wp2_with fail
        refine HCL.out.mono ?_
        intro e w3 hp
        rcases hp.cases with ⟨h0, rfl⟩ | ⟨h0, rfl⟩
        · go_wp2_with fail
          go_end0
          exact hp
        · exact ⟨rfl, hp⟩

theorem method_Include (R : Nat) (w : World) : (method 262 57 (.pointer (some ⟨R, 0, none⟩)) "Include").run Tryd.prog w = .ok (117, .pointer (some ⟨R, 0, none⟩)) w := by kernel_rfl
set_option maxRecDepth 100000 in
set_option maxHeartbeats 1000000 in
theorem include_any {ops : Ops S} {env : Env S} {R : Nat} (ok : SrcOK 116 118 117 ops env.base env.mem (.pointer (some ⟨R, 0, none⟩)) env.I env.cnt) (hsv : env.sv = .iface 57 (.pointer (some ⟨R, 0, none⟩)))
    {w : World} {x : EvS S} (h : EvI env w x) (kind count id : Int) (text name arg : ByteArray) (fv kv ev : Value)
    (hincl : x.incl < 3 → ∀ l, ListOK ops env (x.incl + 1) l) (hn : name.size ≤ big) (hc : env.cnt x.st.src + 1 ≤ x.st.steps) :
    Calls Tryd.prog 48 #[.pointer (some ⟨env.E, 0, none⟩), .agg #[.int .i64 kind, .string text, .string name, .string arg, .int .i64 count, fv, kv, ev], .int .i64 id] w (NPost env w x (incC ops x.incl name id x.st)) := by
  have hE1 : ∀ o, EvI env (w.alloc o) x := fun o => h.later ok.keep (upd_box1 w _)
  have e1 := h.cells.2.1
  have e4 := h.cells.2.2.2.2
  rw [hsv] at e1
  have hst := h.steps
  have hlt := h.ltE
  have HE1 := Lib.hid hE1
  by_cases hin : 3 ≤ x.incl
  · have hx3 : x.incl = 3 := by have := h.inc; omega
    have hr : incC ops x.incl name id x.st = (111, x.st) := by unfold incC; rw [hx3]; rfl
    have HN : ∀ o, Hid (NPost env w x (incC ops x.incl name id x.st) (panics 111) (w.alloc o)) := fun o => by
      rw [hr]
      exact ⟨x, h.later ok.keep (upd_box1 w _), EvStep.quiet (upd_box1 w _), rfl, by omega, .inr ⟨(by show ¬ (111 : Int) = 0; omega), rfl⟩⟩
    clear hr h hE1 hx3
    go_enter Tryd.func48, Tryd.ntmps48
    go_wp2_with (go_at_call 49; (with_reducible refine (fail_any 111 _).mono ?_); rintro e w' ⟨rfl, rfl⟩)
    exact ⟨rfl, (HN _).out⟩
  · have hlt3 : x.incl < 3 := by omega
    have hm := method_Include R
    obtain ⟨w1, HW⟩ := named (w.alloc (.cells #[.int .i64 kind, .string text, .string name, .string arg, .int .i64 count, fv, kv, ev] 52)).drew
    obtain ⟨⟨⟨ns, okb⟩, s'⟩, HR⟩ := named (ops.incl x.st.src name)
    have hE1' : EvI env w1 x := by rw [HW.out]; exact h.later ok.keep (upd_box w _)
    have hu1 : Upd (fun _ => False) w w1 := by rw [HW.out]; exact upd_box w _
    have hcall := ok.incl (F := x.F) (w := w1) (s := x.st.src) name hE1'.src hE1'.ltB (by omega) hn
    rw [← HR.out] at hcall
    have hcnt := ok.incl_cnt x.st.src name
    rw [← HR.out] at hcnt
    have hr : incC ops x.incl name id x.st = if okb then evD ops (3 - (x.incl + 1)) ns id { x.st with src := s' } else (110, { x.st with src := s' }) := by
      unfold incC
      obtain ⟨d, hd⟩ : ∃ d, 3 - x.incl = d + 1 := ⟨2 - x.incl, by omega⟩
      rw [hd, show 3 - (x.incl + 1) = d by omega]
      show (if (ops.incl x.st.src name).1.2 = true then evD ops d (ops.incl x.st.src name).1.1 id { x.st with src := (ops.incl x.st.src name).2 } else (110, { x.st with src := (ops.incl x.st.src name).2 })) = _
      rw [← HR.out]
    have HRR := Lib.hid hr
    have hst1 : ∀ F' w2, env.I F' w2 s' → Upd x.F w1 w2 → (∀ k, F' k → x.F k ∨ w1.heap.size ≤ k) → ∃ x1, EvI env w2 x1 ∧ EvStep env w w2 x x1 ∧ x1.st = { x.st with src := s' } ∧ x1.incl = x.incl := fun F' w2 hI hU2 hF2 => by
      have := hE1'.srcStep hI hU2 hF2
      exact ⟨_, this.1, EvStep.trans (x1 := x) ⟨hu1.mono (fun _ f => f.elim), fun _ f => .inl f⟩ this.2, rfl, rfl⟩
    have HS := Lib.hid hst1
    have HC := Lib.hid hcall
    have HCN : env.cnt s' ≤ x.st.steps := by simp at hcnt; omega
    have HI := Lib.hid hincl
    clear h hE1 hE1' hu1 hcall hcnt hst1 hr hsv hincl
    cases okb
    · have HR2 : Hid (incC ops x.incl name id x.st = (110, { x.st with src := s' })) := HRR
      go_enter Tryd.func48, Tryd.ntmps48
      go_wp2_with fail
      go_region_with (go_at_call 117; rw [← HW.out]; (with_reducible refine HC.out.mono ?_); rintro e w2 ⟨v, F', rfl, ⟨lv, b, o, rfl, h1, h2⟩, hI, hU2, hF2⟩)
      all_goals
        obtain ⟨x1, hx1, hx2, hx3, hx4⟩ := HS.out _ _ hI hU2 hF2
        have HN : Hid (NPost env w x (incC ops x.incl name id x.st) (panics 110) w2) := by
          rw [HR2.out]
          exact ⟨x1, hx1, hx2, hx3, by rw [hx3]; exact HCN, .inr ⟨(by show ¬ (110 : Int) = 0; omega), rfl⟩⟩
        clear hx1 hx2 hx3 hx4 hI hU2 hF2 h1 h2
        go_wp2_with (go_at_call 49; (with_reducible refine (fail_any 110 _).mono ?_); rintro e w' ⟨rfl, rfl⟩)
        exact ⟨rfl, HN.out⟩
    · have HR2 : Hid (incC ops x.incl name id x.st = evD ops (3 - (x.incl + 1)) ns id { x.st with src := s' }) := HRR
      go_enter Tryd.func48, Tryd.ntmps48
      go_wp2_with fail
      go_region_with (go_at_call 117; rw [← HW.out]; (with_reducible refine HC.out.mono ?_); rintro e w2 ⟨v, F', rfl, ⟨lv, b, o, rfl, h1, h2⟩, hI, hU2, hF2⟩)
      all_goals
        obtain ⟨x1, hx1, hx2, hx3, hx4⟩ := HS.out _ _ hI hU2 hF2
        have c4 := hx1.cells.2.2.2.2
        have f4 := hx1.free 4
        rw [hx4] at c4
        have hput := hx1.setE ok.keep 4 (.int .i64 (x.incl + 1 : Nat)) { x1 with incl := x.incl + 1 } rfl rfl rfl rfl hx1.steps (by show x.incl + 1 ≤ 3; omega) rfl
        have hcl := HI.out hlt3 ns id lv b o _ { x1 with incl := x.incl + 1 } rfl hput.1 (by show env.cnt x1.st.src ≤ x1.st.steps; rw [hx3]; exact HCN) h1 h2
        have hst2 : EvStep env w (w2.setCell ⟨env.E, 4, none⟩ (.int .i64 (x.incl + 1 : Nat))) x { x1 with incl := x.incl + 1 } := hx2.trans hput.2
        have e5 : ((x.incl + 1 : Nat) : Int) = (x.incl : Int) + 1 := by omega
        have hst3 : ∀ e w3, NPost env (w2.setCell ⟨env.E, 4, none⟩ (.int .i64 (x.incl + 1 : Nat))) { x1 with incl := x.incl + 1 } (evD ops (3 - (x.incl + 1)) ns id x1.st) e w3 →
            ((evD ops (3 - (x.incl + 1)) ns id x1.st).1 ≠ 0 ∧ e = panics (evD ops (3 - (x.incl + 1)) ns id x1.st).1 ∧ NPost env w x (incC ops x.incl name id x.st) e w3) ∨
            (e = .returned (.tuple #[]) ∧ w3.cell? ⟨env.E, 4, none⟩ = some (.int .i64 (x.incl + 1 : Nat)) ∧ w3.frozen? ⟨env.E, 4, none⟩ = false ∧ NPost env w x (incC ops x.incl name id x.st) e (w3.setCell ⟨env.E, 4, none⟩ (.int .i64 x.incl))) := by
          rintro e w3 ⟨x2, g1, g2, g3, g4, g5⟩
          have hsteps := hst2.trans g2
          rcases g5 with ⟨g5, g6, g7⟩ | ⟨g5, g6⟩
          · right
            have hc4 := g1.cells.2.2.2.2
            rw [g7] at hc4
            have hp2 := g1.setE ok.keep 4 (.int .i64 x.incl) { x2 with incl := x.incl } rfl rfl rfl rfl g1.steps (by show x.incl ≤ 3; omega) rfl
            refine ⟨g6, hc4, g1.free 4, ?_⟩
            rw [HR2.out, ← hx3]
            exact ⟨_, hp2.1, hsteps.trans hp2.2, g3, g4, .inl ⟨g5, g6, rfl⟩⟩
          · left
            refine ⟨g5, g6, ?_⟩
            rw [HR2.out, ← hx3]
            exact ⟨x2, g1, hsteps, g3, g4, .inr ⟨g5, g6⟩⟩
        rw [e5] at hcl hst3
        have HCL := Lib.hid hcl
        have HS3 := Lib.hid hst3
        clear hx1 hx2 hx3 hx4 hI hU2 hF2 h1 h2 hput hcl hst2 hst3 e5
        go_wp2_with fail
        refine HCL.out.mono ?_
        intro e w3 hp
        rcases HS3.out e w3 hp with ⟨_, rfl, hf⟩ | ⟨rfl, c5, f5, hf⟩
        · exact ⟨rfl, hf⟩
        · have HF := Lib.hid hf
          clear hf hp
          go_wp2_with fail
          go_end0
          exact HF.out
end
end Go.Proofs.YtlkaikopjjmneaaDoor.Rep

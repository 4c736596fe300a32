/-
  WHAT IS PROVED HERE: the walk of eval's loop, given what the evaluation of lists of nodes does. Conditions: those that the evaluation keeps.
-/
import Derived.Test.YtlkaikopjjmneaaDoorRun3
namespace Go.Proofs.YtlkaikopjjmneaaDoor
open Go.RowKit
section
variable {S : Type}
theorem method_List (R : Nat) (w : World) : (method 262 29 (.pointer (some ⟨R, 0, none⟩)) "List").run Tryd.prog w = .ok (72, .pointer (some ⟨R, 0, none⟩)) w := by kernel_rfl
def loopC (ops : Ops S) (c : Nat) (name arg : ByteArray) (count : Int) (kids els : List Node) (id : Int) (st : St S) : Int × St S :=
  let r := ops.list st.src id name arg count
  let st1 : St S := { st with src := r.2 }
  if r.1 = [] then evD ops (3 - c) els id st1
  else if kids.isEmpty then (0, st1)
  else seqIds (fun i s => evD ops (3 - c) kids i s) r.1 st1
theorem seqIds_drop (f : Int → St S → Int × St S) (l : List Int) (k : Nat) (h : k < l.length) (st : St S) : seqIds f (l.drop k) st = if (f l[k] st).1 = 0 then seqIds f (l.drop (k + 1)) (f l[k] st).2 else f l[k] st := by
  rw [List.drop_eq_getElem_cons h, seqIds]

set_option maxRecDepth 100000 in
set_option maxHeartbeats 1000000 in
theorem loop_any {ops : Ops S} {env : Env S} {R : Nat} (ok : SrcOK 73 72 80 ops env.base env.mem (.pointer (some ⟨R, 0, none⟩)) env.I env.cnt) (hsv : env.sv = .iface 29 (.pointer (some ⟨R, 0, none⟩)))
    {w : World} {x : EvS S} (h : EvI env w x) (kind count id : Int) (text name arg : ByteArray) (fv kv ev : Value) (kids els : List Node) (bk ok' be oe : Nat)
    (hk1 : SliceOf kv kids.length bk ok') (hk2 : NodesAt env.mem kids bk ok') (he1 : SliceOf ev els.length be oe) (he2 : NodesAt env.mem els be oe)
    (hkids : ListOK ops env x.incl kids) (hels : ListOK ops env x.incl els) (hn : name.size ≤ big) (harg : arg.size ≤ big) (hc : env.cnt x.st.src + 1 ≤ x.st.steps) :
    Calls Tryd.prog 46 #[.pointer (some ⟨env.E, 0, none⟩), .agg #[.int .i64 kind, .string text, .string name, .string arg, .int .i64 count, fv, kv, ev], .int .i64 id] w (NPost env w x (loopC ops x.incl name arg count kids els id x.st)) := by
  obtain ⟨kao, kcap, rfl, hkao, hkbig, _⟩ := hk1.shape
  have hm := method_List R
  obtain ⟨w1, HW⟩ := named (w.alloc (.cells #[.int .i64 kind, .string text, .string name, .string arg, .int .i64 count, fv, .slice kao kids.length kcap, ev] 52)).drew
  obtain ⟨⟨ids, s'⟩, HR⟩ := named (ops.list x.st.src id name arg count)
  have hE1 : EvI env w1 x := by rw [HW.out]; exact h.later ok.keep (upd_box w _)
  have hu1 : Upd (fun _ => False) w w1 := by rw [HW.out]; exact upd_box w _
  have e1 := h.cells.2.1
  rw [hsv] at e1
  have hst := h.steps
  have hlt := h.ltE
  have hcall := ok.list (F := x.F) (w := w1) (s := x.st.src) id name arg count hE1.src hE1.ltB (by omega) hn harg
  rw [← HR.out] at hcall
  have hcnt := ok.list_cnt x.st.src id name arg count
  rw [← HR.out] at hcnt
  have hlen := ok.list_len x.st.src id name arg count
  rw [← HR.out] at hlen
  have HLN : ids.length ≤ 2000 := hlen
  have HCN : env.cnt s' ≤ x.st.steps := by simp at hcnt; omega
  have hsz1 : w1.heap.size = w.heap.size + 1 := by rw [HW.out]; simp
  have hcells1 : w1.cell? ⟨w.heap.size, 6, none⟩ = some (.slice kao kids.length kcap) ∧ w1.cell? ⟨w.heap.size, 7, none⟩ = some ev := by rw [HW.out]; simp
  have hst1 : ∀ F' w2, env.I F' w2 s' → Upd x.F w1 w2 → (∀ k, F' k → x.F k ∨ w1.heap.size ≤ k) → ∃ x1, EvI env w2 x1 ∧ EvStep env w w2 x x1 ∧ x1.st = { x.st with src := s' } ∧ x1.incl = x.incl ∧
      ¬ Foot env x1 w.heap.size ∧ (∀ k, Foot env x1 k → k < w2.heap.size) ∧ w.heap.size < w2.heap.size ∧
      w2.cell? ⟨w.heap.size, 6, none⟩ = some (.slice kao kids.length kcap) ∧ w2.cell? ⟨w.heap.size, 7, none⟩ = some ev := fun F' w2 hI hU2 hF2 => by
    have := hE1.srcStep hI hU2 hF2
    have hnf : ¬ x.F w.heap.size := fun f => by have := ok.lt h.src _ f; omega
    refine ⟨{ x with F := F', st := { x.st with src := s' } }, this.1, EvStep.trans (x1 := x) ⟨hu1.mono (fun _ f => f.elim), fun _ f => .inl f⟩ this.2, rfl, rfl, ?_, ?_, by have := hU2.size; omega, ?_, ?_⟩
    · intro hf
      rcases hf with hf | hf | hf
      · omega
      · have := h.row.lt _ hf; omega
      · rcases hF2 _ hf with f | f
        · exact hnf f
        · omega
    · intro k hf
      have hs2 := hU2.size
      rcases hf with hf | hf | hf
      · omega
      · have := h.row.lt _ hf; omega
      · exact ok.lt hI k hf
    · exact (hU2.cell (p := ⟨w.heap.size, 6, none⟩) (by show w.heap.size < _; omega) hnf).trans hcells1.1
    · exact (hU2.cell (p := ⟨w.heap.size, 7, none⟩) (by show w.heap.size < _; omega) hnf).trans hcells1.2
  have hr : loopC ops x.incl name arg count kids els id x.st = if ids = [] then evD ops (3 - x.incl) els id { x.st with src := s' } else if kids.isEmpty then (0, { x.st with src := s' }) else seqIds (fun i s => evD ops (3 - x.incl) kids i s) ids { x.st with src := s' } := by unfold loopC; rw [← HR.out]
  have HRR := Lib.hid hr
  have HS := Lib.hid hst1
  have HC := Lib.hid hcall
  have HKI := Lib.hid hkids
  have HEL := Lib.hid hels
  clear h hE1 hu1 hcall hcnt hlen hst1 hr hsv hkids hels hsz1 hcells1
  by_cases hids : ids = []
  · have HR2 : Hid (loopC ops x.incl name arg count kids els id x.st = evD ops (3 - x.incl) els id { x.st with src := s' }) := Lib.hid (by rw [HRR.out, if_pos hids])
    subst hids
    go_enter Tryd.func46, Tryd.ntmps46
    go_wp2_with fail
    refine wp_tail 11 (by kernel_rfl) (by kernel_rfl) ?_
    simp only [List.take_succ_cons, List.take_zero, List.drop_succ_cons, List.drop_zero]
    repeat still_step
    refine wpStill_nil ?_
    go_wp2_with (go_at_call 72; rw [← HW.out]; (with_reducible refine HC.out.mono ?_); rintro e w2 ⟨v, F', rfl, ⟨b, o, hsl, hce⟩, hI, hU2, hF2⟩; obtain ⟨ao, cap, rfl, _, _, _⟩ := hsl.shape; obtain ⟨x1, hx1, hx2, hx3, hx4, h16, h17, h18, c6, c7⟩ := HS.out _ _ hI hU2 hF2; have HX := Lib.hid (And.intro hx1 (And.intro hx2 (And.intro hx3 hx4))); clear hx1 hx2 hx3 hx4 hI hU2 hF2 h16 h17 hce hsl)
    obtain ⟨hx1, hx2, hx3, hx4⟩ := HX.out
    have hcl := HEL.out id ev be oe w2 x1 hx4 hx1 (by rw [hx3]; exact HCN) he1 he2
    refine hcl.mono ?_
    intro e w3 hp0
    have hp : NPost env w x (loopC ops x.incl name arg count kids els id x.st) e w3 := by
      rw [HR2.out]
      rw [hx3] at hp0
      exact hp0.after hx2 hx4
    clear hx1 hx2 hx3 hx4 hcl hp0
    rcases hp.cases with ⟨h0, rfl⟩ | ⟨h0, rfl⟩
    · go_wp2_with fail
      refine bodyPost_ret (results_none rfl _ _ _) rfl ?_
      exact hp
    · exact ⟨rfl, hp⟩
  · have hpos : 0 < ids.length := List.length_pos_iff.2 hids
    have hidne : ((ids.length : Int) == 0) = false := by rw [beq_eq_false_iff_ne]; omega
    have hmin : min (ids.length : Int) 2001 = ids.length := by omega
    by_cases hkn : kids = []
    · have HR2 : Hid (loopC ops x.incl name arg count kids els id x.st = (0, { x.st with src := s' })) := Lib.hid (by rw [HRR.out, if_neg hids, hkn]; rfl)
      have hkz : ((kids.length : Int) == 0) = true := by rw [hkn]; rfl
      clear hids hkn
      go_enter Tryd.func46, Tryd.ntmps46
      go_wp2_with fail
      refine wp_tail 11 (by kernel_rfl) (by kernel_rfl) ?_
      simp only [List.take_succ_cons, List.take_zero, List.drop_succ_cons, List.drop_zero]
      repeat still_step
      refine wpStill_nil ?_
      go_wp2_with (go_at_call 72; rw [← HW.out]; (with_reducible refine HC.out.mono ?_); rintro e w2 ⟨v, F', rfl, ⟨b, o, hsl, hce⟩, hI, hU2, hF2⟩; obtain ⟨ao, cap, rfl, _, _, _⟩ := hsl.shape; obtain ⟨x1, hx1, hx2, hx3, hx4, h16, h17, h18, c6, c7⟩ := HS.out _ _ hI hU2 hF2; have HX := Lib.hid (And.intro hx1 (And.intro hx2 (And.intro hx3 hx4))); clear hx1 hx2 hx3 hx4 hI hU2 hF2 h16 h17 hce hsl)
      go_outline
      refine bodyPost_ret (results_none rfl _ _ _) rfl ?_
      obtain ⟨hx1, hx2, hx3, hx4⟩ := HX.out
      rw [HR2.out]
      exact ⟨x1, hx1, hx2, hx3, by rw [hx3]; exact HCN, .inl ⟨rfl, rfl, hx4⟩⟩
    · have hkpos : 0 < kids.length := List.length_pos_iff.2 hkn
      have HR2 : Hid (loopC ops x.incl name arg count kids els id x.st = seqIds (fun i s => evD ops (3 - x.incl) kids i s) ids { x.st with src := s' }) := Lib.hid (by
        rw [HRR.out, if_neg hids, if_neg]
        rw [List.isEmpty_iff]; exact hkn)
      have HKP := Lib.hid hkao
      clear hids HRR hkao hkn
      have hkne : ((kids.length : Int) == 0) = false := by rw [beq_eq_false_iff_ne]; omega
      go_enter Tryd.func46, Tryd.ntmps46
      go_wp2_with fail
      refine wp_tail 11 (by kernel_rfl) (by kernel_rfl) ?_
      simp only [List.take_succ_cons, List.take_zero, List.drop_succ_cons, List.drop_zero]
      repeat still_step
      refine wpStill_nil ?_
      go_wp2_with (go_at_call 72; rw [← HW.out]; (with_reducible refine HC.out.mono ?_); rintro e w2 ⟨v, F', rfl, ⟨b, o, hsl, hce⟩, hI, hU2, hF2⟩; obtain ⟨ao, cap, rfl, hao, _, hcap⟩ := hsl.shape; obtain rfl := hao hpos; obtain ⟨x1, hx1, hx2, hx3, hx4, h16, h17, h18, c6, c7⟩ := HS.out _ _ hI hU2 hF2; have HX := Lib.hid (And.intro hx1 (And.intro hx2 (And.intro hx3 (And.intro hx4 (And.intro h16 h17))))); have HCE := Lib.hid hce; clear hx1 hx2 hx3 hx4 hI hU2 hF2 h16 h17 hce hsl)
      obtain ⟨hx1, hx2, hx3, hx4, h16, h17⟩ := HX.out
      have hcl := Tryd.slices_Clone_int b o ids.length cap ids w2 (Nat.le_refl _) (by omega) (fun j hj => by
        rw [HCE.out j hj]; simp [List.getD, hj])
      rw [List.take_length] at hcl
      refine hcl.mono ?_
      rintro e w3 ⟨v3, rfl, hown, hnn, hb3⟩
      obtain ⟨n0, hn0⟩ : ∃ n0, ids.length = n0 + 1 := ⟨ids.length - 1, by omega⟩
      have hg : ∃ g cap3, v3 = .slice (some ⟨g, 0, none⟩) ids.length cap3 ∧ w2.heap.size ≤ g ∧ g < w3.heap.size ∧ ∀ j (h : j < ids.length), w3.cell? ⟨g, j, none⟩ = some (.int .i64 ids[j]) := by
        rcases hown.2 with ⟨h1, _⟩ | ⟨g, cap3, cur, h1, h2, h3, _⟩
        · exact absurd h1 hnn
        · refine ⟨g, cap3, h1, h2, (Array.getElem?_eq_some_iff.1 h3).1, fun j hj => ?_⟩
          have := World.ownsRow.cells hown (g := g) (by rw [h1]; rfl) j (.int .i64 ids[j]) (by simp [hj])
          rwa [Addr.add_lit, Nat.zero_add] at this
      obtain ⟨g, cap3, rfl, hg1, hg2, hg3⟩ := hg
      have hu3 : Upd (fun _ => False) w2 w3 := Upd.of_below0 hb3
      have hEv3 : EvI env w3 x1 := hx1.later ok.keep hu3
      have hst3 : EvStep env w w3 x x1 := hx2.trans (EvStep.quiet hu3)
      have hnf : ¬ Foot env x1 g := fun f => by have := h17 g f; omega
      have hlw : w.heap.size < w3.heap.size := by have := hb3.size; omega
      have c6' : w3.cell? ⟨w.heap.size, 6, none⟩ = some (.slice kao kids.length kcap) := hu3.cell_some c6 (fun f => f.elim)
      have hbody : ∀ wr x', EvI env wr x' → EvStep env w3 wr x1 x' → x'.incl = x.incl → env.cnt x'.st.src ≤ x'.st.steps →
          wr.cell? ⟨w.heap.size, 6, none⟩ = some (.slice kao kids.length kcap) ∧ (∀ j (h : j < ids.length), wr.cell? ⟨g, j, none⟩ = some (.int .i64 ids[j])) ∧
          ∀ i : Int, Calls Tryd.prog 26 #[.pointer (some ⟨env.E, 0, none⟩), .slice kao kids.length kcap, .int .i64 i] wr (NPost env wr x' (evD ops (3 - x.incl) kids i x'.st)) := by
        intro wr x' a1 a2 a3 a4
        refine ⟨a2.1.cell_some c6' h16, fun j hj => a2.1.cell_some (hg3 j hj) hnf, fun i => ?_⟩
        have := HKI.out i (.slice kao kids.length kcap) bk ok' wr x' a3 a1 a4 hk1 hk2
        exact this
      have HBO := Lib.hid hbody
      have H3 := Lib.hid (And.intro hEv3 (And.intro hst3 (And.intro hx3 hx4)))
      clear hx1 hx2 hx3 hx4 h16 h17 hcl hown hnn hb3 hn0 hu3 hEv3 hst3 hnf c6' hbody hg1 hg2 hg3 c6 c7 hlw h18
      go_wp2_with fail
      go_loopw [41, 8] (fun i _ wr => ∃ (k : Nat) (x' : EvS S), k ≤ ids.length ∧ i = .int .i64 k ∧ EvI env wr x' ∧ EvStep env w3 wr x1 x' ∧ x'.incl = x.incl ∧ env.cnt x'.st.src ≤ x'.st.steps ∧
          Hid (loopC ops x.incl name arg count kids els id x.st = seqIds (fun i s => evD ops (3 - x.incl) kids i s) (ids.drop k) x'.st)) (fun i _ _ => ids.length - (intOf i).toNat)
      case atStart =>
        obtain ⟨a1, a2, a3, a4⟩ := H3.out
        exact ⟨0, x1, Nat.zero_le _, rfl, a1, EvStep.refl _ _ _, a4, by rw [a3]; exact HCN, Lib.hid (by rw [HR2.out, a3]; rfl)⟩
      case round =>
        obtain ⟨k, x', hk, rfl, b1, b2, b3, b4, b5⟩ := hrel
        by_cases hlt2 : k < ids.length
        · obtain ⟨c6, hcs, hcall⟩ := HBO.out wr x' b1 b2 b3 b4
          have cg := hcs k hlt2
          have hsd := seqIds_drop (fun i s => evD ops (3 - x.incl) kids i s) ids k hlt2 x'.st
          have HSD := Lib.hid hsd
          have HCA := Lib.hid hcall
          have HB := Lib.hid (And.intro b2 b3)
          clear hcs hsd hcall b1 b2 b3 b4
          generalize ids[k] = idk at *
          go_wp2_with fail
          refine (HCA.out idk).mono ?_
          intro e w4 hp
          obtain ⟨b2, b3⟩ := HB.out
          rcases hp.cases with ⟨h0, rfl⟩ | ⟨h0, rfl⟩
          · obtain ⟨x2, d1, d2, d3, d4, d5⟩ := hp
            have d6 : x2.incl = x'.incl := by
              rcases d5 with d5 | d5
              · exact d5.2.2
              · exact absurd h0 d5.1
            have hq : Hid (loopC ops x.incl name arg count kids els id x.st = seqIds (fun i s => evD ops (3 - x.incl) kids i s) (ids.drop (k + 1)) x2.st) := Lib.hid (by rw [b5.out, HSD.out, if_pos h0, d3])
            clear d5 h0
            go_wp2_with fail
            go_roundw
            case rel => exact ⟨k + 1, x2, by omega, by go_num, d1, b2.trans d2, d6.trans b3, d4, hq⟩
            case measure => simp [intOf]; omega
          · have hf : NPost env w x (loopC ops x.incl name arg count kids els id x.st) (panics (evD ops (3 - x.incl) kids idk x'.st).1) w4 := by
              obtain ⟨a1, a2, a3, a4⟩ := H3.out
              rw [b5.out, HSD.out, if_neg h0]
              exact hp.after (a2.trans b2) b3
            exact ⟨rfl, hf⟩
        · have hke : k = ids.length := by omega
          have hf : NPost env w x (loopC ops x.incl name arg count kids els id x.st) (.returned (.tuple #[])) wr := by
            obtain ⟨a1, a2, a3, a4⟩ := H3.out
            rw [b5.out, hke, List.drop_length]
            exact ⟨x', b1, a2.trans b2, rfl, b4, .inl ⟨rfl, rfl, b3⟩⟩
          have HF := Lib.hid hf
          clear hf b1 b2 b3 b4 b5
          go_wp2_with fail
          go_end0
          exact HF.out
end
end Go.Proofs.YtlkaikopjjmneaaDoor

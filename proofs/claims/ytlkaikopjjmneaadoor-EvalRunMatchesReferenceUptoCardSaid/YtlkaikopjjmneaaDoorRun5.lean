/-
  WHAT IS PROVED HERE: the walk of eval's list: the evaluation of a list of nodes. Conditions: those that the evaluation keeps.
-/
import Derived.Test.YtlkaikopjjmneaaDoorRun4
import Derived.Deep.QuietTactic
import Derived.BigQuiet
namespace Go.Proofs.YtlkaikopjjmneaaDoor
open Go.RowKit
def kindFn (n : Int) : Option Nat := if n = 1 then some 44 else if n = 2 then some 45 else if n = 3 then some 46 else if n = 4 then some 47 else if n = 5 then some 48 else none
theorem findNow_kind {es : Array MapEntry} {n : Int} (h : kindsObj.findNowKinds es n) : ∃ i, Instr.findNow (.int .i64) (.int .i64 n) es.toList 0 = some ((kindFn n).map fun f => (i, .func (.func f) #[] #[])) := by
  unfold kindsObj.findNowKinds at h
  rw [h]
  unfold kindFn
  repeat' split
  all_goals first | exact ⟨_, rfl⟩ | exact ⟨0, rfl⟩
theorem lookup_kind (W : World) (K : Nat) (n : Int) (h : kindsOK W K) : (Instr.lookup 73 (.map (some K)) (.int .i64 n) true).run Tryd.prog W = .ok (.tuple #[((kindFn n).map fun f => Value.func (.func f) #[] #[]).getD .nilFunc, .bool (kindFn n).isSome]) W := by
  obtain ⟨es, c, h1, h2⟩ := h
  obtain ⟨i, hf⟩ := findNow_kind (h2 n)
  have hz := Tryd.zeroValue97 W
  have hck : ∀ b, (Instr.checkKey b 10000 3 (.int .i64 n)).run Tryd.prog W = .ok () W := fun b => by
    unfold Instr.checkKey; simp [run_underlying Tryd.underlying3]
  have hfk : (Instr.findKey 3 (.int .i64 n) es.toList).run Tryd.prog W = .ok ((kindFn n).map fun f => (i, .func (.func f) #[] #[])) W := by
    unfold Instr.findKey; simp [run_underlying Tryd.underlying3, hf]
  unfold Instr.lookup
  cases hk : kindFn n with
  | none =>
    rw [hk] at hfk
    simp [run_underlying Tryd.underlying73, Sem.run, h1, getObj, hck, hfk, hz]
  | some f =>
    rw [hk] at hfk
    simp [run_underlying Tryd.underlying73, Sem.run, h1, getObj, hck, hfk]
section
variable {S : Type}

theorem upd_drewN (w : World) (n : Nat) : Upd (fun _ => False) w (w.drewN n) := ⟨rfl, rfl, rfl, Nat.le_refl _, fun _ _ _ => rfl⟩
def Node.kids : Node → List Node | .mk _ _ _ _ _ _ k _ => k
def Node.els : Node → List Node | .mk _ _ _ _ _ _ _ e => e
theorem evD_cons (ops : Ops S) (d : Nat) (n : Node) (r : List Node) (id : Int) (st : St S) :
    evD ops d (n :: r) id st = if 2000 ≤ st.steps then (111, st) else if (evNode ops (incF ops d) n id { st with steps := st.steps + 1 }).1 = 0 then evD ops d r id (evNode ops (incF ops d) n id { st with steps := st.steps + 1 }).2 else evNode ops (incF ops d) n id { st with steps := st.steps + 1 } := by
  rw [evD_eq, evList]

/-- the contract of each kind, at a node that lies in memory -/
theorem kind_any {ops : Ops S} {env : Env S} {R : Nat} (ok : SrcOK 73 72 80 ops env.base env.mem (.pointer (some ⟨R, 0, none⟩)) env.I env.cnt) (hsv : env.sv = .iface 29 (.pointer (some ⟨R, 0, none⟩)))
    (c : Nat) (kind count id : Int) (text name arg : ByteArray) (filters : List ByteArray) (kids els : List Node) (fv kv ev : Value) (fb fo kb ko eb eo : Nat)
    (s1 : text.size ≤ big) (s2 : name.size ≤ big) (s3 : arg.size ≤ big) (s4 : filters.length ≤ 2097152) (f1 : SliceOf fv filters.length fb fo) (f2 : StrsAt env.mem filters fb fo)
    (k1 : SliceOf kv kids.length kb ko) (k2 : NodesAt env.mem kids kb ko) (e1 : SliceOf ev els.length eb eo) (e2 : NodesAt env.mem els eb eo)
    (hk : ListOK ops env c kids) (he : ListOK ops env c els) (hincl : c < 3 → ∀ l, ListOK ops env (c + 1) l) (W : World) (x : EvS S) (h : EvI env W x) (hxc : x.incl = c) (hc : env.cnt x.st.src + 1 ≤ x.st.steps) (f : Nat) (hf : kindFn kind = some f) :
    Calls Tryd.prog f #[.pointer (some ⟨env.E, 0, none⟩), .agg #[.int .i64 kind, .string text, .string name, .string arg, .int .i64 count, fv, kv, ev], .int .i64 id] W
      (NPost env W x (evNode ops (incF ops (3 - c)) (.mk kind text name arg count filters kids els) id x.st)) := by
  subst hxc
  unfold kindFn at hf
  by_cases g1 : kind = 1
  · rw [if_pos g1] at hf
    cases hf
    have hr : evNode ops (incF ops (3 - x.incl)) (.mk kind text name arg count filters kids els) id x.st = putF text.data.toList x.st := by rw [evNode, if_pos g1]
    rw [hr]
    exact literal_any ok.keep ok.lt h kind count id text name arg fv kv ev s1 (by omega)
  rw [if_neg g1] at hf
  by_cases g2 : kind = 2
  · rw [if_pos g2] at hf
    cases hf
    have hr : evNode ops (incF ops (3 - x.incl)) (.mk kind text name arg count filters kids els) id x.st = fieldF ops name filters id x.st := by rw [evNode, if_neg g1, if_pos g2]
    rw [hr]
    exact field_any ok hsv h kind count id text name arg fv kv ev filters fb fo s4 f1 f2 s2 hc
  rw [if_neg g2] at hf
  by_cases g3 : kind = 3
  · rw [if_pos g3] at hf
    cases hf
    have hr : evNode ops (incF ops (3 - x.incl)) (.mk kind text name arg count filters kids els) id x.st = loopC ops x.incl name arg count kids els id x.st := by
      rw [evNode, if_neg g1, if_neg g2, if_pos g3]; unfold loopC; simp only [evD_eq]
    rw [hr]
    exact loop_any ok hsv h kind count id text name arg fv kv ev kids els kb ko eb eo k1 k2 e1 e2 hk he s2 s3 hc
  rw [if_neg g3] at hf
  by_cases g4 : kind = 4
  · rw [if_pos g4] at hf
    cases hf
    have hr : evNode ops (incF ops (3 - x.incl)) (.mk kind text name arg count filters kids els) id x.st = condF ops x.incl name kids els id x.st := by
      rw [evNode, if_neg g1, if_neg g2, if_neg g3, if_pos g4]; unfold condF; simp only [evD_eq]
    rw [hr]
    exact condition_any ok hsv h kind count id text name arg fv kv ev kids els kb ko eb eo k1 k2 e1 e2 hk he s2 hc
  rw [if_neg g4] at hf
  by_cases g5 : kind = 5
  · rw [if_pos g5] at hf
    cases hf
    have hr : evNode ops (incF ops (3 - x.incl)) (.mk kind text name arg count filters kids els) id x.st = incC ops x.incl name id x.st := by
      rw [evNode, if_neg g1, if_neg g2, if_neg g3, if_neg g4, if_pos g5]; rfl
    rw [hr]
    exact include_any ok hsv h kind count id text name arg fv kv ev hincl s2 hc
  rw [if_neg g5] at hf
  cases hf
theorem kind_none {ops : Ops S} (inc : ByteArray → Int → St S → Int × St S) (kind count id : Int) (text name arg : ByteArray) (filters : List ByteArray) (kids els : List Node) (st : St S) (hf : kindFn kind = none) :
    evNode ops inc (.mk kind text name arg count filters kids els) id st = (110, st) := by
  unfold kindFn at hf
  by_cases g1 : kind = 1
  · rw [if_pos g1] at hf; cases hf
  rw [if_neg g1] at hf
  by_cases g2 : kind = 2
  · rw [if_pos g2] at hf; cases hf
  rw [if_neg g2] at hf
  by_cases g3 : kind = 3
  · rw [if_pos g3] at hf; cases hf
  rw [if_neg g3] at hf
  by_cases g4 : kind = 4
  · rw [if_pos g4] at hf; cases hf
  rw [if_neg g4] at hf
  by_cases g5 : kind = 5
  · rw [if_pos g5] at hf; cases hf
  rw [evNode, if_neg g1, if_neg g2, if_neg g3, if_neg g4, if_neg g5]
theorem kind_enters (kind : Int) (f : Nat) (hf : kindFn kind = some f) (args : Array Value) (w : World) : (callFunc f args).run Tryd.prog w = .ok (.enter f args) w := by
  unfold kindFn at hf
  split at hf
  · cases hf; exact enters_of Tryd.func44 (by kernel_rfl) rfl args w
  split at hf
  · cases hf; exact enters_of Tryd.func45 (by kernel_rfl) rfl args w
  split at hf
  · cases hf; exact enters_of Tryd.func46 (by kernel_rfl) rfl args w
  split at hf
  · cases hf; exact enters_of Tryd.func47 (by kernel_rfl) rfl args w
  split at hf
  · cases hf; exact enters_of Tryd.func48 (by kernel_rfl) rfl args w
  · cases hf

set_option maxRecDepth 100000 in
set_option maxHeartbeats 2000000 in
theorem list_any {ops : Ops S} {env : Env S} {R : Nat} (ok : SrcOK 73 72 80 ops env.base env.mem (.pointer (some ⟨R, 0, none⟩)) env.I env.cnt) (hsv : env.sv = .iface 29 (.pointer (some ⟨R, 0, none⟩)))
    (c : Nat) (l : List Node) (hn : ∀ n ∈ l, ListOK ops env c n.kids ∧ ListOK ops env c n.els) (hincl : c < 3 → ∀ l, ListOK ops env (c + 1) l) : ListOK ops env c l := by
  intro id v b o w x hxc h hc hsl hnodes
  obtain ⟨ao, cap, rfl, hao, hbig, hcap⟩ := hsl.shape
  have hbig2 : l.length ≤ 1099511627776 := hbig
  have HN := Lib.hid hn
  have HI := Lib.hid hincl
  have HH := Lib.hid h
  have HXC := Lib.hid hxc
  have HAO := Lib.hid hao
  have HSV := Lib.hid hsv
  clear hn hincl h hxc hbig hsl hao hsv
  go_enter Tryd.func26, Tryd.ntmps26
  go_wp2_with fail
  go_loopw [12, 7, 8, 9] (fun i _ _ _ wr => ∃ (k : Nat) (x' : EvS S), k ≤ l.length ∧ i = .int .i64 k ∧ EvI env wr x' ∧ EvStep env w wr x x' ∧ Hid (x'.incl = c) ∧ env.cnt x'.st.src ≤ x'.st.steps ∧
      Hid (evD ops (3 - c) l id x.st = evD ops (3 - c) (l.drop k) id x'.st)) (fun i _ _ _ _ => l.length - (intOf i).toNat)
  case atStart => exact ⟨0, x, Nat.zero_le _, rfl, HH.out, EvStep.refl _ _ _, HXC, hc, Lib.hid rfl⟩
  case round =>
    obtain ⟨k, x', hk, rfl, b1, b2, b3, b4, b5⟩ := hrel
    by_cases hlt : k < l.length
    · have hnode := hnodes.get k hlt
      have hnk := HN.out l[k] (List.getElem_mem hlt)
      have hdr : l.drop k = l[k] :: l.drop (k + 1) := List.drop_eq_getElem_cons hlt
      rw [hdr, evD_cons] at b5
      generalize l[k] = nd at *
      obtain ⟨kind, text, name, arg, count, filters, kids, els⟩ := nd
      unfold NodeAt at hnode
      obtain ⟨⟨m0, m1, m2, m3, m4⟩, ⟨s1, s2, s3, s4⟩, ⟨fv, fb, fo, m5, f1, f2⟩, ⟨kv, kb, ko, m6, k1, k2⟩, ⟨ev, eb, eo, m7, e1, e2⟩⟩ := hnode
      have HM := Lib.hid (And.intro f1 (And.intro f2 (And.intro k1 (And.intro k2 (And.intro e1 e2)))))
      obtain ⟨fa, fcap, rfl, _, _, _⟩ := f1.shape
      obtain ⟨ka, kcap, rfl, _, _, _⟩ := k1.shape
      obtain ⟨ea, ecap, rfl, _, _, _⟩ := e1.shape
      have hao2 := HAO.out (by omega)
      subst hao2
      have hs := b1.sees
      have c0 := hs _ _ m0
      have c1 := hs _ _ m1
      have c2 := hs _ _ m2
      have c3 := hs _ _ m3
      have c4 := hs _ _ m4
      have c5 := hs _ _ m5
      have c6 := hs _ _ m6
      have c7 := hs _ _ m7
      have g3 := b1.cells.2.2.2.1
      have g2 := b1.cells.2.2.1
      have f3 := b1.free 3
      have hlE := b1.ltE
      have hst := b1.steps
      have HB := Lib.hid (And.intro b1 (And.intro b2 (And.intro b3 (And.intro b4 b5))))
      clear m0 m1 m2 m3 m4 m5 m6 m7 hs b1 b2 b3 b4 b5 f1 f2 k1 k2 e1 e2 hdr hnodes
      by_cases hful : 2000 ≤ x'.st.steps
      · have hf : ∀ o', Hid (NPost env w x (evD ops (3 - c) l id x.st) (panics 111) (wr.alloc o')) := fun o' => by
          obtain ⟨b1, b2, b3, b4, b5⟩ := HB.out
          rw [b5.out, if_pos hful]
          exact ⟨x', b1.later ok.keep (upd_box1 _ _), b2.trans (EvStep.quiet (upd_box1 _ _)), rfl, b4, .inr ⟨(by show ¬ (111 : Int) = 0; omega), rfl⟩⟩
        go_wp2_with (go_at_call 49; (with_reducible refine (fail_any 111 _).mono ?_); rintro e w' ⟨rfl, rfl⟩)
        exact ⟨rfl, (hf _).out⟩
      · obtain ⟨W1, HW1⟩ := named ((wr.setCell ⟨env.E, 3, none⟩ (.int .i64 ((x'.st.steps : Int) + 1))).alloc (.cells #[.int .i64 kind, .string text, .string name, .string arg, .int .i64 count, .slice fa filters.length fcap, .slice ka kids.length kcap, .slice ea els.length ecap] 52))
        obtain ⟨x2, HX2⟩ := named ({ x' with st := { x'.st with steps := x'.st.steps + 1 } } : EvS S)
        have hE2 : EvI env W1 x2 ∧ EvStep env w W1 x x2 := by
          obtain ⟨b1, b2, b3, b4, b5⟩ := HB.out
          have h1 := b1.setE ok.keep 3 (.int .i64 ((x'.st.steps : Int) + 1)) x2 (by rw [HX2.out]) (by rw [HX2.out]) (by rw [HX2.out]) (by rw [HX2.out]) (by rw [HX2.out]; show x'.st.steps + 1 ≤ 2000; omega) (by rw [HX2.out]; exact b1.inc) (by rw [HX2.out]; rfl)
          rw [HW1.out]
          exact ⟨h1.1.later ok.keep (upd_box1 _ _), b2.trans (h1.2.trans (EvStep.quiet (upd_box1 _ _)))⟩
        have HE2 := Lib.hid hE2
        have hsz : wr.heap.size < W1.heap.size := by rw [HW1.out]; simp
        have hd : ∀ j, W1.cell? ⟨wr.heap.size, j, none⟩ = (#[.int .i64 kind, .string text, .string name, .string arg, .int .i64 count, .slice fa filters.length fcap, .slice ka kids.length kcap, .slice ea els.length ecap] : Array Value)[j]? := fun j => by
          rw [HW1.out]; exact World.cell?_alloc_at _ _ _ _ (by simp)
        have d0 := hd 0
        have d1 := hd 1
        have d2 := hd 2
        have d3 := hd 3
        have d4 := hd 4
        have d5 := hd 5
        have d6 := hd 6
        have d7 := hd 7
        simp only [List.getElem?_toArray, List.getElem?_cons_zero, List.getElem?_cons_succ] at d0 d1 d2 d3 d4 d5 d6 d7
        clear hd
        have hlk : ∀ n, (Instr.lookup 73 (.map (some env.K)) (.int .i64 kind) true).run Tryd.prog (W1.drewN n) = .ok (.tuple #[((kindFn kind).map fun f => Value.func (.func f) #[] #[]).getD .nilFunc, .bool (kindFn kind).isSome]) (W1.drewN n) :=
          fun n => lookup_kind (W1.drewN n) env.K kind hE2.1.km
        have hlk1 : (Instr.lookup 73 (.map (some env.K)) (.int .i64 kind) true).run Tryd.prog W1.drew = .ok (.tuple #[((kindFn kind).map fun f => Value.func (.func f) #[] #[]).getD .nilFunc, .bool (kindFn kind).isSome]) W1.drew :=
          lookup_kind W1.drew env.K kind hE2.1.km
        have q2 := hE2.1.cells.2.2.1
        clear hE2
        rcases hkf : kindFn kind with _ | f
        · rw [hkf] at hlk hlk1
          simp only [Option.map_none, Option.getD_none, Option.isSome_none] at hlk hlk1
          go_wp2_with fail
          rw [← HW1.out]
          go_quiet (fail)
          have hf : ∀ n, Hid (NPost env w x (evD ops (3 - c) l id x.st) (panics 110) (W1.drewN n)) := fun n => by
            obtain ⟨h1, h2⟩ := HE2.out
            obtain ⟨b1, b2, b3, b4, b5⟩ := HB.out
            have hev := kind_none (ops := ops) (incF ops (3 - c)) kind count id text name arg filters kids els { x'.st with steps := x'.st.steps + 1 } hkf
            rw [b5.out, if_neg hful, hev, if_neg (by show ¬ (110 : Int) = 0; omega)]
            exact ⟨x2, h1.later ok.keep (upd_drewN _ _), h2.trans (EvStep.quiet (upd_drewN _ _)), by rw [HX2.out], by rw [HX2.out]; show env.cnt x'.st.src ≤ x'.st.steps + 1; omega, .inr ⟨(by show ¬ (110 : Int) = 0; omega), rfl⟩⟩
          go_wp2_with fail
          refine (fail_any 110 _).mono ?_
          rintro e w' ⟨rfl, rfl⟩
          exact ⟨rfl, (hf _).out⟩
        · rw [hkf] at hlk hlk1
          simp only [Option.map_some, Option.getD_some, Option.isSome_some] at hlk hlk1
          have hen := kind_enters kind f hkf
          have hcall : ∀ n, Calls Tryd.prog f #[.pointer (some ⟨env.E, 0, none⟩), .agg #[.int .i64 kind, .string text, .string name, .string arg, .int .i64 count, .slice fa filters.length fcap, .slice ka kids.length kcap, .slice ea els.length ecap], .int .i64 id] (W1.drewN n)
              (NPost env (W1.drewN n) x2 (evNode ops (incF ops (3 - c)) (.mk kind text name arg count filters kids els) id x2.st)) := fun n => by
            obtain ⟨h1, h2⟩ := HE2.out
            obtain ⟨b1, b2, b3, b4, b5⟩ := HB.out
            obtain ⟨f1, f2, k1, k2, e1, e2⟩ := HM.out
            exact kind_any ok HSV.out c kind count id text name arg filters kids els _ _ _ fb fo kb ko eb eo s1 s2 s3 s4 f1 f2 k1 k2 e1 e2 hnk.1 hnk.2 HI.out _ x2 (h1.later ok.keep (upd_drewN _ _)) (by rw [HX2.out]; exact b3.out) (by rw [HX2.out]; show env.cnt x'.st.src + 1 ≤ x'.st.steps + 1; omega) f hkf
          have HCA := Lib.hid hcall
          have HNK := Lib.hid hnk
          clear hcall hnk hkf
          go_wp2_with fail
          rw [← HW1.out]
          go_quiet (fail)
          go_wp2_with fail
          refine (HCA.out _).mono ?_
          intro e w4 hp
          obtain ⟨h1, h2⟩ := HE2.out
          obtain ⟨b1, b2, b3, b4, b5⟩ := HB.out
          have hx2 : x2.st = { x'.st with steps := x'.st.steps + 1 } := by rw [HX2.out]
          have hx2i : x2.incl = c := by rw [HX2.out]; exact b3.out
          rw [hx2] at hp
          have h2' := h2.trans (EvStep.quiet (upd_drewN W1 1))
          clear b1 b2 h1
          have hq : ∀ n, EvStep env w (W1.drewN n) x x2 := fun n => h2.trans (EvStep.quiet (upd_drewN W1 n))
          rcases hp.cases with ⟨h0, rfl⟩ | ⟨h0, rfl⟩
          · obtain ⟨x3, p1, p2, p3, p4, p5⟩ := hp
            have hst3 := (hq _).trans p2
            have hi3 : x3.incl = c := by
              rcases p5 with p5 | p5
              · exact p5.2.2.trans hx2i
              · exact absurd h0 p5.1
            have hev : Hid (evD ops (3 - c) l id x.st = evD ops (3 - c) (l.drop (k + 1)) id x3.st) := Lib.hid (by rw [b5.out, if_neg hful, if_pos h0, p3])
            have HP := Lib.hid (And.intro p1 (And.intro hst3 (And.intro hi3 p4)))
            clear p1 p2 p3 p4 p5 hq hst3 hi3 b5 h0 hx2 hx2i h2 h2'
            go_wp2_with fail
            go_roundw
            case rel => exact ⟨k + 1, x3, by omega, by go_num, HP.out.1, HP.out.2.1, Lib.hid HP.out.2.2.1, HP.out.2.2.2, hev⟩
            case measure => simp [intOf]; omega
          · have hf : NPost env w x (evD ops (3 - c) l id x.st) (panics (evNode ops (incF ops (3 - c)) (.mk kind text name arg count filters kids els) id { x'.st with steps := x'.st.steps + 1 }).1) w4 := by
              rw [b5.out, if_neg hful, if_neg h0]
              obtain ⟨x3, p1, p2, p3, p4, p5⟩ := hp
              exact ⟨x3, p1, (hq _).trans p2, p3, p4, .inr ⟨h0, rfl⟩⟩
            exact ⟨rfl, hf⟩
    · have hke : k = l.length := by omega
      have hf : Hid (NPost env w x (evD ops (3 - c) l id x.st) (.returned (.tuple #[])) wr) := by
        have e1 : evD ops (3 - c) l id x.st = (0, x'.st) := by rw [b5.out, hke, List.drop_length, evD_eq, evList]
        rw [e1]
        exact ⟨x', b1, b2, rfl, b4, .inl ⟨rfl, rfl, b3.out.trans HXC.out.symm⟩⟩
      clear b1 b2 b3 b4 b5
      go_wp2_with fail
      go_end0
      exact hf.out
end
end Go.Proofs.YtlkaikopjjmneaaDoor

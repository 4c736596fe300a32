/-
  WHAT IS PROVED HERE: the evaluation over the replaying source: lists of nodes, eval.Run (printed by tools/rep.py). Conditions: those that the evaluation keeps.
-/
import Derived.Test.YtlkaikopjjmneaaDoorRpA
import Derived.Test.YtlkaikopjjmneaaDoorRpB
import Derived.BigQuiet
import Derived.Deep.QuietTactic
import Derived.Recover
namespace Go.Proofs.YtlkaikopjjmneaaDoor.Rep
open Go.RowKit

section
variable {S : Type}

/-- the contract of each kind, at a node that lies in memory -/
theorem kind_any {ops : Ops S} {env : Env S} {R : Nat} (ok : SrcOK 116 118 117 ops env.base env.mem (.pointer (some ⟨R, 0, none⟩)) env.I env.cnt) (hsv : env.sv = .iface 57 (.pointer (some ⟨R, 0, none⟩)))
    (c : Nat) (kind count id : Int) (text name arg : ByteArray) (filters : List ByteArray) (kids els : List Node) (fv kv ev : Value) (fb fo kb ko eb eo : Nat)
    (s1 : text.size ≤ big) (s2 : name.size ≤ big) (s3 : arg.size ≤ big) (s4 : filters.length ≤ 2097152) (f1 : SliceOf fv filters.length fb fo) (f2 : StrsAt env.mem filters fb fo)
    (k1 : SliceOf kv kids.length kb ko) (k2 : NodesAt env.mem kids kb ko) (e1 : SliceOf ev els.length eb eo) (e2 : NodesAt env.mem els eb eo)
    (hk : ListOK ops env c kids) (he : ListOK ops env c els) (hincl : c < 3 → ∀ l, ListOK ops env (c + 1) l) (W : World) (x : EvS S) (h : EvI env W x) (hxc : x.incl = c) (hc : env.cnt x.st.src + 1 ≤ x.st.steps) (f : Nat) (hf : kindFn kind = some f) :
    Calls Tryd.prog f #[.pointer (some ⟨env.E, 0, none⟩), .agg #[.int .i64 kind, .string text, .string name, .string arg, .int .i64 count, fv, kv, ev], .int .i64 id] W
      (NPost env W x (evNode ops (incF ops (3 - c)) (.mk kind text name arg count filters kids els) id x.st)) := by
  subst hxc
  unfold kindFn at hf
  by_cases g1 : kind = 1
  · rw [if_pos g1] at hf
    cases hf
    have hr : evNode ops (incF ops (3 - x.incl)) (.mk kind text name arg count filters kids els) id x.st = putF text.data.toList x.st := by rw [evNode, if_pos g1]
    rw [hr]
    exact literal_any ok.keep ok.lt h kind count id text name arg fv kv ev s1 (by omega)
  rw [if_neg g1] at hf
  by_cases g2 : kind = 2
  · rw [if_pos g2] at hf
    cases hf
    have hr : evNode ops (incF ops (3 - x.incl)) (.mk kind text name arg count filters kids els) id x.st = fieldF ops name filters id x.st := by rw [evNode, if_neg g1, if_pos g2]
    rw [hr]
    exact field_any ok hsv h kind count id text name arg fv kv ev filters fb fo s4 f1 f2 s2 hc
  rw [if_neg g2] at hf
  by_cases g3 : kind = 3
  · rw [if_pos g3] at hf
    cases hf
    have hr : evNode ops (incF ops (3 - x.incl)) (.mk kind text name arg count filters kids els) id x.st = loopC ops x.incl name arg count kids els id x.st := by
      rw [evNode, if_neg g1, if_neg g2, if_pos g3]; unfold loopC; simp only [evD_eq]
    rw [hr]
    exact loop_any ok hsv h kind count id text name arg fv kv ev kids els kb ko eb eo k1 k2 e1 e2 hk he s2 s3 hc
  rw [if_neg g3] at hf
  by_cases g4 : kind = 4
  · rw [if_pos g4] at hf
    cases hf
    have hr : evNode ops (incF ops (3 - x.incl)) (.mk kind text name arg count filters kids els) id x.st = condF ops x.incl name kids els id x.st := by
      rw [evNode, if_neg g1, if_neg g2, if_neg g3, if_pos g4]; unfold condF; simp only [evD_eq]
    rw [hr]
    exact condition_any ok hsv h kind count id text name arg fv kv ev kids els kb ko eb eo k1 k2 e1 e2 hk he s2 hc
  rw [if_neg g4] at hf
  by_cases g5 : kind = 5
  · rw [if_pos g5] at hf
    cases hf
    have hr : evNode ops (incF ops (3 - x.incl)) (.mk kind text name arg count filters kids els) id x.st = incC ops x.incl name id x.st := by
      rw [evNode, if_neg g1, if_neg g2, if_neg g3, if_neg g4, if_pos g5]; rfl
    rw [hr]
    exact include_any ok hsv h kind count id text name arg fv kv ev hincl s2 hc
  rw [if_neg g5] at hf
  cases hf
set_option maxRecDepth 100000 in
set_option maxHeartbeats 2000000 in
theorem list_any {ops : Ops S} {env : Env S} {R : Nat} (ok : SrcOK 116 118 117 ops env.base env.mem (.pointer (some ⟨R, 0, none⟩)) env.I env.cnt) (hsv : env.sv = .iface 57 (.pointer (some ⟨R, 0, none⟩)))
    (c : Nat) (l : List Node) (hn : ∀ n ∈ l, ListOK ops env c n.kids ∧ ListOK ops env c n.els) (hincl : c < 3 → ∀ l, ListOK ops env (c + 1) l) : ListOK ops env c l := by
  intro id v b o w x hxc h hc hsl hnodes
  obtain ⟨ao, cap, rfl, hao, hbig, hcap⟩ := hsl.shape
  have hbig2 : l.length ≤ 1099511627776 := hbig
  have HN := Lib.hid hn
  have HI := Lib.hid hincl
  have HH := Lib.hid h
  have HXC := Lib.hid hxc
  have HAO := Lib.hid hao
  have HSV := Lib.hid hsv
  clear hn hincl h hxc hbig hsl hao hsv
  go_enter Tryd.func26, Tryd.ntmps26
  go_wp2_with fail
  go_loopw [12, 7, 8, 9] (fun i _ _ _ wr => ∃ (k : Nat) (x' : EvS S), k ≤ l.length ∧ i = .int .i64 k ∧ EvI env wr x' ∧ EvStep env w wr x x' ∧ Hid (x'.incl = c) ∧ env.cnt x'.st.src ≤ x'.st.steps ∧
      Hid (evD ops (3 - c) l id x.st = evD ops (3 - c) (l.drop k) id x'.st)) (fun i _ _ _ _ => l.length - (intOf i).toNat)
  case atStart => exact ⟨0, x, Nat.zero_le _, rfl, HH.out, EvStep.refl _ _ _, HXC, hc, Lib.hid rfl⟩
  case round =>
    obtain ⟨k, x', hk, rfl, b1, b2, b3, b4, b5⟩ := hrel
    by_cases hlt : k < l.length
    · have hnode := hnodes.get k hlt
      have hnk := HN.out l[k] (List.getElem_mem hlt)
      have hdr : l.drop k = l[k] :: l.drop (k + 1) := List.drop_eq_getElem_cons hlt
      rw [hdr, evD_cons] at b5
      generalize l[k] = nd at *
      obtain ⟨kind, text, name, arg, count, filters, kids, els⟩ := nd
      unfold NodeAt at hnode
      obtain ⟨⟨m0, m1, m2, m3, m4⟩, ⟨s1, s2, s3, s4⟩, ⟨fv, fb, fo, m5, f1, f2⟩, ⟨kv, kb, ko, m6, k1, k2⟩, ⟨ev, eb, eo, m7, e1, e2⟩⟩ := hnode
      have HM := Lib.hid (And.intro f1 (And.intro f2 (And.intro k1 (And.intro k2 (And.intro e1 e2)))))
      obtain ⟨fa, fcap, rfl, _, _, _⟩ := f1.shape
      obtain ⟨ka, kcap, rfl, _, _, _⟩ := k1.shape
      obtain ⟨ea, ecap, rfl, _, _, _⟩ := e1.shape
      have hao2 := HAO.out (by omega)
      subst hao2
      have hs := b1.sees
      have c0 := hs _ _ m0
      have c1 := hs _ _ m1
      have c2 := hs _ _ m2
      have c3 := hs _ _ m3
      have c4 := hs _ _ m4
      have c5 := hs _ _ m5
      have c6 := hs _ _ m6
      have c7 := hs _ _ m7
      have g3 := b1.cells.2.2.2.1
      have g2 := b1.cells.2.2.1
      have f3 := b1.free 3
      have hlE := b1.ltE
      have hst := b1.steps
      have HB := Lib.hid (And.intro b1 (And.intro b2 (And.intro b3 (And.intro b4 b5))))
      clear m0 m1 m2 m3 m4 m5 m6 m7 hs b1 b2 b3 b4 b5 f1 f2 k1 k2 e1 e2 hdr hnodes
      by_cases hful : 2000 ≤ x'.st.steps
      · have hf : ∀ o', Hid (NPost env w x (evD ops (3 - c) l id x.st) (panics 111) (wr.alloc o')) := fun o' => by
          obtain ⟨b1, b2, b3, b4, b5⟩ := HB.out
          rw [b5.out, if_pos hful]
          exact ⟨x', b1.later ok.keep (upd_box1 _ _), b2.trans (EvStep.quiet (upd_box1 _ _)), rfl, b4, .inr ⟨(by show ¬ (111 : Int) = 0; omega), rfl⟩⟩
        go_wp2_with (go_at_call 49; (with_reducible refine (fail_any 111 _).mono ?_); rintro e w' ⟨rfl, rfl⟩)
        exact ⟨rfl, (hf _).out⟩
      · obtain ⟨W1, HW1⟩ := named ((wr.setCell ⟨env.E, 3, none⟩ (.int .i64 ((x'.st.steps : Int) + 1))).alloc (.cells #[.int .i64 kind, .string text, .string name, .string arg, .int .i64 count, .slice fa filters.length fcap, .slice ka kids.length kcap, .slice ea els.length ecap] 52))
        obtain ⟨x2, HX2⟩ := named ({ x' with st := { x'.st with steps := x'.st.steps + 1 } } : EvS S)
        have hE2 : EvI env W1 x2 ∧ EvStep env w W1 x x2 := by
          obtain ⟨b1, b2, b3, b4, b5⟩ := HB.out
          have h1 := b1.setE ok.keep 3 (.int .i64 ((x'.st.steps : Int) + 1)) x2 (by rw [HX2.out]) (by rw [HX2.out]) (by rw [HX2.out]) (by rw [HX2.out]) (by rw [HX2.out]; show x'.st.steps + 1 ≤ 2000; omega) (by rw [HX2.out]; exact b1.inc) (by rw [HX2.out]; rfl)
          rw [HW1.out]
          exact ⟨h1.1.later ok.keep (upd_box1 _ _), b2.trans (h1.2.trans (EvStep.quiet (upd_box1 _ _)))⟩
        have HE2 := Lib.hid hE2
        have hsz : wr.heap.size < W1.heap.size := by rw [HW1.out]; simp
        have hd : ∀ j, W1.cell? ⟨wr.heap.size, j, none⟩ = (#[.int .i64 kind, .string text, .string name, .string arg, .int .i64 count, .slice fa filters.length fcap, .slice ka kids.length kcap, .slice ea els.length ecap] : Array Value)[j]? := fun j => by
          rw [HW1.out]; exact World.cell?_alloc_at _ _ _ _ (by simp)
        have d0 := hd 0
        have d1 := hd 1
        have d2 := hd 2
        have d3 := hd 3
        have d4 := hd 4
        have d5 := hd 5
        have d6 := hd 6
        have d7 := hd 7
        simp only [List.getElem?_toArray, List.getElem?_cons_zero, List.getElem?_cons_succ] at d0 d1 d2 d3 d4 d5 d6 d7
        clear hd
        have hlk : ∀ n, (Instr.lookup 73 (.map (some env.K)) (.int .i64 kind) true).run Tryd.prog (W1.drewN n) = .ok (.tuple #[((kindFn kind).map fun f => Value.func (.func f) #[] #[]).getD .nilFunc, .bool (kindFn kind).isSome]) (W1.drewN n) :=
          fun n => lookup_kind (W1.drewN n) env.K kind hE2.1.km
        have hlk1 : (Instr.lookup 73 (.map (some env.K)) (.int .i64 kind) true).run Tryd.prog W1.drew = .ok (.tuple #[((kindFn kind).map fun f => Value.func (.func f) #[] #[]).getD .nilFunc, .bool (kindFn kind).isSome]) W1.drew :=
          lookup_kind W1.drew env.K kind hE2.1.km
        have q2 := hE2.1.cells.2.2.1
        clear hE2
        rcases hkf : kindFn kind with _ | f
        · rw [hkf] at hlk hlk1
          simp only [Option.map_none, Option.getD_none, Option.isSome_none] at hlk hlk1
          go_wp2_with fail
          rw [← HW1.out]
          go_quiet (fail)
          have hf : ∀ n, Hid (NPost env w x (evD ops (3 - c) l id x.st) (panics 110) (W1.drewN n)) := fun n => by
            obtain ⟨h1, h2⟩ := HE2.out
            obtain ⟨b1, b2, b3, b4, b5⟩ := HB.out
            have hev := kind_none (ops := ops) (incF ops (3 - c)) kind count id text name arg filters kids els { x'.st with steps := x'.st.steps + 1 } hkf
            rw [b5.out, if_neg hful, hev, if_neg (by show ¬ (110 : Int) = 0; omega)]
            exact ⟨x2, h1.later ok.keep (upd_drewN _ _), h2.trans (EvStep.quiet (upd_drewN _ _)), by rw [HX2.out], by rw [HX2.out]; show env.cnt x'.st.src ≤ x'.st.steps + 1; omega, .inr ⟨(by show ¬ (110 : Int) = 0; omega), rfl⟩⟩
          go_wp2_with fail
          refine (fail_any 110 _).mono ?_
          rintro e w' ⟨rfl, rfl⟩
          exact ⟨rfl, (hf _).out⟩
        · rw [hkf] at hlk hlk1
          simp only [Option.map_some, Option.getD_some, Option.isSome_some] at hlk hlk1
          have hen := kind_enters kind f hkf
          have hcall : ∀ n, Calls Tryd.prog f #[.pointer (some ⟨env.E, 0, none⟩), .agg #[.int .i64 kind, .string text, .string name, .string arg, .int .i64 count, .slice fa filters.length fcap, .slice ka kids.length kcap, .slice ea els.length ecap], .int .i64 id] (W1.drewN n)
              (NPost env (W1.drewN n) x2 (evNode ops (incF ops (3 - c)) (.mk kind text name arg count filters kids els) id x2.st)) := fun n => by
            obtain ⟨h1, h2⟩ := HE2.out
            obtain ⟨b1, b2, b3, b4, b5⟩ := HB.out
            obtain ⟨f1, f2, k1, k2, e1, e2⟩ := HM.out
            exact kind_any ok HSV.out c kind count id text name arg filters kids els _ _ _ fb fo kb ko eb eo s1 s2 s3 s4 f1 f2 k1 k2 e1 e2 hnk.1 hnk.2 HI.out _ x2 (h1.later ok.keep (upd_drewN _ _)) (by rw [HX2.out]; exact b3.out) (by rw [HX2.out]; show env.cnt x'.st.src + 1 ≤ x'.st.steps + 1; omega) f hkf
          have HCA := Lib.hid hcall
          have HNK := Lib.hid hnk
          clear hcall hnk hkf
          go_wp2_with fail
          rw [← HW1.out]
          go_quiet (fail)
          go_wp2_with fail
          refine (HCA.out _).mono ?_
          intro e w4 hp
          obtain ⟨h1, h2⟩ := HE2.out
          obtain ⟨b1, b2, b3, b4, b5⟩ := HB.out
          have hx2 : x2.st = { x'.st with steps := x'.st.steps + 1 } := by rw [HX2.out]
          have hx2i : x2.incl = c := by rw [HX2.out]; exact b3.out
          rw [hx2] at hp
          have h2' := h2.trans (EvStep.quiet (upd_drewN W1 1))
          clear b1 b2 h1
          have hq : ∀ n, EvStep env w (W1.drewN n) x x2 := fun n => h2.trans (EvStep.quiet (upd_drewN W1 n))
          rcases hp.cases with ⟨h0, rfl⟩ | ⟨h0, rfl⟩
          · obtain ⟨x3, p1, p2, p3, p4, p5⟩ := hp
            have hst3 := (hq _).trans p2
            have hi3 : x3.incl = c := by
              rcases p5 with p5 | p5
              · exact p5.2.2.trans hx2i
              · exact absurd h0 p5.1
            have hev : Hid (evD ops (3 - c) l id x.st = evD ops (3 - c) (l.drop (k + 1)) id x3.st) := Lib.hid (by rw [b5.out, if_neg hful, if_pos h0, p3])
            have HP := Lib.hid (And.intro p1 (And.intro hst3 (And.intro hi3 p4)))
            clear p1 p2 p3 p4 p5 hq hst3 hi3 b5 h0 hx2 hx2i h2 h2'
            go_wp2_with fail
            go_roundw
            case rel => exact ⟨k + 1, x3, by omega, by go_num, HP.out.1, HP.out.2.1, Lib.hid HP.out.2.2.1, HP.out.2.2.2, hev⟩
            case measure => simp [intOf]; omega
          · have hf : NPost env w x (evD ops (3 - c) l id x.st) (panics (evNode ops (incF ops (3 - c)) (.mk kind text name arg count filters kids els) id { x'.st with steps := x'.st.steps + 1 }).1) w4 := by
              rw [b5.out, if_neg hful, if_neg h0]
              obtain ⟨x3, p1, p2, p3, p4, p5⟩ := hp
              exact ⟨x3, p1, (hq _).trans p2, p3, p4, .inr ⟨h0, rfl⟩⟩
            exact ⟨rfl, hf⟩
    · have hke : k = l.length := by omega
      have hf : Hid (NPost env w x (evD ops (3 - c) l id x.st) (.returned (.tuple #[])) wr) := by
        have e1 : evD ops (3 - c) l id x.st = (0, x'.st) := by rw [b5.out, hke, List.drop_length, evD_eq, evList]
        rw [e1]
        exact ⟨x', b1, b2, rfl, b4, .inl ⟨rfl, rfl, b3.out.trans HXC.out.symm⟩⟩
      clear b1 b2 b3 b4 b5
      go_wp2_with fail
      go_end0
      exact hf.out
end
section
variable {S : Type}
theorem lists_ok {ops : Ops S} {env : Env S} {R : Nat} (ok : SrcOK 116 118 117 ops env.base env.mem (.pointer (some ⟨R, 0, none⟩)) env.I env.cnt) (hsv : env.sv = .iface 57 (.pointer (some ⟨R, 0, none⟩))) :
    ∀ d c, c + d = 3 → ∀ l, ListOK ops env c l := by
  intro d
  induction d with
  | zero =>
    intro c hc
    have key : ∀ m l, SizeOf.sizeOf l ≤ m → ListOK ops env c l := by
      intro m
      induction m with
      | zero => intro l hl; cases l <;> simp at hl
      | succ m ih =>
        intro l hl
        refine list_any ok hsv c l (fun n hn => ?_) (fun h => by omega)
        have h1 := List.sizeOf_lt_of_mem hn
        have h2 := size_kids n
        exact ⟨ih _ (by omega), ih _ (by omega)⟩
    exact fun l => key _ l (Nat.le_refl _)
  | succ d ihd =>
    intro c hc
    have key : ∀ m l, SizeOf.sizeOf l ≤ m → ListOK ops env c l := by
      intro m
      induction m with
      | zero => intro l hl; cases l <;> simp at hl
      | succ m ih =>
        intro l hl
        refine list_any ok hsv c l (fun n hn => ?_) (fun h => ihd (c + 1) (by omega))
        have h1 := List.sizeOf_lt_of_mem hn
        have h2 := size_kids n
        exact ⟨ih _ (by omega), ih _ (by omega)⟩
    exact fun l => key _ l (Nat.le_refl _)
end
/-- what the caller of Run has: a source, and memory that is only read -/
structure Start {S : Type} (ops : Ops S) (mem : Addr → Option Value) (R : Nat) (I : (Nat → Prop) → World → S → Prop) (cnt : S → Nat) (F : Nat → Prop) (s : S) (w : World) : Prop where
  ok : SrcOK 116 118 117 ops w.heap.size mem (.pointer (some ⟨R, 0, none⟩)) I cnt
  src : I F w s
  cnt0 : cnt s = 0
  sees : Sees mem w
  memF : ∀ a v, mem a = some v → a.block < w.heap.size ∧ ¬ F a.block
  tab : Tab w
  tabF : 2 < w.heap.size ∧ ¬ F 2
/-- the world in which the evaluation begins -/
def startW (R : Nat) (w : World) : World :=
  ((((w.alloc (.cells #[.string ⟨#[]⟩] 9)).alloc (.cells #[.int .i64 0] 31)).alloc (.map #[ent 1 44 0, ent 2 45 1, ent 3 46 2, ent 4 47 3, ent 5 48 4] 5)).alloc
    (.cells #[.slice none 0 0, .iface 57 (.pointer (some ⟨R, 0, none⟩)), .map (some (w.heap.size + 2)), .int .i64 0, .int .i64 0] 79))
def startEnv {S : Type} (mem : Addr → Option Value) (R : Nat) (I : (Nat → Prop) → World → S → Prop) (cnt : S → Nat) (w : World) : Env S :=
  { base := w.heap.size, mem := mem, sv := .iface 57 (.pointer (some ⟨R, 0, none⟩)), I := I, cnt := cnt, K := w.heap.size + 2, E := w.heap.size + 3 }
theorem start_upd (R : Nat) (w : World) : Upd (fun _ => False) w (startW R w) := ((((Upd.refl _ w).alloc _).alloc _).alloc _).alloc _
theorem start_size (R : Nat) (w : World) : (startW R w).heap.size = w.heap.size + 4 := by simp [startW]
theorem start_inv {S : Type} {ops : Ops S} {mem : Addr → Option Value} {R : Nat} {I : (Nat → Prop) → World → S → Prop} {cnt : S → Nat} {F : Nat → Prop} {s : S} {w : World} (h : Start ops mem R I cnt F s w) :
    EvI (startEnv mem R I cnt w) (startW R w) (startS F s) where
  ev := by
    show (startW R w).heap[w.heap.size + 3]? = _
    have := World.alloc_heap_new (((w.alloc (.cells #[.string ⟨#[]⟩] 9)).alloc (.cells #[.int .i64 0] 31)).alloc (.map #[ent 1 44 0, ent 2 45 1, ent 3 46 2, ent 4 47 3, ent 5 48 4] 5)) (.cells #[.slice none 0 0, .iface 57 (.pointer (some ⟨R, 0, none⟩)), .map (some (w.heap.size + 2)), .int .i64 0, .int .i64 0] 79)
    simp only [World.size_alloc] at this
    exact this
  km := by
    obtain ⟨es, c, h1, h2⟩ := kinds_ok ((w.alloc (.cells #[.string ⟨#[]⟩] 9)).alloc (.cells #[.int .i64 0] 31))
    simp only [World.size_alloc] at h1
    exact ⟨es, c, (Below.heap_alloc _ _ _ (by simp [startEnv])).trans h1, h2⟩
  row := Row.nil _ _
  src := h.ok.keep h.src (start_upd R w) (fun _ f => f.elim)
  sepF := fun k hk => by cases hk
  sepE := ⟨fun f => by have := h.ok.lt h.src _ f; simp [startEnv] at this; omega, fun f => by have := h.ok.lt h.src _ f; simp [startEnv] at this; omega⟩
  ord := by simp [startEnv]
  sees := h.sees.upd (start_upd R w) (fun _ _ _ f => f)
  memF := h.memF
  tab := tab_upd h.tab (start_upd R w) h.tabF.1 (fun f => f)
  tabF := h.tabF
  out := by simp [startS]
  steps := by simp [startS]
  inc := by simp [startS]
theorem start_cells {S : Type} {ops : Ops S} {mem : Addr → Option Value} {R : Nat} {I : (Nat → Prop) → World → S → Prop} {cnt : S → Nat} {F : Nat → Prop} {s : S} {w w2 : World} (h : Start ops mem R I cnt F s w)
    (hu : Upd (Foot (startEnv mem R I cnt w) (startS F s)) (startW R w) w2) :
    w2.cell? ⟨w.heap.size, 0, none⟩ = some (.string ⟨#[]⟩) ∧ w2.cell? ⟨w.heap.size + 1, 0, none⟩ = some (.int .i64 0) ∧ w2.frozen? ⟨w.heap.size, 0, none⟩ = false ∧ w2.frozen? ⟨w.heap.size + 1, 0, none⟩ = false ∧ w.heap.size + 1 < w2.heap.size := by
  have hn : ∀ k, k < w.heap.size + 2 → w.heap.size ≤ k → ¬ Foot (startEnv mem R I cnt w) (startS F s) k := fun k h1 h2 f => by
    rcases f with f | f | f
    · simp [startEnv] at f; omega
    · cases f
    · have := h.ok.lt h.src k f; omega
  have hs := start_size R w
  have hsz := hu.size
  refine ⟨(hu.cell (p := ⟨w.heap.size, 0, none⟩) (by show w.heap.size < _; omega) (hn _ (by show w.heap.size < _; omega) (Nat.le_refl _))).trans ?_, (hu.cell (p := ⟨w.heap.size + 1, 0, none⟩) (by show w.heap.size + 1 < _; omega) (hn _ (by show w.heap.size + 1 < _; omega) (Nat.le_succ _))).trans ?_,
    (hu.frozen (p := ⟨w.heap.size, 0, none⟩) (by show w.heap.size < _; omega) (hn _ (by show w.heap.size < _; omega) (Nat.le_refl _))).trans ?_, (hu.frozen (p := ⟨w.heap.size + 1, 0, none⟩) (by show w.heap.size + 1 < _; omega) (hn _ (by show w.heap.size + 1 < _; omega) (Nat.le_succ _))).trans ?_, by omega⟩
  · unfold startW; simp [go_sem]
  · unfold startW; simp [go_sem]
  · unfold startW; simp [go_sem]
  · unfold startW; simp [go_sem]
set_option maxRecDepth 100000 in
set_option maxHeartbeats 2000000 in
theorem run_any {S : Type} {ops : Ops S} {mem : Addr → Option Value} {R : Nat} {I : (Nat → Prop) → World → S → Prop} {cnt : S → Nat} {F : Nat → Prop} {s : S} {w : World} (h : Start ops mem R I cnt F s w)
    (l : List Node) (v : Value) (b o : Nat) (hl : SliceOf v l.length b o) (hn : NodesAt mem l b o) (id : Int) :
    Calls Tryd.prog 16 #[v, .iface 57 (.pointer (some ⟨R, 0, none⟩)), .int .i64 id] w (RunPost I F w (runF ops l s id)) := by
  have hmf : ∀ (fn : Fn) (first cap : Array Value) (w : World), (Instr.makeFunc fn first cap).run Tryd.prog w = .ok (.func fn first cap) w := fun _ _ _ _ => rfl
  obtain ⟨ao, cap, rfl, _, _, _⟩ := hl.shape
  go_enter_defers Tryd.func16, Tryd.ntmps16
  go_wp2_with (go_at_call 25; (with_reducible refine (kinds_any _).mono ?_); rintro e w' ⟨rfl, rfl⟩)
  have hst : Calls Tryd.prog 26 #[.pointer (some ⟨w.heap.size + 3, 0, none⟩), .slice ao l.length cap, .int .i64 id] (startW R w) (NPost (startEnv mem R I cnt w) (startW R w) (startS F s) (evD ops 3 l id (startS F s).st)) :=
    lists_ok (env := startEnv mem R I cnt w) h.ok rfl 3 0 rfl l id _ b o _ (startS F s) rfl (start_inv h) (by show cnt s ≤ 0; rw [h.cnt0]; exact Nat.le_refl _) hl hn
  have hfin : ∀ (x' : EvS S) (w2 w3 : World), EvI (startEnv mem R I cnt w) w2 x' → EvStep (startEnv mem R I cnt w) (startW R w) w2 (startS F s) x' → Upd (fun k => k = w.heap.size ∨ k = w.heap.size + 1) w2 w3 →
      ∃ F', I F' w3 x'.st.src ∧ Upd F w w3 ∧ ∀ k, F' k → F k ∨ w.heap.size ≤ k := by
    intro x' w2 w3 g1 g2 g3
    have hs := start_size R w
    have hft : ∀ k, Foot (startEnv mem R I cnt w) (startS F s) k → F k ∨ w.heap.size ≤ k := fun k f => by
      rcases f with f | f | f
      · right; rw [f]; simp [startEnv]
      · cases f
      · exact .inl f
    have hF' : ∀ k, x'.F k → F k ∨ w.heap.size + 2 ≤ k := fun k f => by
      rcases g2.2 k (.inr (.inr f)) with f | f
      · rcases f with f | f | f
        · right; rw [f]; simp [startEnv]
        · cases f
        · exact .inl f
      · right; omega
    refine ⟨x'.F, h.ok.keep g1.src g3 (fun k e => ?_), ?_, fun k f => (hF' k f).imp (fun f => f) (fun f => by omega)⟩
    · refine ⟨by rcases e with e | e <;> omega, fun f => ?_⟩
      rcases hF' k f with f | f
      · have := h.ok.lt h.src k f; rcases e with e | e <;> omega
      · rcases e with e | e <;> omega
    · have h1 : Upd F w w2 := ((start_upd R w).mono (G := F) (fun _ f => f.elim)).trans g2.1 hft
      exact h1.trans g3 (fun k e => .inr (by rcases e with e | e <;> omega))
  have hrun : runF ops l s id = if (evD ops 3 l id (startS F s).st).1 = 0 then (((evD ops 3 l id (startS F s).st).2.out, 0), (evD ops 3 l id (startS F s).st).2.src) else (([], (evD ops 3 l id (startS F s).st).1), (evD ops 3 l id (startS F s).st).2.src) := rfl
  have HR := Lib.hid hrun
  have HF := Lib.hid hfin
  have HST := Lib.hid h
  clear hfin hrun h
  unfold startW ent at hst
  refine hst.mono ?_
  intro e w2 hp
  clear hst
  rcases hp.cases with ⟨h0, rfl⟩ | ⟨h0, rfl⟩
  · obtain ⟨x', a1, a2, a3, a4, a5⟩ := hp
    obtain ⟨c0, c1, f0, f1, hsz⟩ := start_cells HST.out a2.1
    have ct := a1.cells.1
    have hcv := conv_row a1.row
    have HA := Lib.hid (And.intro a1 (And.intro a2 a3))
    have HZ := Lib.hid h0
    clear a1 a2 a3 a4 a5 h0
    change w2.cell? ⟨w.heap.size + 3, 0, none⟩ = _ at ct
    go_wp2_with fail
    refine leaves_cons (f := 24) (args := #[.pointer (some ⟨w.heap.size, 0, none⟩), .pointer (some ⟨w.heap.size + 1, 0, none⟩)]) (by simp) (by simp [go_sem]) ?_
    refine (catch_idle _ _ _).mono ?_
    rintro e u' w3 ⟨rfl, rfl, rfl⟩
    have k0 : ((w2.setCell ⟨w.heap.size, 0, none⟩ (.string (bs x'.st.out))).setCell ⟨w.heap.size + 1, 0, none⟩ (.int .i64 0)).cell? ⟨w.heap.size, 0, none⟩ = some (.string (bs x'.st.out)) := (sc_blk (by omega)).trans (sc_same c0)
    have k1 : ((w2.setCell ⟨w.heap.size, 0, none⟩ (.string (bs x'.st.out))).setCell ⟨w.heap.size + 1, 0, none⟩ (.int .i64 0)).cell? ⟨w.heap.size + 1, 0, none⟩ = some (.int .i64 0) := sc_same ((sc_blk (by omega)).trans c1)
    generalize hw3 : (w2.setCell ⟨w.heap.size, 0, none⟩ (.string (bs x'.st.out))).setCell ⟨w.heap.size + 1, 0, none⟩ (.int .i64 0) = w3 at *
    have hu3 : Upd (fun k => k = w.heap.size ∨ k = w.heap.size + 1) w2 w3 := by
      rw [← hw3]
      exact ((Upd.refl _ w2).setCell (p := ⟨w.heap.size, 0, none⟩) (.inl (.inl rfl)) _).setCell (p := ⟨w.heap.size + 1, 0, none⟩) (.inl (.inr rfl)) _
    clear hw3
    obtain ⟨a1, a2, a3⟩ := HA.out
    have hpost : RunPost I F w (runF ops l s id) (.returned (.tuple #[.string (bs x'.st.out), .int .i64 0])) w3 := by
      rw [HR.out, if_pos HZ.out, ← a3]
      exact ⟨rfl, HF.out x' w2 w3 a1 a2 hu3⟩
    refine ⟨_, ?_, hpost⟩
    simp [results, Tryd.results16, go_sem, k0, k1]
  · obtain ⟨x', a1, a2, a3, a4, a5⟩ := hp
    obtain ⟨c0, c1, f0, f1, hsz⟩ := start_cells HST.out a2.1
    refine leaves_cons (f := 24) (args := #[.pointer (some ⟨w.heap.size, 0, none⟩), .pointer (some ⟨w.heap.size + 1, 0, none⟩)]) (by simp) (by simp [go_sem]) ?_
    refine (catch_panicking w.heap.size _ 0 ⟨#[]⟩ w2 hsz c0 c1 f0 f1).mono ?_
    rintro e u' w3 ⟨rfl, rfl, rfl⟩
    generalize hn : (evD ops 3 l id (startS F s).st).1 = n at *
    have k0 : ((((w2.setCell ⟨w.heap.size, 0, none⟩ (.string ⟨#[]⟩)).setCell ⟨w.heap.size + 1, 0, none⟩ (.int .i64 110)).alloc (.cells #[.int .i64 n] 70)).setCell ⟨w.heap.size + 1, 0, none⟩ (.int .i64 n)).cell? ⟨w.heap.size, 0, none⟩ = some (.string ⟨#[]⟩) := by
      rw [sc_blk (by omega), World.cell?_alloc_past _ _ _ (by simp; omega), sc_blk (by omega)]
      exact sc_same c0
    have k1 : ((((w2.setCell ⟨w.heap.size, 0, none⟩ (.string ⟨#[]⟩)).setCell ⟨w.heap.size + 1, 0, none⟩ (.int .i64 110)).alloc (.cells #[.int .i64 n] 70)).setCell ⟨w.heap.size + 1, 0, none⟩ (.int .i64 n)).cell? ⟨w.heap.size + 1, 0, none⟩ = some (.int .i64 n) := by
      refine sc_same (u := .int .i64 110) ?_
      rw [World.cell?_alloc_past _ _ _ (by simp; omega)]
      exact sc_same ((sc_blk (by omega)).trans c1)
    generalize hw3 : (((w2.setCell ⟨w.heap.size, 0, none⟩ (.string ⟨#[]⟩)).setCell ⟨w.heap.size + 1, 0, none⟩ (.int .i64 110)).alloc (.cells #[.int .i64 n] 70)).setCell ⟨w.heap.size + 1, 0, none⟩ (.int .i64 n) = w3 at *
    have hu3 : Upd (fun k => k = w.heap.size ∨ k = w.heap.size + 1) w2 w3 := by
      rw [← hw3]
      exact ((((Upd.refl _ w2).setCell (p := ⟨w.heap.size, 0, none⟩) (.inl (.inl rfl)) _).setCell (p := ⟨w.heap.size + 1, 0, none⟩) (.inl (.inr rfl)) _).alloc _).setCell (p := ⟨w.heap.size + 1, 0, none⟩) (.inl (.inr rfl)) _
    clear hw3
    have hpost : RunPost I F w (runF ops l s id) (.returned (.tuple #[.string ⟨#[]⟩, .int .i64 n])) w3 := by
      rw [HR.out, if_neg h0, ← a3]
      exact ⟨rfl, HF.out x' w2 w3 a1 a2 hu3⟩
    refine ⟨_, ?_, hpost⟩
    simp [results, Tryd.results16, go_sem, k0, k1]
end Go.Proofs.YtlkaikopjjmneaaDoor.Rep

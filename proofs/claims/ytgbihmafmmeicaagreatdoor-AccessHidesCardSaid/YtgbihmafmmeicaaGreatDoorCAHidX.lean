/-
  WHAT IS PROVED HERE: a law returns true and leaves its arguments as they were, for all arguments (5 texts joined). Conditions: those of the card.
-/
import Derived.Test.YtgbihmafmmeicaaGreatDoorBh6
import Derived.Test.YtgbihmafmmeicaaGreatDoorCards
import Derived.Test.YtgbihmafmmeicaaGreatDoorTie
import Derived.ProofKit
import Derived.OpenShut
import Derived.ChangeSame
import Derived.ChangeMaps5
import Derived.Carry
import Derived.Deep.DeepHandedRow
import Derived.Deep.Fields
import Derived.Test.YtgbihmafmmeicaaGreatDoorProg
import Derived.WideKeyPair
namespace Go.Proofs.YtgbihmafmmeicaaGreatDoor
open Go.ChangeShapes Go.WideShapes Go.ChangeAt Go.RowKit Go.ChangeMaps Go.Deep
section
variable {H : Type} {enc : TypeId × Value → H} {P : Program}
theorem post_of_below {f : Func} {s : ChangeSpec} {apart fresh handsOn again : Bool} {W W' : World} {args : Array Value} {v : Value} {ds gs : List (DataW H)} {before pa pv : List MemPlace}
    (hW : DataW.Whole enc P f.params.toList s.vars apart W args.toList ds gs before)
    (hres : ∀ (b : Nat) (sp : Nat → Bool) (hd : Bool), DataW.TrodAll enc P W' b sp hd f.resultTypes.toList (v.resultList f.resultTypes.size) (s.fn H (ds ++ gs)).results [])
    (hargs : ∀ sp : Nat → Bool, (∀ p ∈ before, sp p.block = true) → DataW.TrodAll enc P W' 0 sp true f.params.toList args.toList (s.fn H (ds ++ gs)).args pa)
    (hvars : ∀ sp : Nat → Bool, (∀ p ∈ before, sp p.block = true) → DataW.TrodVars enc P W' sp s.vars (s.fn H (ds ++ gs)).vars pv)
    (hps : before = pa ++ pv) (hb : Below W.heap.size W W')
    (hok : ∀ (j : Nat) (t : TypeId) (r : Value), f.resultTypes[j]? = some t → (v.resultList f.resultTypes.size)[j]? = some r → Value.okWide P W' .any 0 t r) :
    s.post enc P f apart fresh handsOn again W args v W' := by
  have hlt : ∀ p ∈ before, p.block < W.heap.size := fun p hp => hW.lt p hp
  have hold : ∀ p ∈ before, (fun b => decide (b < W.heap.size)) p.block = true := fun p hp => by simpa using hlt p hp
  refine ⟨ds, gs, before, [], pa, pv, hW, hres _ _ _, hargs _ hold, hvars _ hold, World.keptBut_mono (fun p hp => ⟨hp, ?_⟩) (hb.frame (· ∈ before)), fun _ => ?_⟩
  · rw [hps, List.mem_append] at hp
    exact Or.inr hp
  · obtain ⟨_, _, _, _, _, hz, hn⟩ := hW
    refine ⟨hok, _, _, ([] ++ pa) ++ pv, ⟨[] ++ pa, pv, trodAll_append (hargs _ (fun _ _ => rfl)) (hres _ _ _), hvars _ (fun _ _ => rfl), rfl, ?_, ?_⟩, ?_⟩
    · intro b off hp
      have hin : MemPlace.cell b off ∈ before := by rw [hps]; simpa using hp
      rw [hb.frozen (hlt _ hin)]
      exact hz b off hin
    · intro ha
      have := hn ha
      rw [hps] at this
      simpa using this
    · intro p hp _
      rw [hps]
      simpa using hp
end

theorem own : ownKnob Tryz.prog.godebug = none := by kernel_rfl
def laidAll : List (String × DataW Unit) := Rows.accessTakenRow.laid
noncomputable def lit1 : DataW Unit → List Value
  | .lit (.int k n) => [.int k n]
  | .agg ps => ps.flatMap fun
    | .lit (.int k n) => [.int k n]
    | _ => []
  | _ => []
noncomputable def lit2 : DataW Unit → List Value
  | .agg ps => ps.flatMap lit1
  | _ => []
noncomputable def layIn (h : Array Obj) (x : String × DataW Unit) : Array Obj :=
  match Tryz.prog.globalNamed x.1 with
  | some g => h.modify g (fun o => match o with
    | .cells _ t _ => .cells (lit2 x.2).toArray t (0, 0)
    | o => o)
  | none => h
noncomputable def laidWorld (os : Os) : World :=
  { World.holding Tryz.prog os ⟨#[], #[], []⟩ with heap := laidAll.foldl layIn (World.holding Tryz.prog os ⟨#[], #[], []⟩).heap }
theorem laidOut : laidOutB Tryz.prog = true := by kernel_rfl
theorem trodAll_stays {H : Type} {enc : TypeId × Value → H} {W W' : World} (hb : Below W.heap.size W W') (sp : Nat → Bool) : ∀ {ts : List TypeId} {vs : List Value} {ds : List (DataW H)} {ps : List MemPlace},
    (∀ t ∈ ts, Tryz.prog.readableRec t = true ∧ t < Tryz.prog.types.size) → DataW.TrodAll enc Tryz.prog W 0 (fun _ => true) true ts vs ds ps → (∀ p ∈ ps, p.block < W.heap.size) → (∀ p ∈ ps, sp p.block = true) →
    DataW.TrodAll enc Tryz.prog W' 0 sp true ts vs ds ps
  | [], [], [], _, _, h, _, _ => h
  | t :: ts, v :: vs, d :: ds, _, hr, h, hlt, hsp => by
    obtain ⟨p, q, h1, h2, rfl⟩ := h
    refine ⟨p, q, WideElems.Trod_stays laidOut (hr t (by simp)).1 (hr t (by simp)).2 h1 (fun x hx => hb.same (hlt x (by simp [hx]))) (fun x hx => hsp x (by simp [hx])), ?_, rfl⟩
    exact trodAll_stays hb sp (fun t ht => hr t (by simp [ht])) h2 (fun x hx => hlt x (by simp [hx])) (fun x hx => hsp x (by simp [hx]))
  | [], _ :: _, _, _, _, h, _, _ => h.elim
  | [], [], _ :: _, _, _, h, _, _ => h.elim
  | _ :: _, [], _, _, _, h, _, _ => h.elim
  | _ :: _, _ :: _, [], _, _, h, _, _ => h.elim
set_option maxRecDepth 100000 in
theorem close_law {H : Type} {enc : TypeId × Value → H} {f : Func} {s : ChangeSpec} {W W' : World} {args : Array Value} {ds gs : List (DataW H)} {before : List MemPlace}
    (hW : DataW.Whole enc Tryz.prog f.params.toList s.vars false W args.toList ds gs before) (hv : s.vars = []) (hres : f.resultTypes = #[4])
    (hspec : (s.fn H ds).results = [.lit (.bool true)] ∧ (s.fn H ds).args = ds ∧ (s.fn H ds).vars = []) (hread : ∀ t ∈ f.params.toList, Tryz.prog.readableRec t = true ∧ t < Tryz.prog.types.size) (hb : Below W.heap.size W W') :
    s.post enc Tryz.prog f false true false false W args (.bool true) W' := by
  have hW2 := hW
  obtain ⟨p, q, hA, hV, rfl, _, _⟩ := hW
  rw [hv] at hV
  obtain ⟨rfl, rfl⟩ := trodVars_none hV
  obtain ⟨s1, s2, s3⟩ := hspec
  have hlt := hW2.lt
  refine post_of_below (pa := p) (pv := []) hW2 (fun _ _ _ => ?_) (fun sp hsp => ?_) (fun _ _ => ?_) rfl hb ?_
  · rw [List.append_nil, s1, hres]
    exact trodAll_cons_mk (shut_bool Tryz.underlying4 _) trodAll_mk0
  · rw [List.append_nil, s2]
    exact trodAll_stays hb sp hread hA (fun x hx => hlt x (by simp [hx])) (fun x hx => hsp x (by simp [hx]))
  · rw [List.append_nil, s3, hv]
    exact rfl
  · exact ok_one hres rfl (okWide_bool_mk Tryz.underlying4 _)

end Go.Proofs.YtgbihmafmmeicaaGreatDoor
namespace Go.Proofs.YtgbihmafmmeicaaGreatDoor
open Go.ChangeShapes Go.WideShapes Go.RowKit Go.Deep Mg

theorem cell_add {w : World} {a : Addr} {k : Nat} {v : Value} (h : w.cell? (a.add k) = some v) : w.cell? ⟨a.block, a.off + k, none⟩ = some v := by
  by_cases hk : k = 0
  · subst hk
    have e : a.add 0 = a := by simp [Addr.add]
    rw [e] at h
    obtain ⟨b, o, s⟩ := a
    cases s with
    | none => exact h
    | some x =>
      unfold World.cell? at h
      simp at h
      split at h <;> simp at h
  · unfold Addr.add at h
    rwa [if_neg hk] at h
theorem cell_spot {w : World} {a : Addr} {v : Value} (h : w.cell? a = some v) : a = ⟨a.block, a.off, none⟩ := by
  obtain ⟨b, o, s⟩ := a
  cases s with
  | none => rfl
  | some x =>
    unfold World.cell? at h
    simp at h
    split at h <;> simp at h
theorem add_zero (a : Addr) : a.add 0 = a := by simp [Addr.add]
section
variable {H : Type} {enc : TypeId × Value → H} {P : Program} {w W : World} {base : Nat} {spare : Nat → Bool} {held : Bool}
theorem open_rows {t e : TypeId} {fuel n : Nat} {cs : List Value} {x : DataW H × List MemPlace} (ht : P.underlying t = some (.slice e)) (hC : P.cellsOf e = n) (hpos : 0 < n) (h : DataW.trod enc P w base spare held fuel t cs = some x) :
    cs = [.slice none 0 0] ∨
    ∃ (a : Addr) (len cap : Nat), cs = [.slice (some a) len cap] ∧ len ≤ cap ∧ cap ≤ maxLen ∧ (0 < len → a = ⟨a.block, a.off, none⟩) ∧
      ∀ i, i < len → ∃ (cs' : List Value) (y : DataW H × List MemPlace) (m : Nat), cs'.length = n ∧ DataW.trod enc P w base spare held m e cs' = some y ∧ ∀ j (hj : j < cs'.length), w.cell? ⟨a.block, a.off + i * n + j, none⟩ = some cs'[j] := by
  subst hC
  rcases DataW.trod_slice ht h with ⟨h0, _⟩ | ⟨a, len, cap, elems, rest, n, rfl, hcs, hx, _, hl, hm, hlen, hel, _, _⟩
  · exact .inl h0
  · refine .inr ⟨a, len, cap, hcs, hl, hm, fun h0 => ?_, fun i hi => ?_⟩
    · have h1 := hel 0 h0
      rw [List.getElem?_eq_getElem (by omega), Option.bind_eq_some_iff, Nat.zero_mul, add_zero] at h1
      obtain ⟨cs', hc, ht'⟩ := h1
      obtain ⟨_, hcl, hat⟩ := World.cells?_some hc
      have h2 := hat 0 hpos
      rw [List.getElem?_eq_getElem (by rw [hcl]; exact hpos), add_zero] at h2
      exact cell_spot h2
    have h1 := hel i hi
    rw [List.getElem?_eq_getElem (by omega)] at h1
    rw [Option.bind_eq_some_iff] at h1
    obtain ⟨cs', hc, ht'⟩ := h1
    obtain ⟨_, hcl, hat⟩ := World.cells?_some hc
    refine ⟨cs', _, n, hcl, ht', fun j hj => ?_⟩
    have h2 := hat j (by omega)
    rw [List.getElem?_eq_getElem hj, Go.Deep.add_add] at h2
    rw [Nat.add_assoc]
    exact cell_add h2
theorem int_arg {fuel : Nat} {v : Value} {x : DataW H × List MemPlace} (h : DataW.trod enc Tryz.prog w base spare held fuel 3 [v] = some x) : ∃ n : Int, v = .int .i64 n ∧ okI n := by
  obtain ⟨n, h1, _, h2⟩ := DataW.trod_int Tryz.underlying3 h
  injection h1 with h1 _
  refine ⟨n, h1, ?_⟩
  have e1 : IntKind.i64.min = -9223372036854775808 := by decide
  have e2 : IntKind.i64.max = 9223372036854775807 := by decide
  simp only [Lit.wf, e1, e2, Bool.and_eq_true, decide_eq_true_eq] at h2
  exact h2
theorem string_arg {fuel : Nat} {v : Value} {x : DataW H × List MemPlace} (h : DataW.trod enc Tryz.prog w base spare held fuel 9 [v] = some x) : ∃ s : ByteArray, v = .string s ∧ s.size ≤ maxLen := by
  obtain ⟨s, h1, _, h3⟩ := DataW.trod_string Tryz.underlying9 h
  injection h1 with h1 _
  exact ⟨s, h1, h3⟩
theorem each_ints {mem : Addr → Option Value} {b : Nat} : ∀ (n o : Nat), (∀ i, i < n → ∃ x : Int, mem ⟨b, o + i, none⟩ = some (.int .i64 x)) → ∃ l : List Int, l.length = n ∧ ∀ j (h : j < l.length), mem ⟨b, o + j, none⟩ = some (.int .i64 l[j])
  | 0, o, _ => ⟨[], rfl, fun j h => absurd h (by simp)⟩
  | n + 1, o, h => by
    obtain ⟨x, hx⟩ := h 0 (by omega)
    obtain ⟨l, h1, h2⟩ := each_ints n (o + 1) (fun i hi => by rw [show o + 1 + i = o + (i + 1) by omega]; exact h (i + 1) (by omega))
    refine ⟨x :: l, by simp [h1], fun j hj => ?_⟩
    cases j with
    | zero => exact hx
    | succ j => rw [show o + (j + 1) = o + 1 + j by omega]; exact h2 j (by simpa using hj)
theorem cells3 : Tryz.prog.cellsOf 3 = 1 := by kernel_rfl
theorem cells9 : Tryz.prog.cellsOf 9 = 1 := by kernel_rfl
theorem cells25 : Tryz.prog.cellsOf 30 = 1 := by kernel_rfl
theorem cells37 : Tryz.prog.cellsOf 34 = 4 := by kernel_rfl
theorem cells39 : Tryz.prog.cellsOf 56 = 9 := by kernel_rfl
theorem ints_arg {fuel : Nat} {v : Value} {x : DataW H × List MemPlace} (h : DataW.trod enc Tryz.prog w base spare held fuel 30 [v] = some x) : ∃ l : List Int, IntsM (fun a => w.cell? a) v l := by
  rcases open_rows Tryz.underlying30 cells3 (by omega) h with h0 | ⟨a, len, cap, hcs, hl, hm, hsp, hi⟩
  · injection h0 with h0 _
    subst h0
    exact ⟨[], IntsM.nil _⟩
  · injection hcs with hcs _
    subst hcs
    obtain ⟨l, h1, h2⟩ := each_ints (mem := fun a => w.cell? a) (b := a.block) len a.off (fun i hil => by
      obtain ⟨cs', y, m, hcl, ht, hc⟩ := hi i hil
      match cs', hcl with
      | [u], _ =>
        obtain ⟨n, rfl, _⟩ := int_arg ht
        have := hc 0 (by simp)
        exact ⟨n, by simpa using this⟩)
    subst h1
    exact ⟨l, a.block, a.off, ⟨Nat.le_trans hl hm, some a, cap, rfl, hl, hm, fun h0 => by rw [← hsp h0]⟩, h2⟩
theorem one37 : ∃ fs, Tryz.prog.underlying 34 = some (.struct fs) ∧ (fs.map (·.type)).toList = [3, 30, 3, 3] ∧ (fs.map (·.offset)).toList = [0, 1, 2, 3] :=
  ⟨_, Tryz.underlying34, by simp, by simp⟩
theorem one39 : ∃ fs, Tryz.prog.underlying 56 = some (.struct fs) ∧ (fs.map (·.type)).toList = [3, 3, 9, 3, 3, 34] ∧ (fs.map (·.offset)).toList = [0, 1, 2, 3, 4, 5] :=
  ⟨_, Tryz.underlying56, by simp, by simp⟩
theorem field_arg {t : TypeId} {fs : Array Field} {fuel : Nat} {cs : List Value} {x : DataW H × List MemPlace} (hu : P.underlying t = some (.struct fs)) (h : DataW.trod enc P w base spare held fuel t cs = some x) :
    ∃ m, ∀ (j : Nat) (t' : TypeId) (o : Nat), (fs.map (·.type)).toList[j]? = some t' → (fs.map (·.offset)).toList[j]? = some o → ∃ y : DataW H × List MemPlace, DataW.trod enc P w base spare held m t' ((cs.drop o).take (P.cellsOf t')) = some y := by
  obtain ⟨xs, n, _, _, _, hlen, hg⟩ := DataW.trod_struct hu h
  refine ⟨n, fun j t' o ht ho => ?_⟩
  rw [Array.getElem?_toList, Array.getElem?_map, Option.map_eq_some_iff] at ht ho
  obtain ⟨f, hj, rfl⟩ := ht
  obtain ⟨f', hj', rfl⟩ := ho
  obtain rfl := Option.some.inj (hj.symm.trans hj')
  have hjl : j < xs.length := by rw [hlen]; exact (Array.getElem?_eq_some_iff.1 hj).1
  exact ⟨xs[j], (hg j f hj).trans (List.getElem?_eq_getElem hjl)⟩
set_option maxRecDepth 100000 in
theorem blk_arg {fuel : Nat} {cs : List Value} {x : DataW H × List MemPlace} (hl : cs.length = 9) (h : DataW.trod enc Tryz.prog w base spare held fuel 56 cs = some x) {b o : Nat} (hc : ∀ j (hj : j < cs.length), w.cell? ⟨b, o + j, none⟩ = some cs[j]) :
    ∃ y : Blk, BlkAt (fun a => w.cell? a) y b o := by
  obtain ⟨fs, hu, hty, hof⟩ := one39
  obtain ⟨m, key⟩ := field_arg hu h
  rw [hty, hof] at key
  match cs, hl with
  | [c0, c1, c2, c3, c4, c5, c6, c7, c8], _ =>
    obtain ⟨y0, t0⟩ := key 0 3 0 rfl rfl
    obtain ⟨y1, t1⟩ := key 1 3 1 rfl rfl
    obtain ⟨y2, t2⟩ := key 2 9 2 rfl rfl
    obtain ⟨y3, t3⟩ := key 3 3 3 rfl rfl
    obtain ⟨y4, t4⟩ := key 4 3 4 rfl rfl
    obtain ⟨y5, t5⟩ := key 5 34 5 rfl rfl
    rw [cells3] at t0 t1 t3 t4
    rw [cells9] at t2
    rw [cells37] at t5
    obtain ⟨gs, hu', hty', hof'⟩ := one37
    obtain ⟨m', key'⟩ := field_arg hu' t5
    rw [hty', hof'] at key'
    obtain ⟨z0, s0⟩ := key' 0 3 0 rfl rfl
    obtain ⟨z1, s1⟩ := key' 1 30 1 rfl rfl
    obtain ⟨z2, s2⟩ := key' 2 3 2 rfl rfl
    obtain ⟨z3, s3⟩ := key' 3 3 3 rfl rfl
    rw [cells3] at s0 s2 s3
    rw [cells25] at s1
    obtain ⟨id, rfl, k0⟩ := int_arg (v := c0) t0
    obtain ⟨kind, rfl, k1⟩ := int_arg (v := c1) t1
    obtain ⟨text, rfl, k2⟩ := string_arg (v := c2) t2
    obtain ⟨story, rfl, _⟩ := int_arg (v := c3) t3
    obtain ⟨ref, rfl, _⟩ := int_arg (v := c4) t4
    obtain ⟨till, rfl, _⟩ := int_arg (v := c5) s0
    obtain ⟨after, ka⟩ := ints_arg (v := c6) s1
    obtain ⟨appr, rfl, _⟩ := int_arg (v := c7) s2
    obtain ⟨den, rfl, _⟩ := int_arg (v := c8) s3
    exact ⟨⟨id, kind, text, story, ref, ⟨till, after, appr, den⟩⟩, ⟨hc 0 (by simp), hc 1 (by simp), hc 2 (by simp), hc 3 (by simp), hc 4 (by simp)⟩, ⟨hc 5 (by simp), hc 7 (by simp), hc 8 (by simp)⟩, ⟨k2, k1, k0⟩, c6, hc 6 (by simp), ka⟩
theorem each_blks {mem : Addr → Option Value} {b : Nat} : ∀ (n o : Nat), (∀ i, i < n → ∃ y : Blk, BlkAt mem y b (o + i * 9)) → ∃ l : List Blk, l.length = n ∧ BlksAt mem l b o
  | 0, o, _ => ⟨[], rfl, fun j h => absurd h (by simp)⟩
  | n + 1, o, h => by
    obtain ⟨x, hx⟩ := h 0 (by omega)
    obtain ⟨l, h1, h2⟩ := each_blks n (o + 9) (fun i hi => by rw [show o + 9 + i * 9 = o + (i + 1) * 9 by omega]; exact h (i + 1) (by omega))
    refine ⟨x :: l, by simp [h1], fun j hj => ?_⟩
    cases j with
    | zero => exact hx
    | succ j => rw [show o + (j + 1) * 9 = o + 9 + j * 9 by omega]; exact h2 j (by simpa using hj)
theorem blks_arg {fuel : Nat} {v : Value} {x : DataW H × List MemPlace} (h : DataW.trod enc Tryz.prog w base spare held fuel 43 [v] = some x) : ∃ l : List Blk, BlksM (fun a => w.cell? a) v l := by
  rcases open_rows Tryz.underlying43 cells39 (by omega) h with h0 | ⟨a, len, cap, hcs, hl, hm, hsp, hi⟩
  · injection h0 with h0 _
    subst h0
    exact ⟨[], BlksM.nil _⟩
  · injection hcs with hcs _
    subst hcs
    obtain ⟨l, h1, h2⟩ := each_blks (mem := fun a => w.cell? a) (b := a.block) len a.off (fun i hil => by
      obtain ⟨cs', y, m, hcl, ht, hc⟩ := hi i hil
      exact blk_arg hcl ht hc)
    subst h1
    exact ⟨l, a.block, a.off, ⟨Nat.le_trans hl hm, some a, cap, rfl, hl, hm, fun h0 => by rw [← hsp h0]⟩, h2⟩
set_option maxRecDepth 100000 in
theorem blks_in {b0 : Nat} {v : Value} {d : DataW H} {p : List MemPlace} (hv : Value.okWide Tryz.prog W .any b0 43 v) (h : DataW.Trod enc Tryz.prog W 0 (fun _ => true) true 43 v d p) : ∃ l : List Blk, BlksM (fun a => W.cell? a) v l := by
  obtain ⟨a, len, cap, rfl⟩ := okWide_slice Tryz.underlying43 hv
  obtain ⟨fuel, h⟩ := h
  exact blks_arg h
end
end Go.Proofs.YtgbihmafmmeicaaGreatDoor
namespace Go.Proofs.YtgbihmafmmeicaaGreatDoor
open Go.ChangeShapes Go.WideShapes Go.RowKit Go.Deep Mg

section
variable {H : Type} {enc : TypeId × Value → H} {w W : World} {base : Nat} {spare : Nat → Bool} {held : Bool}
theorem cellsSix : Tryz.prog.cellsOf 62 = 6 := by kernel_rfl
theorem pair_key : WideMaps.ArrKey Tryz.prog 23 3 2 := ⟨Tryz.underlying23, by kernel_rfl, cells3, by kernel_rfl⟩
theorem okI_lit {n : Int} (h : (Lit.int .i64 n).wf = true) : okI n := by
  have e1 : IntKind.i64.min = -9223372036854775808 := by decide
  have e2 : IntKind.i64.max = 9223372036854775807 := by decide
  simp only [Lit.wf, e1, e2, Bool.and_eq_true, decide_eq_true_eq] at h
  exact h
set_option maxRecDepth 100000 in
theorem pair_in {b0 : Nat} {v : Value} {d : DataW H} {p : List MemPlace} (hv : Value.okWide Tryz.prog W .any b0 23 v) (h : DataW.Trod enc Tryz.prog W 0 (fun _ => true) true 23 v d p) : ∃ a b : Int, v = .agg #[.int .i64 a, .int .i64 b] ∧ okI a ∧ okI b := by
  obtain ⟨a, b, rfl, _, _, wa, wb⟩ := WideMaps.open_pair pair_key Tryz.underlying3 hv h
  exact ⟨a, b, rfl, okI_lit wa, okI_lit wb⟩
set_option maxRecDepth 100000 in
theorem int_in {b0 : Nat} {v : Value} {d : DataW H} {p : List MemPlace} (hv : Value.okWide Tryz.prog W .any b0 3 v) (h : DataW.Trod enc Tryz.prog W 0 (fun _ => true) true 3 v d p) : ∃ a : Int, v = .int .i64 a ∧ okI a := by
  obtain ⟨n, rfl⟩ := okWide_int Tryz.underlying3 hv
  obtain ⟨fuel, h⟩ := h
  obtain ⟨m, e, hm⟩ := int_arg (v := .int .i64 n) h
  exact ⟨m, e, hm⟩
set_option maxRecDepth 100000 in
theorem six_arg {fuel : Nat} {cs : List Value} {x : DataW H × List MemPlace} (hl : cs.length = 6) (h : DataW.trod enc Tryz.prog w base spare held fuel 62 cs = some x) {b o : Nat} (hc : ∀ j (hj : j < cs.length), w.cell? ⟨b, o + j, none⟩ = some cs[j]) :
    ∃ y : Six, okSix y ∧ SixAt (fun a => w.cell? a) y b o := by
  obtain ⟨xs, m, _, _, _, hxl, hg⟩ := DataW.trod_array Tryz.underlying62 h
  have key : ∀ i, i < 6 → ∃ y : DataW H × List MemPlace, DataW.trod enc Tryz.prog w base spare held m 3 ((cs.drop i).take 1) = some y := fun i hi => by
    have := hg i hi
    rw [cells3, Nat.mul_one] at this
    exact ⟨xs[i]'(by omega), this.trans (List.getElem?_eq_getElem (by omega))⟩
  match cs, hl with
  | [c0, c1, c2, c3, c4, c5], _ =>
    obtain ⟨y0, t0⟩ := key 0 (by omega)
    obtain ⟨y1, t1⟩ := key 1 (by omega)
    obtain ⟨y2, t2⟩ := key 2 (by omega)
    obtain ⟨y3, t3⟩ := key 3 (by omega)
    obtain ⟨y4, t4⟩ := key 4 (by omega)
    obtain ⟨y5, t5⟩ := key 5 (by omega)
    obtain ⟨a, rfl, ka⟩ := int_arg (v := c0) t0
    obtain ⟨b', rfl, kb⟩ := int_arg (v := c1) t1
    obtain ⟨c, rfl, kc⟩ := int_arg (v := c2) t2
    obtain ⟨d, rfl, kd⟩ := int_arg (v := c3) t3
    obtain ⟨e, rfl, ke⟩ := int_arg (v := c4) t4
    obtain ⟨f, rfl, kf⟩ := int_arg (v := c5) t5
    exact ⟨⟨a, b', c, d, e, f⟩, ⟨ka, kb, kc, kd, ke, kf⟩, hc 0 (by simp), hc 1 (by simp), hc 2 (by simp), hc 3 (by simp), hc 4 (by simp), hc 5 (by simp)⟩
theorem each_six {mem : Addr → Option Value} {b : Nat} : ∀ (n o : Nat), (∀ i, i < n → ∃ y : Six, okSix y ∧ SixAt mem y b (o + i * 6)) → ∃ l : List Six, l.length = n ∧ ∀ j (h : j < l.length), okSix l[j] ∧ SixAt mem l[j] b (o + j * 6)
  | 0, o, _ => ⟨[], rfl, fun j h => absurd h (by simp)⟩
  | n + 1, o, h => by
    obtain ⟨x, hx⟩ := h 0 (by omega)
    obtain ⟨l, h1, h2⟩ := each_six n (o + 6) (fun i hi => by rw [show o + 6 + i * 6 = o + (i + 1) * 6 by omega]; exact h (i + 1) (by omega))
    refine ⟨x :: l, by simp [h1], fun j hj => ?_⟩
    cases j with
    | zero => exact hx
    | succ j => rw [show o + (j + 1) * 6 = o + 6 + j * 6 by omega]; exact h2 j (by simpa using hj)
set_option maxRecDepth 100000 in
theorem sixes_in {b0 : Nat} {v : Value} {d : DataW H} {p : List MemPlace} (hv : Value.okWide Tryz.prog W .any b0 22 v) (h : DataW.Trod enc Tryz.prog W 0 (fun _ => true) true 22 v d p) : ∃ l : List Six, SixM (fun a => W.cell? a) v l := by
  obtain ⟨a, len, cap, rfl⟩ := okWide_slice Tryz.underlying22 hv
  obtain ⟨fuel, h⟩ := h
  rcases open_rows Tryz.underlying22 cellsSix (by omega) h with h0 | ⟨a, len, cap, hcs, hl, hm, hsp, hi⟩
  · injection h0 with h0 _
    rw [h0]
    exact ⟨[], 0, 0, sliceNil, fun j hj => absurd hj (by simp)⟩
  · injection hcs with hcs _
    rw [hcs]
    obtain ⟨l, h1, h2⟩ := each_six (mem := fun a => W.cell? a) (b := a.block) len a.off (fun i hil => by
      obtain ⟨cs', y, m, hcl, ht, hc⟩ := hi i hil
      exact six_arg hcl ht hc)
    subst h1
    exact ⟨l, a.block, a.off, ⟨Nat.le_trans hl hm, some a, cap, rfl, hl, hm, fun h0 => by rw [← hsp h0]⟩, h2⟩
end
end Go.Proofs.YtgbihmafmmeicaaGreatDoor
namespace Go.Proofs.YtgbihmafmmeicaaGreatDoor
open Go.RowKit Mg Go.Shelf

theorem wrap64_eq (x : Int) : w64 x = wrap64 x := IntWalk.i64_left x
theorem goodE_self {es : List FctE} (h : ∀ e ∈ es, validF e.f = true) : goodE es = es := by
  unfold goodE
  exact List.filter_eq_self.2 h
theorem blks_le {f : Fct} (ht : Tidy f) (h : validF f = true) : f.blocks.length ≤ 1000 := by
  by_cases hk : f.kind = 1
  · have := (revise_parts (validF_revise h hk)).2.2.1.1
    omega
  · have h2 := ht.used
    have : f.blocks = [] := by
      have e := congrArg Fct.blocks h2
      unfold usedF at e
      rw [if_neg hk] at e
      rcases ht.kind with q | q | q | q | q | q | q | q <;> simp [q, bare] at e <;> first | exact e | omega
    rw [this]; simp
set_option maxRecDepth 100000 in
set_option maxHeartbeats 8000000 in
theorem law_hides {mem : Addr → Option Value} {v : Value} {xs : List Six} (hx : SixM mem v xs) {a b n : Int} (ha : okI a) (hb : okI b) (_hn : okI n) (w : World) (hs : Sees mem w) :
    Calls Tryz.prog 5 #[v, .agg #[.int .i64 a, .int .i64 b], .int .i64 n] w fun e w' => e = .returned (.bool true) ∧ Below w.heap.size w w' := by
  have HX := Lib.hid hx
  obtain ⟨_, _, ⟨_, oa, oc, rfl, _⟩, _⟩ := hx
  have HB1 : Hid (Below w.heap.size w (w.alloc (.cells #[.int .i64 a, .int .i64 b] 23))) := Lib.hid ((Below.refl _ w).alloc (Nat.le_refl _) _)
  have HA1 := Lib.hid (World.alloc_heap_new w (.cells #[.int .i64 a, .int .i64 b] 23))
  have HS1 := Lib.hid (hs.bel HB1.out)
  obtain ⟨q0, q1⟩ := pickF_lt (c := a) (n := 4) (by omega)
  obtain ⟨t0, t1⟩ := pickF_lt (c := b) (n := 25) (by omega)
  have c2 := Lib.hid (fun W => at_any2 a b ha hb W)
  generalize pickF a 4 = pa at *
  generalize pickF b 25 = pb at *
  clear hs ha hb
  go_enter Tryz.func5, Tryz.ntmps5
  go_upto_region 1 with fail
  generalize hW1 : w.alloc _ = W1 at *
  clear hW1
  go_wp2_with fail
  refine (sane_any W1).mono ?_
  rintro e W2 ⟨rfl, hb2⟩
  have HB2 := Lib.hid (HB1.out.trans (hb2.mono HB1.out.size))
  have HA2 := Lib.hid ((hb2.block _ (Go.Proofs.YtgbihmafmmeicaaGreatDoor.hlt HA1.out)).trans HA1.out)
  have HS2 := Lib.hid (HS1.out.bel hb2)
  clear hb2
  go_wp2_with fail
  refine (log_any _ xs HX.out W2 HS2.out).mono ?_
  rintro e W3 ⟨lv, es, rfl, hys, hI⟩
  obtain ⟨la, lc, rfl⟩ := hI.row.shape
  have hyl : es.length ≤ 24 := by rw [← List.length_map (f := FctE.f), hys]; exact logF_len xs
  have HES := Lib.hid hI.es
  have HB3 := Lib.hid (HB2.out.trans (hI.bel.mono HB2.out.size))
  have HA3 := Lib.hid ((hI.bel.block _ (Go.Proofs.YtgbihmafmmeicaaGreatDoor.hlt HA2.out)).trans HA2.out)
  have HTY : Hid (∀ e ∈ es, Tidy e.f) := Lib.hid (fun e he => logF_tidy xs _ (by rw [← hys]; exact List.mem_map_of_mem he))
  clear hI hys
  go_wp2_with fail
  refine (clean_any _ es HES.out HTY.out (by omega) W3 (fun a u h => h)).mono ?_
  rintro e W4 ⟨cv, rfl, hC⟩
  obtain ⟨ca, cc, rfl⟩ := hC.row.shape
  have hgl : (goodE es).length ≤ 24 := by
    have h := List.length_filter_le (fun e : FctE => validF e.f) es
    unfold goodE
    omega
  have HTG : Hid (∀ e ∈ goodE es, Tidy e.f ∧ validF e.f = true) := Lib.hid (fun e he => by
    unfold goodE at he
    exact ⟨HTY.out e (List.mem_filter.1 he).1, (List.mem_filter.1 he).2⟩)
  have HG4 := Lib.hid (hC.es (fun a u h => sees_bel hC.bel a u h))
  have HB4 := Lib.hid (HB3.out.trans (hC.bel.mono HB3.out.size))
  have hA4 := (hC.bel.block _ (Go.Proofs.YtgbihmafmmeicaaGreatDoor.hlt HA3.out)).trans HA3.out
  have k0 : W4.cell? ⟨w.heap.size, 0, none⟩ = some (.int .i64 a) := blk_cell hA4 0
  have k1 : W4.cell? ⟨w.heap.size, 1, none⟩ = some (.int .i64 b) := blk_cell hA4 1
  clear hC HES hA4 HTY hyl HB3 HA3
  generalize goodE es = gs at *
  go_wp2_with fail
  refine (c2.out _).mono ?_
  rintro e W5 ⟨rfl, hb5⟩
  have HB5 := Lib.hid (HB4.out.trans (hb5.mono HB4.out.size))
  have HG5 := Lib.hid (HG4.out.mono (sees_bel hb5))
  clear k0 k1 hb5 HG4 HB4
  go_wp2_with fail
  refine (look_any _ gs HG5.out (fun e he => (HTG.out e he).1) (by omega) pa pb W5 (fun a u h => h)).mono ?_
  rintro e W6 ⟨sv, ov, O, rfl, hsv, hov, hout, hb6⟩
  rw [goodE_self (fun e he => (HTG.out e he).2)] at hsv
  obtain ⟨sa, sc, sb, so, rfl, _, hsa, _⟩ := hsv.open_
  obtain ⟨ua, uc, rfl⟩ := hov.slice
  obtain ⟨D, hD⟩ : ∃ D, D = gs.map FctE.f := ⟨_, rfl⟩
  have HFD : Hid ((gs.map FctE.f).filter validF = D) := Lib.hid (by
    rw [hD]
    exact List.filter_eq_self.2 (fun f hf => by obtain ⟨e, he, rfl⟩ := List.mem_map.1 hf; exact (HTG.out e he).2))
  have HDD := Lib.hid hD
  rw [HFD.out] at hout
  have HOUT := Lib.hid hout
  have HB6 := Lib.hid (HB5.out.trans (hb6.mono HB5.out.size))
  have HSV := Lib.hid hsv
  have HOV := Lib.hid hov
  have HG6 := Lib.hid (HG5.out.mono (sees_bel hb6))
  clear hsv hov hout hb6 hD hsa HG5 HB5
  go_upto_region 5 with fail
  have HN7 := Lib.hid (World.alloc_heap_new W6 (.cells (sceneC (.slice sa gs.length sc) pa pb (.slice ua O.length uc)) 48))
  have hb7 : Below W6.heap.size W6 (W6.alloc (.cells (sceneC (.slice sa gs.length sc) pa pb (.slice ua O.length uc)) 48)) := (Below.refl _ W6).alloc (Nat.le_refl _) _
  have HB7 := Lib.hid (HB6.out.trans (hb7.mono HB6.out.size))
  have HSV7 := Lib.hid (HSV.out.mono (sees_bel hb7))
  have HOV7 := Lib.hid (HOV.out.mono (sees_bel hb7))
  have HG7 := Lib.hid (HG6.out.mono (sees_bel hb7))
  generalize hT : W6.heap.size = T at *
  generalize W6.alloc _ = W7 at *
  clear hb7 HSV HOV HG6 HB6 hT
  obtain ⟨c, hc⟩ : ∃ c, c = (⟨D, pa, pb, O⟩ : Scn) := ⟨_, rfl⟩
  have HC := Lib.hid hc
  have HCD : Hid (c.D = D) := Lib.hid (by rw [hc])
  have HLD : Hid (D.length = gs.length) := Lib.hid (by rw [HDD.out, List.length_map])
  have HOT : Hid (∀ (i : Nat) (hi : i < gs.length) (W : World), Sees (fun a => W7.cell? a) W → Calls Tryz.prog 22 #[.agg (sceneC (.slice sa gs.length sc) pa pb (.slice ua O.length uc)), .int .i64 (i : Nat), .int .i64 (w64 (n + i))] W (OthPost (fun a => W7.cell? a) (otherF c (placesF c (c.D.take i)) (w64 (n + i)) (gs[i]'hi).f) W)) := Lib.hid (fun i hi W hW => by
    have h := other_any HSV7.out HOV7.out pa pb i hi (w64 (n + i)) (w64_in _) (blks_le (HTG.out _ (List.getElem_mem hi)).1 (HTG.out _ (List.getElem_mem hi)).2) W hW
    rw [← HDD.out, ← hc] at h
    rw [HCD.out]
    exact h)
  have HSU : Hid (∀ (i : Nat) (hi : i < gs.length), (hidden c n).take (i + 1) = (hidden c n).take i ++ [otherF c (placesF c (c.D.take i)) (w64 (n + i)) (gs[i]'hi).f]) := Lib.hid (fun i hi => by
    have hi2 : i < c.D.length := by rw [HCD.out, HLD.out]; exact hi
    rw [hidden_succ c n i hi2]
    congr 4
    simp only [HCD.out, HDD.out, List.getElem_map])
  clear hc
  have hgl2 : (gs.length : Int) ≤ 24 := by omega
  go_wp2_with fail
  go_loopw [12, 13] (fun v i wr => ∃ (k : Nat) (ys : List FctE), k ≤ gs.length ∧ i = .int .i64 k ∧ Hid (ys.map FctE.f = (hidden c n).take k) ∧ Hid (ListO W7 v ys wr)) (fun _ i _ => gs.length - (intOf i).toNat)
  case atStart => exact ⟨0, [], Nat.zero_le _, rfl, Lib.hid rfl, Lib.hid ListO.start⟩
  case round =>
    obtain ⟨k, ys, hk, rfl, HY, HI⟩ := hrel
    obtain ⟨wo, rfl⟩ : ∃ wo, wo = wr := ⟨_, rfl⟩
    obtain ⟨va, vc, rfl⟩ := HI.out.row.shape
    by_cases hlt : k < gs.length
    · have hyl : ys.length ≤ 24 := by
        have h := congrArg List.length HY.out
        rw [List.length_map, List.length_take] at h
        omega
      have hN := (HI.out.bel.block _ (Go.Proofs.YtgbihmafmmeicaaGreatDoor.hlt HN7.out)).trans HN7.out
      have k0 : wo.cell? ⟨T, 0, none⟩ = some (.slice sa gs.length sc) := blk_cell hN 0
      have k1 : wo.cell? ⟨T, 1, none⟩ = some (.int .i64 pa) := blk_cell hN 1
      have k2 : wo.cell? ⟨T, 2, none⟩ = some (.int .i64 pb) := blk_cell hN 2
      have k3 : wo.cell? ⟨T, 3, none⟩ = some (.slice ua O.length uc) := blk_cell hN 3
      have cO := Lib.hid (HOT.out k hlt wo (fun a u h => sees_bel HI.out.bel a u h))
      have HST := Lib.hid (HSU.out k hlt)
      generalize otherF c (placesF c (c.D.take k)) (w64 (n + k)) (gs[k]'hlt).f = of at *
      have hw : w64 (n + k) = wrap64 (n + k) := wrap64_eq _
      rw [hw] at cO
      clear hw hN
      go_wp2_with fail
      refine cO.out.mono ?_
      rintro e w3 ⟨y, rfl, hyf, hyok, hb⟩
      have HYF := Lib.hid hyf
      have HYO := Lib.hid hyok
      have HB3 := Lib.hid hb
      have HR3 := Lib.hid (HI.out.rowB hb)
      have hsz3 : W7.heap.size ≤ w3.heap.size := Nat.le_trans HI.out.bel.size hb.size
      clear cO k0 k1 k2 k3 hyf hyok hb
      go_wp2_with (first
        | ((with_reducible refine at_fslice _ rfl ?_); go_must (refine wpList_fct_slice rfl _ rfl y (by first | (simp [Act.eval]; done) | simp [Act.eval, Act.put]) ?_))
        | (at_builtin
           go_must (refine wpList_app_fct rfl _ _ rfl W7.heap.size _ ys rfl (HR3.out.same fun k hk => Below.heap_alloc _ _ _ (HR3.out.ge k hk).2) y w3.heap.size 1 rfl (World.alloc_heap_new _ _) (by omega) (by simp; omega) ?_)
           intro v2 w2 h2 hg2 hn2
           have H2 := Lib.hid (HI.out.app HB3.out HYO.out h2 hg2 hn2)
           clear h2 hg2 hn2))
      go_roundw
      case rel => exact ⟨k + 1, ys ++ [y], by omega, by go_num, Lib.hid (by rw [HST.out, List.map_append, HY.out, List.map_cons, List.map_nil, HYF.out]), H2⟩
      case measure => simp [intOf]; omega
    · obtain rfl : k = gs.length := by omega
      have HYS : Hid (ys.map FctE.f = hidden c n) := Lib.hid (by
        rw [HY.out]
        exact List.take_of_length_le (by rw [hidden_len, HCD.out, HLD.out]; exact Nat.le_refl _))
      have HTM : Hid (∀ e ∈ ys, Tidy e.f ∧ validF e.f = true) := Lib.hid (fun e he => by
        have hm : e.f ∈ hidden c n := by rw [← HYS.out]; exact List.mem_map_of_mem he
        obtain ⟨g, hg, pl, m, hgm⟩ := hidden_mem c n _ hm
        rw [HCD.out, HDD.out] at hg
        obtain ⟨z, hz, rfl⟩ := List.mem_map.1 hg
        have hv := HTG.out z hz
        rw [hgm]
        have hv2 := other_valid (c := c) (pl := pl) (n := m) hv.2
        exact ⟨⟨by rw [(other_keeps c pl m z.f).1]; exact hv.1.kind, validF_used hv2⟩, hv2⟩)
      have hyl : ys.length ≤ 24 := by
        have h := congrArg List.length HYS.out
        rw [List.length_map, hidden_len, HCD.out, HLD.out] at h
        omega
      have HMW := Lib.hid HI.out.es
      have HBW := Lib.hid (HB7.out.trans (HI.out.bel.mono HB7.out.size))
      have HGW := Lib.hid (HG7.out.mono (sees_bel HI.out.bel))
      have HFM : Hid ((ys.map FctE.f).filter validF = hidden c n) := Lib.hid (by
        rw [← HYS.out]
        exact List.filter_eq_self.2 (fun f hf => by obtain ⟨e, he, rfl⟩ := List.mem_map.1 hf; exact (HTM.out e he).2))
      have HDG : Hid (digF (hidden c n) = digF D) := Lib.hid (by rw [(hide_dig c n).1, HCD.out])
      have HVH : Hid (visC ⟨hidden c n, pa, pb, O⟩ = visC ⟨D, pa, pb, O⟩) := Lib.hid (by
        have h := vis_hide c n
        have e1 : ({ c with D := hidden c n } : Scn) = ⟨hidden c n, pa, pb, O⟩ := by rw [HC.out]
        rw [e1] at h
        rw [h, HC.out])
      clear HI HB7 HG7 hlt hk HOT HSU HY
      go_wp2_with fail
      refine (access_visible_any _ gs HGW.out (fun e he => (HTG.out e he).1) (by omega) pa pb wo (fun a u h => h) (cells_lt wo)).mono ?_
      rintro e w10 ⟨v2, zs, L3, rfl, hL, hzs, hzr, hzok, hb⟩
      obtain ⟨y1, y2, y3, rfl⟩ := hzr.sl
      have HZ10 := Lib.hid (hzr.es (fun y hy => (hzok y hy).mono (memFr_sees _ _)))
      rw [HFD.out] at hL hzs
      rw [out_one (hL q0 q1) HOUT.out] at hzs
      have HZS := Lib.hid hzs
      have HB10 := Lib.hid (HBW.out.trans (hb.mono HBW.out.size))
      have HM10 := Lib.hid (HMW.out.mono (sees_bel hb))
      clear hL hzs hzr hzok hb HBW HGW HMW
      go_wp2_with fail
      refine (access_visible_any _ ys HM10.out (fun e he => (HTM.out e he).1) (by omega) pa pb w10 (fun a u h => h) (cells_lt w10)).mono ?_
      rintro e w11 ⟨v2, us, L4, rfl, hL, hus, hur, huok, hb⟩
      obtain ⟨u1, u2, u3, rfl⟩ := hur.sl
      have HU11 := Lib.hid (hur.es (fun y hy => (huok y hy).mono (memFr_sees _ _)))
      have HZ11 := Lib.hid (HZ10.out.mono (sees_bel hb))
      rw [HFM.out] at hL hus
      have h3 := hL q0 q1
      rw [HDG.out] at h3
      rw [out_one h3 HOUT.out] at hus
      have HE : Hid (zs.map FctE.f = us.map FctE.f) := Lib.hid (by
        rw [HZS.out, hus]
        unfold visOf
        rw [HVH.out])
      have HB11 := Lib.hid (HB10.out.trans (hb.mono HB10.out.size))
      clear hL hus hur huok hb h3 HB10 HM10 HZ10
      go_wp2_with fail
      refine (rsameList_any _ _ zs us HZ11.out HU11.out HE.out w11 (fun a u h => h)).mono ?_
      rintro e w12 ⟨rfl, hb⟩
      have HB12 := Lib.hid (HB11.out.trans (hb.mono HB11.out.size))
      clear hb
      go_wp2_with fail
      go_ret
      exact ⟨rfl, HB12.out⟩
end Go.Proofs.YtgbihmafmmeicaaGreatDoor
namespace Go.Proofs.YtgbihmafmmeicaaGreatDoor.fnAHid
open Go.ChangeShapes Go.WideShapes Go.ChangeAt Go.RowKit Go.ChangeMaps Mg

set_option maxRecDepth 100000 in
theorem contract (H : Type) (enc : TypeId × Value → H) (W : World) (base : Nat) (args : Array Value) (ds gs : List (DataW H)) (before : List MemPlace)
    (hval : ∀ (j : Nat) t v, Tryz.f5.params[j]? = some t → args[j]? = some v → Value.okWide Tryz.prog W .any base t v)
    (hW : DataW.Whole enc Tryz.prog Tryz.f5.params.toList Rows.accessHidesSpec.vars false W args.toList ds gs before) :
    Calls Tryz.prog 5 args W fun e W' => ∃ v, e = .returned v ∧ Rows.accessHidesSpec.post enc Tryz.prog Tryz.f5 false true false false W args v W' := by
  have hread : ∀ t ∈ Tryz.f5.params.toList, Tryz.prog.readableRec t = true ∧ t < Tryz.prog.types.size := by
    have hall : (Tryz.f5.params.toList.all fun t => Tryz.prog.readableRec t && decide (t < Tryz.prog.types.size)) = true := by kernel_rfl
    intro t ht
    have := List.all_eq_true.1 hall t ht
    simpa using this
  have hclose : ∀ W', Below W.heap.size W W' → (Rows.accessHidesSpec.fn H ds).results = [.lit (.bool true)] ∧ (Rows.accessHidesSpec.fn H ds).args = ds ∧ (Rows.accessHidesSpec.fn H ds).vars = [] → Rows.accessHidesSpec.post enc Tryz.prog Tryz.f5 false true false false W args (.bool true) W' :=
    fun W' hg hs => close_law hW rfl (by kernel_rfl) hs hread hg
  obtain ⟨p, q, hA0, hV, rfl, hfz, hnd⟩ := hW
  have hA : DataW.TrodAll enc Tryz.prog W 0 (fun _ => true) true Tryz.f5.params.toList args.toList ds p := hA0
  obtain ⟨rfl, rfl⟩ := trodVars_none hV
  rw [Tryz.params5] at hA hval
  clear hA0 hread hfz hnd hV
  obtain ⟨v0, vs0, d0, ds0, p0, q0, hargs, rfl, rfl, h0, r0⟩ := trodAll_cons hA
  obtain ⟨v1, vs1, d1, ds1, p1, q1, rfl, rfl, rfl, h1, r1⟩ := trodAll_cons r0
  obtain ⟨v2, vs2, d2, ds2, p2, q2, rfl, rfl, rfl, h2, r2⟩ := trodAll_cons r1
  obtain ⟨rfl, rfl, rfl⟩ := trodAll_nil r2
  obtain rfl : args = #[v0, v1, v2] := by cases args; simp_all
  obtain ⟨l0, b0⟩ := sixes_in (hval 0 22 v0 rfl rfl) h0
  obtain ⟨x1, y1, rfl, ka1, kb1⟩ := pair_in (hval 1 23 v1 rfl rfl) h1
  obtain ⟨x2, rfl, ka2⟩ := int_in (hval 2 3 v2 rfl rfl) h2
  refine (law_hides b0 ka1 kb1 ka2 W (Sees.self W)).mono fun e W' ⟨he, hg⟩ => ?_
  exact ⟨_, he, hclose W' hg ⟨rfl, rfl, rfl⟩⟩

theorem laid_met (os : Os) : laidMet Tryz.prog Rows.accessHidesRow.laid ((laidWorld os).forCall (fun _ _ => 0) ⟨#[], #[.slice none 0 0, .agg #[.int .i64 0, .int .i64 0], .int .i64 0], []⟩).memory :=
  laidMet_of_run' 8 (by kernel_rfl) (by kernel_rfl)
theorem reads (os : Os) {H : Type} (enc : TypeId × Value → H) : ∃ places, DataW.whole enc Tryz.prog ((laidWorld os).forCall (fun _ _ => 0) ⟨#[], #[.slice none 0 0, .agg #[.int .i64 0, .int .i64 0], .int .i64 0], []⟩).memory Tryz.f5.params.toList Rows.accessHidesSpec.vars false (#[Value.slice none 0 0, .agg #[.int .i64 0, .int .i64 0], .int .i64 0] : Array Value).toList 8 = some ([.nil, .agg [.lit (.int .i64 0), .lit (.int .i64 0)], .lit (.int .i64 0)], [], places) :=
  ⟨[], by kernel_rfl⟩

set_option maxRecDepth 100000 in
theorem lifted (os : Os) (started : os.Started) (H : Type) (enc : TypeId × Value → H) (F : Stop.Interp) :
    ReturnsInHanded {} Tryz.checked os 5 .any ((OpenSpec.ofChange Rows.accessHidesSpec).preRow enc Tryz.prog Tryz.f5 Rows.accessHidesRow.domain false Rows.accessHidesRow.laid) (((OpenSpec.ofChange Rows.accessHidesSpec).at F).post enc Tryz.prog Tryz.f5 false true false false) := by
  obtain ⟨places, hx⟩ := reads os enc
  refine returnsInHanded_of_row (C := Tryz.checked) (s := OpenSpec.ofChange Rows.accessHidesSpec) own started (by kernel_rfl) Tryz.func5
    (witness_row_at (enc := enc) (C := Tryz.checked) false (laidWorld os) #[.slice none 0 0, .agg #[.int .i64 0, .int .i64 0], .int .i64 0] rfl (by kernel_rfl) (by kernel_rfl) (by kernel_rfl)
      (OpenSpec.preRow_of_cond 8 hx (by kernel_rfl) (fun k hk => by cases hk) (by kernel_rfl) (laid_met os))) ?_
  intro W base args ds gs before hval hW _ _ _ _ _ _
  exact contract H enc W base args ds gs before hval hW

theorem said : Rows.AccessHidesSaid :=
  OpenClaim.holds_of_cond 5 Tryz.f5 rfl rfl rfl rfl rfl rfl rfl ⟨rfl, rfl, rfl, rfl, rfl⟩ rfl rfl rfl rfl rfl (by kernel_rfl) Tryz.func5 (by kernel_rfl)
    (of_decide_eq_true (by kernel_rfl)) (by unfold Func.isWrapper; first | (rw [if_pos (by decide +kernel)]; kernel_rfl) | (rw [if_neg (by decide +kernel)]; exact ⟨rfl, rfl⟩))
    (fun os started H enc _ F => by rw [OpenClaim.pre_eq_preRow]; exact lifted os started H enc F)

theorem plain (f : FuncId) (fn : Func) (hf : Tryz.pinned.checked.prog.funcNamed "copydesk/copydesklaw06.AccessHides" = some f) (hfn : Tryz.pinned.checked.prog.funcs[f]? = some fn) :
    false = Tryz.pinned.checked.prog.looks [] ∧ ∀ (j : Nat) t, fn.params[j]? = some t → Tryz.pinned.checked.prog.wantsStandIn t = false := by
  obtain rfl : f = 5 := Option.some.inj ((show Tryz.prog.funcNamed "copydesk/copydesklaw06.AccessHides" = some 5 by kernel_rfl).symm.trans hf) |>.symm
  obtain rfl : fn = Tryz.f5 := (Option.some.inj (Tryz.func5.symm.trans hfn)).symm
  refine ⟨by kernel_rfl, fun j t ht => ?_⟩
  have hall : Tryz.f5.params.all (fun t => !Tryz.prog.wantsStandIn t) = true := by kernel_rfl
  have := Array.all_eq_true'.1 hall t (Array.mem_of_getElem? ht)
  exact (by simpa using this : Tryz.prog.wantsStandIn t = false)

theorem card : Rows.AccessHidesCardSaid :=
  Claim7.holds_tied_plain_at .later [] _ _ _ _ said (fun _ h => by cases h) (by kernel_rfl) (fun _ h => by cases h) accessHides_row_tie rfl ⟨rfl, rfl⟩ (by kernel_rfl) rfl plain (by kernel_rfl)
end Go.Proofs.YtgbihmafmmeicaaGreatDoor.fnAHid

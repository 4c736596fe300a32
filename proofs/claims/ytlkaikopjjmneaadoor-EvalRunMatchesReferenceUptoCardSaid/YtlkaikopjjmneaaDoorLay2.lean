/-
  WHAT IS PROVED HERE: the last step of a law's row, whatever its arguments; a struct of three slices as an argument. No condition.
-/
import Derived.Test.YtlkaikopjjmneaaDoorArg
import Derived.ChangeMaps5
namespace Go.Proofs.YtlkaikopjjmneaaDoor
open Go.ChangeShapes Go.WideShapes Go.ChangeAt Go.RowKit Go.ChangeMaps Go.Deep

theorem laidOut : laidOutB Tryd.prog = true := by kernel_rfl
theorem trodAll_stays {H : Type} {enc : TypeId × Value → H} {W W' : World} (hb : Below W.heap.size W W') (sp : Nat → Bool) : ∀ {ts : List TypeId} {vs : List Value} {ds : List (DataW H)} {ps : List MemPlace},
    (∀ t ∈ ts, Tryd.prog.readableRec t = true ∧ t < Tryd.prog.types.size) → DataW.TrodAll enc Tryd.prog W 0 (fun _ => true) true ts vs ds ps → (∀ p ∈ ps, p.block < W.heap.size) → (∀ p ∈ ps, sp p.block = true) →
    DataW.TrodAll enc Tryd.prog W' 0 sp true ts vs ds ps
  | [], [], [], _, _, h, _, _ => h
  | t :: ts, v :: vs, d :: ds, _, hr, h, hlt, hsp => by
    obtain ⟨p, q, h1, h2, rfl⟩ := h
    refine ⟨p, q, WideElems.Trod_stays laidOut (hr t (by simp)).1 (hr t (by simp)).2 h1 (fun x hx => hb.same (hlt x (by simp [hx]))) (fun x hx => hsp x (by simp [hx])), ?_, rfl⟩
    exact trodAll_stays hb sp (fun t ht => hr t (by simp [ht])) h2 (fun x hx => hlt x (by simp [hx])) (fun x hx => hsp x (by simp [hx]))
  | [], _ :: _, _, _, _, h, _, _ => h.elim
  | [], [], _ :: _, _, _, h, _, _ => h.elim
  | _ :: _, [], _, _, _, h, _, _ => h.elim
  | _ :: _, _ :: _, [], _, _, h, _, _ => h.elim
set_option maxRecDepth 100000 in
theorem close_law {H : Type} {enc : TypeId × Value → H} {f : Func} {s : ChangeSpec} {W W' : World} {args : Array Value} {ds gs : List (DataW H)} {before : List MemPlace}
    (hW : DataW.Whole enc Tryd.prog f.params.toList s.vars false W args.toList ds gs before) (hv : s.vars = []) (hres : f.resultTypes = #[4])
    (hspec : (s.fn H ds).results = [.lit (.bool true)] ∧ (s.fn H ds).args = ds ∧ (s.fn H ds).vars = []) (hread : ∀ t ∈ f.params.toList, Tryd.prog.readableRec t = true ∧ t < Tryd.prog.types.size) (hb : Below W.heap.size W W') :
    s.post enc Tryd.prog f false true false false W args (.bool true) W' := by
  have hW2 := hW
  obtain ⟨p, q, hA, hV, rfl, _, _⟩ := hW
  rw [hv] at hV
  obtain ⟨rfl, rfl⟩ := trodVars_none hV
  obtain ⟨s1, s2, s3⟩ := hspec
  have hlt := hW2.lt
  refine post_of_below (pa := p) (pv := []) hW2 (fun _ _ _ => ?_) (fun sp hsp => ?_) (fun _ _ => ?_) rfl hb ?_
  · rw [List.append_nil, s1, hres]
    exact trodAll_cons_mk (shut_bool Tryd.underlying4 _) trodAll_mk0
  · rw [List.append_nil, s2]
    exact trodAll_stays hb sp hread hA (fun x hx => hlt x (by simp [hx])) (fun x hx => hsp x (by simp [hx]))
  · rw [List.append_nil, s3, hv]
    exact rfl
  · exact ok_one hres rfl (okWide_bool_mk Tryd.underlying4 _)

section
variable {H : Type} {enc : TypeId × Value → H} {W : World}
set_option maxRecDepth 100000 in
theorem slice_in {t e : TypeId} {b0 : Nat} {v : Value} {d : DataW H} {p : List MemPlace} (ht : Tryd.prog.underlying t = some (.slice e)) (hv : Value.okWide Tryd.prog W .any b0 t v) (h : DataW.Trod enc Tryd.prog W 0 (fun _ => true) true t v d p) :
    ∃ fuel, DataW.trod enc Tryd.prog W 0 (fun _ => true) true fuel t [v] = some (d, p) := by
  obtain ⟨a, len, cap, rfl⟩ := okWide_slice ht hv
  obtain ⟨fuel, h⟩ := h
  exact ⟨fuel, h⟩
set_option maxRecDepth 100000 in
theorem nodes_in {b0 : Nat} {v : Value} {d : DataW H} {p : List MemPlace} (hv : Value.okWide Tryd.prog W .any b0 22 v) (h : DataW.Trod enc Tryd.prog W 0 (fun _ => true) true 22 v d p) (hb : Rows.uptoBulk d ≤ 1048576) :
    ∃ (l : List Node) (b o : Nat), l.length ≤ 1048576 ∧ SliceOf v l.length b o ∧ NodesAt (fun a => W.cell? a) l b o := by
  obtain ⟨fuel, h⟩ := slice_in Tryd.underlying22 hv h
  exact nodes_arg fuel v _ h hb
set_option maxRecDepth 100000 in
theorem ints_in {b0 : Nat} {v : Value} {d : DataW H} {p : List MemPlace} (hv : Value.okWide Tryd.prog W .any b0 39 v) (h : DataW.Trod enc Tryd.prog W 0 (fun _ => true) true 39 v d p) (hb : Rows.uptoBulk d ≤ 1048576) :
    ∃ (l : List Int), IntsM (fun a => W.cell? a) v l ∧ l.length ≤ 1048576 := by
  obtain ⟨fuel, h⟩ := slice_in Tryd.underlying39 hv h
  exact ints_arg h hb
set_option maxRecDepth 100000 in
theorem int_in {b0 : Nat} {v : Value} (hv : Value.okWide Tryd.prog W .any b0 3 v) : ∃ n : Int, v = .int .i64 n := okWide_int Tryd.underlying3 hv
set_option maxRecDepth 100000 in
theorem one27 : ∃ fs, Tryd.prog.underlying 27 = some (.struct fs) ∧ Tryd.prog.cellsOf 27 = 3 ∧ (fs.map (·.type)).toList = [23, 24, 25] ∧ (fs.map (·.offset)).toList = [0, 1, 2] ∧ Tryd.prog.cellsOf 23 = 1 ∧ Tryd.prog.cellsOf 24 = 1 ∧ Tryd.prog.cellsOf 25 = 1 :=
  ⟨_, Tryd.underlying27, by kernel_rfl, by simp, by simp, by kernel_rfl, by kernel_rfl, by kernel_rfl⟩
set_option maxRecDepth 100000 in
theorem data_in {b0 : Nat} {v : Value} {d : DataW H} {p : List MemPlace} (hv : Value.okWide Tryd.prog W .any b0 27 v) (h : DataW.Trod enc Tryd.prog W 0 (fun _ => true) true 27 v d p) (hb : Rows.uptoBulk d ≤ 1048576) :
    ∃ (dF dL dS : Value) (dat : Dat), v = .agg #[dF, dL, dS] ∧ DatAt (fun a => W.cell? a) dat dF dL dS ∧ dat.fields.length ≤ 1048576 ∧ dat.lists.length ≤ 1048576 ∧ dat.snips.length ≤ 1048576 := by
  obtain ⟨fs, hu, hC, hty, hof, h23, h24, h25⟩ := one27
  obtain ⟨cs, rfl, hsz⟩ := okWide_struct hu hv
  obtain ⟨cl⟩ := cs
  match cl, hsz.trans hC with
  | [c0, c1, c2], _ =>
    obtain ⟨fuel, hf⟩ := h
    obtain ⟨xs, n, _, hx, _, hlen, hg⟩ := DataW.trod_struct hu hf
    have hx1 : d = .agg (xs.map (·.1)) := by injection hx
    subst hx1
    simp only [Rows.uptoBulk] at hb
    have hsz3 : fs.size = 3 := by have := congrArg List.length hty; simpa using this
    have key : ∀ j t, (fs.map (·.type)).toList[j]? = some t → (fs.map (·.offset)).toList[j]? = some j → ∃ y : DataW H × List MemPlace, Rows.uptoBulk y.1 ≤ 1048576 ∧ DataW.trod enc Tryd.prog W 0 (fun _ => true) true n t (([c0, c1, c2].drop j).take (Tryd.prog.cellsOf t)) = some y := fun j t ht ho => by
      rw [Array.getElem?_toList, Array.getElem?_map, Option.map_eq_some_iff] at ht ho
      obtain ⟨f, hj, rfl⟩ := ht
      obtain ⟨f', hj', ho⟩ := ho
      obtain rfl := Option.some.inj (hj.symm.trans hj')
      have h1 := hg j f hj
      rw [ho] at h1
      have hjl : j < xs.length := by rw [hlen]; exact (Array.getElem?_eq_some_iff.1 hj).1
      rw [List.getElem?_eq_getElem hjl] at h1
      refine ⟨xs[j], ?_, h1⟩
      have := bulk_mem (xs.map (·.1)) j xs[j].1 (by rw [List.getElem?_map, List.getElem?_eq_getElem hjl]; rfl)
      omega
    rw [hty, hof] at key
    obtain ⟨y0, b0, t0⟩ := key 0 23 rfl rfl
    obtain ⟨y1, b1, t1⟩ := key 1 24 rfl rfl
    obtain ⟨y2, b2, t2⟩ := key 2 25 rfl rfl
    rw [h23] at t0
    rw [h24] at t1
    rw [h25] at t2
    obtain ⟨fl, f1, f2⟩ := fields_arg t0 b0
    obtain ⟨ll, l1, l2⟩ := lists_arg t1 b1
    obtain ⟨sl, s1, s2⟩ := snips_arg t2 b2
    exact ⟨c0, c1, c2, { fields := fl, lists := ll, snips := sl }, rfl, ⟨f2, l2, s2⟩, f1, l1, s1⟩
end
end Go.Proofs.YtlkaikopjjmneaaDoor

/-
  WHAT IS PROVED HERE: a law returns true and leaves its arguments as they were, for all arguments (1 texts joined). Conditions: those of the card.
-/
import Derived.Test.YtdkkhmjlamkgdaaGreatDoorBq6
/-
  WHAT IS PROVED HERE: StateSameMatchesReference returns true and leaves its arguments as they were, for all arguments. Conditions: those of the card (the listed tables of Go's library lie as their text lays them).
-/
namespace Go.Proofs.YtdkkhmjlamkgdaaGreatDoor.fnSSam
open Go.ChangeShapes Go.WideShapes Go.ChangeAt Go.RowKit Go.ChangeMaps Mg

set_option maxRecDepth 100000 in
open Go.Deep in
theorem int_in {H : Type} {enc : TypeId × Value → H} {W : World} {b0 : Nat} {v : Value} {d : DataW H} {p : List MemPlace} (hv : Value.okWide Tryz.prog W .any b0 3 v) (h : DataW.Trod enc Tryz.prog W 0 (fun _ => true) true 3 v d p) : ∃ a : Int, v = .int .i64 a ∧ okI a := by
  obtain ⟨n, rfl⟩ := okWide_int Tryz.underlying3 hv
  obtain ⟨fuel, h⟩ := h
  obtain ⟨m, e, hm⟩ := int_arg (v := .int .i64 n) h
  exact ⟨m, e, hm⟩
set_option maxRecDepth 100000 in
theorem contract (H : Type) (enc : TypeId × Value → H) (W : World) (base : Nat) (args : Array Value) (ds gs : List (DataW H)) (before : List MemPlace)
    (hval : ∀ (j : Nat) t v, Tryz.f11.params[j]? = some t → args[j]? = some v → Value.okWide Tryz.prog W .any base t v)
    (hW : DataW.Whole enc Tryz.prog Tryz.f11.params.toList Rows.stateSameMatchesReferenceSpec.vars false W args.toList ds gs before)
    (hsz : (DataW.weightsEach Tryz.prog (Tryz.f11.params.toList ++ (OpenSpec.ofChange Rows.stateSameMatchesReferenceSpec).bare.plain.varTypes Tryz.prog) (ds ++ gs)).all (· ≤ reachBytes) = true) :
    Calls Tryz.prog 11 args W fun e W' => ∃ v, e = .returned v ∧ Rows.stateSameMatchesReferenceSpec.post enc Tryz.prog Tryz.f11 false true false false W args v W' := by
  have hread : ∀ t ∈ Tryz.f11.params.toList, Tryz.prog.readableRec t = true ∧ t < Tryz.prog.types.size := by
    have hall : (Tryz.f11.params.toList.all fun t => Tryz.prog.readableRec t && decide (t < Tryz.prog.types.size)) = true := by kernel_rfl
    intro t ht
    have := List.all_eq_true.1 hall t ht
    simpa using this
  have hclose : ∀ W', Below W.heap.size W W' → (Rows.stateSameMatchesReferenceSpec.fn H ds).results = [.lit (.bool true)] ∧ (Rows.stateSameMatchesReferenceSpec.fn H ds).args = ds ∧ (Rows.stateSameMatchesReferenceSpec.fn H ds).vars = [] → Rows.stateSameMatchesReferenceSpec.post enc Tryz.prog Tryz.f11 false true false false W args (.bool true) W' :=
    fun W' hg hs => close_law hW rfl (by kernel_rfl) hs hread hg
  obtain ⟨p, q, hA0, hV, rfl, hfz, hnd⟩ := hW
  have hA : DataW.TrodAll enc Tryz.prog W 0 (fun _ => true) true Tryz.f11.params.toList args.toList ds p := hA0
  obtain ⟨rfl, rfl⟩ := trodVars_none hV
  rw [Tryz.params11] at hA hval hsz
  clear hA0 hread hfz hnd hV
  obtain ⟨v0, vs0, d0, ds0, p0, q0, hargs, rfl, rfl, h0, r0⟩ := trodAll_cons hA
  obtain ⟨v1, vs1, d1, ds1, p1, q1, rfl, rfl, rfl, h1, r1⟩ := trodAll_cons r0
  obtain ⟨v2, vs2, d2, ds2, p2, q2, rfl, rfl, rfl, h2, r2⟩ := trodAll_cons r1
  obtain ⟨rfl, rfl, rfl⟩ := trodAll_nil r2
  obtain rfl : args = #[v0, v1, v2] := by cases args; simp_all
  obtain ⟨l0, b0, s0⟩ := facts_inG (hval 0 22 v0 rfl rfl) h0 (sizedG_each hsz (j := 0) (t := 22) rfl rfl)
  obtain ⟨l1, b1, s1⟩ := facts_inG (hval 1 22 v1 rfl rfl) h1 (sizedG_each hsz (j := 1) (t := 22) rfl rfl)
  obtain ⟨x2, rfl, k2⟩ := int_in (hval 2 3 v2 rfl rfl) h2
  refine (samematch_any b0 b1 (fun x hx => (s0 x hx).1) x2 k2 W (Sees.self W)).mono fun e W' ⟨he, hg⟩ => ?_
  exact ⟨_, he, hclose W' hg ⟨rfl, rfl, rfl⟩⟩

theorem laid_met (os : Os) : laidMet Tryz.prog Rows.stateSameMatchesReferenceRow.laid ((laidWorld os).forCall (fun _ _ => 0) ⟨#[], #[.slice none 0 0, .slice none 0 0, .int .i64 0], []⟩).memory :=
  laidMet_of_run' 8 (by kernel_rfl) (by kernel_rfl)
theorem reads (os : Os) {H : Type} (enc : TypeId × Value → H) : ∃ places, DataW.whole enc Tryz.prog ((laidWorld os).forCall (fun _ _ => 0) ⟨#[], #[.slice none 0 0, .slice none 0 0, .int .i64 0], []⟩).memory Tryz.f11.params.toList Rows.stateSameMatchesReferenceSpec.vars false (#[Value.slice none 0 0, .slice none 0 0, .int .i64 0] : Array Value).toList 8 = some ([.nil, .nil, .lit (.int .i64 0)], [], places) :=
  ⟨[], by kernel_rfl⟩

set_option maxRecDepth 100000 in
theorem lifted (os : Os) (started : os.Started) (H : Type) (enc : TypeId × Value → H) (F : Stop.Interp) :
    ReturnsInHanded {} Tryz.checked os 11 .any ((OpenSpec.ofChange Rows.stateSameMatchesReferenceSpec).preRow enc Tryz.prog Tryz.f11 Rows.stateSameMatchesReferenceRow.domain false Rows.stateSameMatchesReferenceRow.laid) (((OpenSpec.ofChange Rows.stateSameMatchesReferenceSpec).at F).post enc Tryz.prog Tryz.f11 false true false false) := by
  obtain ⟨places, hx⟩ := reads os enc
  refine returnsInHanded_of_row (C := Tryz.checked) (s := OpenSpec.ofChange Rows.stateSameMatchesReferenceSpec) own started (by kernel_rfl) Tryz.func11
    (witness_row_at (enc := enc) (C := Tryz.checked) false (laidWorld os) #[.slice none 0 0, .slice none 0 0, .int .i64 0] rfl (by kernel_rfl) (by kernel_rfl) (by kernel_rfl)
      (OpenSpec.preRow_of_cond 8 hx (by kernel_rfl) (fun k hk => by cases hk) (by kernel_rfl) (laid_met os))) ?_
  intro W base args ds gs before hval hW _ _ hsz _ _ _
  exact contract H enc W base args ds gs before hval hW hsz

theorem j1 : (Rows.stateSameMatchesReferenceRow.inPlace == Tryz.prog.inPlace 11) = true := by kernel_rfl
theorem j2 : (Rows.stateSameMatchesReferenceRow.unfollowed == Tryz.prog.unfollowed 11) = true := by kernel_rfl
theorem j3 : (Rows.stateSameMatchesReferenceRow.recurses == Tryz.prog.recurses 11) = true := by kernel_rfl
theorem j4 : (Rows.stateSameMatchesReferenceRow.named == Tryz.prog.varsNamed 11) = true := by kernel_rfl
theorem j5 : joinedRest Tryz.prog Tryz.f11 (OpenSpec.ofChange Rows.stateSameMatchesReferenceSpec).bare Rows.stateSameMatchesReferenceRow = true := by kernel_rfl
theorem j6 : false = Rows.stateSameMatchesReferenceRow.goesBy Tryz.prog := by kernel_rfl
theorem j7 : Rows.stateSameMatchesReferenceRow.wfByText (OpenSpec.ofChange Rows.stateSameMatchesReferenceSpec) = true := by kernel_rfl
theorem closed : joinedFacts Tryz.prog 11 Tryz.f11 (OpenSpec.ofChange Rows.stateSameMatchesReferenceSpec).bare Rows.stateSameMatchesReferenceRow = true := joined_of j1 j2 j3 j4 pr_heard pr_enter pr_lifts pr_make j5
theorem named : Tryz.prog.funcNamed Rows.stateSameMatchesReferenceRow.func = some 11 := by kernel_rfl

theorem said : Rows.StateSameMatchesReferenceSaid :=
  OpenClaim.holds_of_cond 11 Tryz.f11 rfl rfl rfl rfl rfl rfl rfl ⟨rfl, rfl, rfl, rfl, rfl⟩ rfl rfl rfl rfl rfl named Tryz.func11 closed
    (of_decide_eq_true (by kernel_rfl)) (by unfold Func.isWrapper; first | (rw [if_pos (by decide +kernel)]; kernel_rfl) | (rw [if_neg (by decide +kernel)]; exact ⟨rfl, rfl⟩))
    (fun os started H enc _ F => by rw [OpenClaim.pre_eq_preRow]; exact lifted os started H enc F)

/-- No parameter wants a stand-in; the program's own looks are off: what both cards ask. -/
theorem plain (f : FuncId) (fn : Func) (hf : Tryz.pinned.checked.prog.funcNamed "copydesk/copydesklaw07.StateSameMatchesReference" = some f) (hfn : Tryz.pinned.checked.prog.funcs[f]? = some fn) :
    false = Tryz.pinned.checked.prog.looks [] ∧ ∀ (j : Nat) t, fn.params[j]? = some t → Tryz.pinned.checked.prog.wantsStandIn t = false := by
  obtain rfl : f = 11 := Option.some.inj ((show Tryz.prog.funcNamed "copydesk/copydesklaw07.StateSameMatchesReference" = some 11 by kernel_rfl).symm.trans hf) |>.symm
  obtain rfl : fn = Tryz.f11 := (Option.some.inj (Tryz.func11.symm.trans hfn)).symm
  refine ⟨by kernel_rfl, fun j t ht => ?_⟩
  have hall : Tryz.f11.params.all (fun t => !Tryz.prog.wantsStandIn t) = true := by kernel_rfl
  have := Array.all_eq_true'.1 hall t (Array.mem_of_getElem? ht)
  exact (by simpa using this : Tryz.prog.wantsStandIn t = false)

/-- ████ THE CARD ████ -/
theorem card : Rows.StateSameMatchesReferenceCardSaid :=
  Claim7.holds_tied_plain_at .later [] _ _ _ _ said (fun _ h => by cases h) j7 (fun _ h => by cases h) stateSameMatchesReference_row_tie rfl ⟨rfl, rfl⟩ (by kernel_rfl) rfl plain j6
end Go.Proofs.YtdkkhmjlamkgdaaGreatDoor.fnSSam

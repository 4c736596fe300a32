/-
  WHAT IS PROVED HERE: a law returns true and leaves its arguments as they were, for all arguments (2 texts joined). Conditions: those of the card.
-/
import Derived.Test.YtdkkhmjlamkgdaaGreatDoorBn6
/-
  WHAT IS PROVED HERE: the walk of StateSorted. Condition: the facts lie in memory that is only read.
-/
namespace Go.Proofs.YtdkkhmjlamkgdaaGreatDoor
open Go.RowKit Mg Go.Shelf Go.Maps

theorem lt_parts {a b : ByteArray} (h : ltB a b) : Op.bytesLess b.toList a.toList = false ∧ (b.toList == a.toList) = false := by
  refine ⟨?_, ?_⟩
  · cases hq : Op.bytesLess b.toList a.toList
    · rfl
    · exact absurd hq (ltB_asym h)
  · rw [beq_eq_false_iff_ne]
    intro e
    unfold ltB at h
    rw [e] at h
    exact ltB_irr a h
set_option maxRecDepth 100000 in
set_option maxHeartbeats 4000000 in
theorem stateSorted_any {mem : Addr → Option Value} {v : Value} {es : List FctE} (h : EsM mem v es) (w : World) (hs : Sees mem w) :
    Calls Tryz.prog 9 #[v] w fun e w' => e = .returned (.bool true) ∧ Below w.heap.size w w' := by
  have c0 := Lib.hid (sane_any w)
  have HS := Lib.hid hs
  have HE := Lib.hid h
  obtain ⟨va, vc, vb, vo, rfl, _⟩ := h.open_
  clear h hs
  go_enter Tryz.func9, Tryz.ntmps9
  go_wp2_with fail
  refine c0.out.mono ?_
  rintro e w0 ⟨rfl, hb0⟩
  have HB0 := Lib.hid hb0
  have cS := Lib.hid (short_law HE.out w0 (HS.out.bel hb0))
  clear hb0 c0
  go_wp2_with fail
  refine cS.out.mono ?_
  rintro e w1 ⟨ra, rc, fs, rfl, hsh⟩
  have cF := Lib.hid hsh.fold
  have HB1 : Hid (Below w.heap.size w w1) := Lib.hid (HB0.out.trans (hsh.bel.mono HB0.out.size))
  clear hsh cS
  go_wp2_with fail
  refine cF.out.mono ?_
  rintro e w2 ⟨a, c, b, d, s, rfl, hF⟩
  have HF := Lib.hid hF
  have HB2 : Hid (Below w.heap.size w w2) := Lib.hid (HB1.out.trans (hF.bel.mono HB1.out.size))
  obtain ⟨hst, htp⟩ := hF.stys
  obtain ⟨sa, sc, sb, so, hsv, hcap, hm, hsa, hat⟩ := SlM.open_ hst
  injection hsv with e1 e2 e3
  subst e1 e3
  clear e2
  obtain ⟨ta, tc, tb, to_, htv, hcap2, hm2, hta, hat2⟩ := SlM.open_ htp
  injection htv with e1 e2 e3
  subst e1 e3
  clear e2
  have HSA := Lib.hid hsa
  have HAT := Lib.hid hat
  have HTA := Lib.hid hta
  have HAT2 := Lib.hid hat2
  have hll : s.stories.length ≤ 9223372036854775807 := by unfold maxLen at hm; omega
  have hlt2 : s.tpls.length ≤ 9223372036854775807 := by unfold maxLen at hm2; omega
  clear hF hst htp hsa hat hta hat2 cF
  go_upto_region 3 with ((with_reducible refine at_sstore 27 _ _ rfl ?_); go_must (refine wpList_snew rfl S_state _ _ rfl rfl _ _ #[.slice a s.stories.length c, .slice b s.tpls.length d] (by simp [Act.eval]) (by simp [Act.eval]) rfl rfl (by simp [Value.oneCell']) ?_))
  obtain ⟨W3, hW3⟩ : ∃ W3, W3 = w2.alloc (.cells #[.slice a s.stories.length c, .slice b s.tpls.length d] 27) := ⟨_, rfl⟩
  rw [← hW3]
  have hb3 : Below w2.heap.size w2 W3 := by rw [hW3]; exact bel1 _ _
  have HN3 : Hid (W3.heap[w2.heap.size]? = some (.cells #[.slice a s.stories.length c, .slice b s.tpls.length d] 27 (0, 0))) := Lib.hid (by rw [hW3]; exact World.alloc_heap_new _ _)
  have HSM : Hid (Sees (memFr w2 (fun k => k < w1.heap.size + 1)) W3) := Lib.hid ((memFr_sees w2 _).bel hb3)
  have HB3 : Hid (Below w.heap.size w W3) := Lib.hid (HB2.out.trans (hb3.mono HB2.out.size))
  clear hW3 hb3
  go_wp2_with fail
  go_loopw [5] (fun i wr => ∃ k : Nat, k ≤ s.stories.length ∧ i = .int .i64 k ∧ Hid (Below W3.heap.size W3 wr)) (fun i _ => s.stories.length - (intOf i).toNat)
  case atStart => exact ⟨0, Nat.zero_le _, rfl, Lib.hid (Below.refl _ _)⟩
  case round =>
    obtain ⟨k, hk, rfl, HB⟩ := hrel
    have k0 : wr.cell? ⟨w2.heap.size, 0, none⟩ = some (.slice a s.stories.length c) := rowcell ((HB.out.block _ (hlt HN3.out)).trans HN3.out)
    by_cases hlt : k < s.stories.length
    · obtain rfl := HSA.out (by omega)
      have hxat := HAT.out k hlt
      have hxm := List.getElem_mem hlt
      have hprev : ∀ q (hq : q + 1 = k), (s.stories[q]'(by omega)).id < s.stories[k].id := fun q hq => by subst hq; exact HF.out.is.ids_lt q hlt
      have HPR : Hid (∀ q, q + 1 = k → ∃ z : Int, z < s.stories[k].id ∧ wr.cell? ⟨sb, so + q * 8, none⟩ = some (.int .i64 z)) := Lib.hid (fun q hq => by
        obtain ⟨_, _, _, _, hc, _⟩ := HAT.out q (by omega)
        exact ⟨_, hprev q hq, cells_see (sz := 8) (HSM.out.bel HB.out) hc rfl 0 (by omega)⟩)
      clear hprev
      generalize s.stories[k] = x at *
      obtain ⟨_, tv, ev, cv, hcells, hP⟩ := hxat
      have HCL := Lib.hid (cells_see (sz := 8) (HSM.out.bel HB.out) hcells rfl)
      have c0 : wr.cell? ⟨sb, so + k * 8, none⟩ = some (.int .i64 x.id) := HCL.out 0 (by omega)
      have HPW : Hid (∀ q (hq : q + 1 < x.eds.length), ltB (x.eds[q]'(by omega)).lang x.eds[q + 1].lang) := Lib.hid (fun q hq => HF.out.is.eds_lt hxm q hq)
      obtain ⟨ea, ec, eb, eo, rfl, hcap3, hm3, hea, heat⟩ := SlM.open_ hP.2.1
      have c3 : wr.cell? ⟨sb, so + k * 8 + 3, none⟩ = some (.slice ea x.eds.length ec) := HCL.out 3 (by omega)
      have HEA := Lib.hid hea
      have HEAT := Lib.hid heat
      clear hcells hP hea heat hxm HCL
      have hcase : k = 0 ∨ ∃ (q : Nat) (z : Int), k = q + 1 ∧ ¬ (x.id ≤ z) ∧ wr.cell? ⟨sb, so + q * 8, none⟩ = some (.int .i64 z) := by
        cases k with
        | zero => exact .inl rfl
        | succ q =>
          obtain ⟨z, h1, h2⟩ := HPR.out q rfl
          exact .inr ⟨q, z, rfl, by omega, h2⟩
      clear HPR
      have hnl : x.eds.length ≤ 9223372036854775807 := by unfold maxLen at hm3; omega
      obtain ⟨wo, hwo⟩ : ∃ wo, wo = wr := ⟨_, rfl⟩
      rcases hcase with rfl | ⟨q, z, rfl, hz, hcz⟩
      all_goals
        go_upto_region 6 with fail
        go_quiet (fail)
        go_wp2_with fail
        go_loopw [7] (fun i wz => ∃ m : Nat, 1 ≤ m ∧ (m ≤ x.eds.length ∨ m = 1) ∧ i = .int .i64 m ∧ Hid (Below wo.heap.size wo wz)) (fun i _ => x.eds.length - (intOf i).toNat)
        case atStart => exact ⟨1, Nat.le_refl _, .inr rfl, rfl, Lib.hid (by rw [hwo]; exact below_drewN (Below.refl _ _) _)⟩
        case round =>
          obtain ⟨m, hm1, hml, rfl, HBI⟩ := hrel
          by_cases hlm : m < x.eds.length
          · obtain rfl := HEA.out (by omega)
            obtain ⟨n, rfl⟩ : ∃ n, m = n + 1 := ⟨m - 1, by omega⟩
            have hlt3 : n < x.eds.length := by omega
            have HSI : Hid (Sees (memFr w2 (fun k => k < w1.heap.size + 1)) wr) := Lib.hid (HSM.out.bel (by
              have h0 := HB.out
              rw [← hwo] at h0
              exact h0.trans (HBI.out.mono h0.size)))
            obtain ⟨_, _, g1, _⟩ := HEAT.out n hlt3
            obtain ⟨_, _, g2, _⟩ := HEAT.out (n + 1) hlm
            have d1 : wr.cell? ⟨eb, eo + n * 5, none⟩ = some (.string (x.eds[n]'hlt3).lang) := cells_see (sz := 5) HSI.out g1 rfl 0 (by omega)
            have d2 : wr.cell? ⟨eb, eo + (n + 1) * 5, none⟩ = some (.string x.eds[n + 1].lang) := cells_see (sz := 5) HSI.out g2 rfl 0 (by omega)
            obtain ⟨l1, l2⟩ := lt_parts (HPW.out n hlm)
            clear g1 g2
            generalize x.eds[n].lang = s1 at *
            generalize x.eds[n + 1].lang = s2 at *
            go_upto_region 12 with fail
            go_quiet (fail)
            go_wp2_with fail
            go_roundw
            case rel => exact ⟨n + 2, by omega, by omega, by go_num, Lib.hid (below_drewN HBI.out _)⟩
            case measure => (try simp only [intOf]); omega
          · have hlm2 : ¬ ((m : Int) < (x.eds.length : Int)) := by omega
            have HBO : Hid (Below W3.heap.size W3 wr) := Lib.hid (by
              have h0 := HB.out
              rw [← hwo] at h0
              exact h0.trans (HBI.out.mono h0.size))
            go_wp2_with fail
            go_roundw
            case rel => first | exact ⟨0 + 1, by omega, by go_num, HBO⟩ | exact ⟨q + 1 + 1, by omega, by go_num, HBO⟩
            case measure => (try simp only [intOf]); omega
    · have e' : k = s.stories.length := by omega
      subst e'
      have hxx : ¬ ((s.stories.length : Int) < (s.stories.length : Int)) := by omega
      go_wp2_with fail
      go_loopw [8] (fun i wz => ∃ m : Nat, 1 ≤ m ∧ (m ≤ s.tpls.length ∨ m = 1) ∧ i = .int .i64 m ∧ Hid (Below wr.heap.size wr wz)) (fun i _ => s.tpls.length - (intOf i).toNat)
      case atStart => exact ⟨1, Nat.le_refl _, .inr rfl, rfl, Lib.hid (Below.refl _ _)⟩
      case round =>
        obtain ⟨m, hm1, hml, rfl, HBI⟩ := hrel
        have HBO : Hid (Below W3.heap.size W3 wr) := Lib.hid (HB.out.trans (HBI.out.mono HB.out.size))
        have k0 : wr.cell? ⟨w2.heap.size, 1, none⟩ = some (.slice b s.tpls.length d) := rowcell ((HBO.out.block _ (Go.Proofs.YtdkkhmjlamkgdaaGreatDoor.hlt HN3.out)).trans HN3.out)
        by_cases hlm : m < s.tpls.length
        · obtain rfl := HTA.out (by omega)
          obtain ⟨n, rfl⟩ : ∃ n, m = n + 1 := ⟨m - 1, by omega⟩
          have hlt3 : n < s.tpls.length := by omega
          have HSI : Hid (Sees (memFr w2 (fun k => k < w1.heap.size + 1)) wr) := Lib.hid (HSM.out.bel HBO.out)
          have d1 : wr.cell? ⟨tb, to_ + n * 2, none⟩ = some (.string (s.tpls[n]'hlt3).name) := cells_see (sz := 2) HSI.out (HAT2.out n hlt3).2 rfl 0 (by omega)
          have d2 : wr.cell? ⟨tb, to_ + (n + 1) * 2, none⟩ = some (.string s.tpls[n + 1].name) := cells_see (sz := 2) HSI.out (HAT2.out (n + 1) hlm).2 rfl 0 (by omega)
          obtain ⟨l1, l2⟩ := lt_parts (HF.out.is.names_lt n hlm)
          generalize s.tpls[n].name = s1 at *
          generalize s.tpls[n + 1].name = s2 at *
          go_upto_region 17 with fail
          go_quiet (fail)
          go_wp2_with fail
          go_roundw
          case rel => exact ⟨n + 2, by omega, by omega, by go_num, Lib.hid (below_drewN HBI.out _)⟩
          case measure => (try simp only [intOf]); omega
        · have hlm2 : ¬ ((m : Int) < (s.tpls.length : Int)) := by omega
          have HFN : Hid (Below w.heap.size w wr) := Lib.hid (HB3.out.trans (HBO.out.mono HB3.out.size))
          go_wp2_with fail
          go_ret
          exact ⟨rfl, HFN.out⟩
end Go.Proofs.YtdkkhmjlamkgdaaGreatDoor
/-
  WHAT IS PROVED HERE: StateSorted returns true and leaves its arguments as they were, for all arguments. Conditions: those of the card (the listed tables of Go's library lie as their text lays them).
-/
namespace Go.Proofs.YtdkkhmjlamkgdaaGreatDoor.fnSSor
open Go.ChangeShapes Go.WideShapes Go.ChangeAt Go.RowKit Go.ChangeMaps Mg

set_option maxRecDepth 100000 in
theorem contract (H : Type) (enc : TypeId × Value → H) (W : World) (base : Nat) (args : Array Value) (ds gs : List (DataW H)) (before : List MemPlace)
    (hval : ∀ (j : Nat) t v, Tryz.f9.params[j]? = some t → args[j]? = some v → Value.okWide Tryz.prog W .any base t v)
    (hW : DataW.Whole enc Tryz.prog Tryz.f9.params.toList Rows.stateSortedSpec.vars false W args.toList ds gs before) :
    Calls Tryz.prog 9 args W fun e W' => ∃ v, e = .returned v ∧ Rows.stateSortedSpec.post enc Tryz.prog Tryz.f9 false true false false W args v W' := by
  have hread : ∀ t ∈ Tryz.f9.params.toList, Tryz.prog.readableRec t = true ∧ t < Tryz.prog.types.size := by
    have hall : (Tryz.f9.params.toList.all fun t => Tryz.prog.readableRec t && decide (t < Tryz.prog.types.size)) = true := by kernel_rfl
    intro t ht
    have := List.all_eq_true.1 hall t ht
    simpa using this
  have hclose : ∀ W', Below W.heap.size W W' → (Rows.stateSortedSpec.fn H ds).results = [.lit (.bool true)] ∧ (Rows.stateSortedSpec.fn H ds).args = ds ∧ (Rows.stateSortedSpec.fn H ds).vars = [] → Rows.stateSortedSpec.post enc Tryz.prog Tryz.f9 false true false false W args (.bool true) W' :=
    fun W' hg hs => close_law hW rfl (by kernel_rfl) hs hread hg
  obtain ⟨p, q, hA0, hV, rfl, hfz, hnd⟩ := hW
  have hA : DataW.TrodAll enc Tryz.prog W 0 (fun _ => true) true Tryz.f9.params.toList args.toList ds p := hA0
  obtain ⟨rfl, rfl⟩ := trodVars_none hV
  rw [Tryz.params9] at hA hval
  clear hA0 hread hfz hnd hV
  obtain ⟨v0, vs0, d0, ds0, p0, q0, hargs, rfl, rfl, h0, r0⟩ := trodAll_cons hA
  obtain ⟨rfl, rfl, rfl⟩ := trodAll_nil r0
  obtain rfl : args = #[v0] := by cases args; simp_all
  obtain ⟨l0, b0⟩ := facts_in (hval 0 22 v0 rfl rfl) h0
  refine (stateSorted_any b0 W (Sees.self W)).mono fun e W' ⟨he, hg⟩ => ?_
  exact ⟨_, he, hclose W' hg ⟨rfl, rfl, rfl⟩⟩

theorem laid_met (os : Os) : laidMet Tryz.prog Rows.stateSortedRow.laid ((laidWorld os).forCall (fun _ _ => 0) ⟨#[], #[.slice none 0 0], []⟩).memory :=
  laidMet_of_run' 8 (by kernel_rfl) (by kernel_rfl)
theorem reads (os : Os) {H : Type} (enc : TypeId × Value → H) : ∃ places, DataW.whole enc Tryz.prog ((laidWorld os).forCall (fun _ _ => 0) ⟨#[], #[.slice none 0 0], []⟩).memory Tryz.f9.params.toList Rows.stateSortedSpec.vars false (#[Value.slice none 0 0] : Array Value).toList 8 = some ([.nil], [], places) :=
  ⟨[], by kernel_rfl⟩

set_option maxRecDepth 100000 in
theorem lifted (os : Os) (started : os.Started) (H : Type) (enc : TypeId × Value → H) (F : Stop.Interp) :
    ReturnsInHanded {} Tryz.checked os 9 .any ((OpenSpec.ofChange Rows.stateSortedSpec).preRow enc Tryz.prog Tryz.f9 Rows.stateSortedRow.domain false Rows.stateSortedRow.laid) (((OpenSpec.ofChange Rows.stateSortedSpec).at F).post enc Tryz.prog Tryz.f9 false true false false) := by
  obtain ⟨places, hx⟩ := reads os enc
  refine returnsInHanded_of_row (C := Tryz.checked) (s := OpenSpec.ofChange Rows.stateSortedSpec) own started (by kernel_rfl) Tryz.func9
    (witness_row_at (enc := enc) (C := Tryz.checked) false (laidWorld os) #[.slice none 0 0] rfl (by kernel_rfl) (by kernel_rfl) (by kernel_rfl)
      (OpenSpec.preRow_of_cond 8 hx (by kernel_rfl) (fun k hk => by cases hk) (by kernel_rfl) (laid_met os))) ?_
  intro W base args ds gs before hval hW _ _ _ _ _ _
  exact contract H enc W base args ds gs before hval hW

theorem j1 : (Rows.stateSortedRow.inPlace == Tryz.prog.inPlace 9) = true := by kernel_rfl
theorem j2 : (Rows.stateSortedRow.unfollowed == Tryz.prog.unfollowed 9) = true := by kernel_rfl
theorem j3 : (Rows.stateSortedRow.recurses == Tryz.prog.recurses 9) = true := by kernel_rfl
theorem j4 : (Rows.stateSortedRow.named == Tryz.prog.varsNamed 9) = true := by kernel_rfl
theorem j5 : joinedRest Tryz.prog Tryz.f9 (OpenSpec.ofChange Rows.stateSortedSpec).bare Rows.stateSortedRow = true := by kernel_rfl
theorem j6 : false = Rows.stateSortedRow.goesBy Tryz.prog := by kernel_rfl
theorem j7 : Rows.stateSortedRow.wfByText (OpenSpec.ofChange Rows.stateSortedSpec) = true := by kernel_rfl
theorem closed : joinedFacts Tryz.prog 9 Tryz.f9 (OpenSpec.ofChange Rows.stateSortedSpec).bare Rows.stateSortedRow = true := joined_of j1 j2 j3 j4 pr_heard pr_enter pr_lifts pr_make j5
theorem named : Tryz.prog.funcNamed Rows.stateSortedRow.func = some 9 := by kernel_rfl

theorem said : Rows.StateSortedSaid :=
  OpenClaim.holds_of_cond 9 Tryz.f9 rfl rfl rfl rfl rfl rfl rfl ⟨rfl, rfl, rfl, rfl, rfl⟩ rfl rfl rfl rfl rfl named Tryz.func9 closed
    (of_decide_eq_true (by kernel_rfl)) (by unfold Func.isWrapper; first | (rw [if_pos (by decide +kernel)]; kernel_rfl) | (rw [if_neg (by decide +kernel)]; exact ⟨rfl, rfl⟩))
    (fun os started H enc _ F => by rw [OpenClaim.pre_eq_preRow]; exact lifted os started H enc F)

/-- No parameter wants a stand-in; the program's own looks are off: what both cards ask. -/
theorem plain (f : FuncId) (fn : Func) (hf : Tryz.pinned.checked.prog.funcNamed "copydesk/copydesklaw07.StateSorted" = some f) (hfn : Tryz.pinned.checked.prog.funcs[f]? = some fn) :
    false = Tryz.pinned.checked.prog.looks [] ∧ ∀ (j : Nat) t, fn.params[j]? = some t → Tryz.pinned.checked.prog.wantsStandIn t = false := by
  obtain rfl : f = 9 := Option.some.inj ((show Tryz.prog.funcNamed "copydesk/copydesklaw07.StateSorted" = some 9 by kernel_rfl).symm.trans hf) |>.symm
  obtain rfl : fn = Tryz.f9 := (Option.some.inj (Tryz.func9.symm.trans hfn)).symm
  refine ⟨by kernel_rfl, fun j t ht => ?_⟩
  have hall : Tryz.f9.params.all (fun t => !Tryz.prog.wantsStandIn t) = true := by kernel_rfl
  have := Array.all_eq_true'.1 hall t (Array.mem_of_getElem? ht)
  exact (by simpa using this : Tryz.prog.wantsStandIn t = false)

/-- ████ THE CARD ████ -/
theorem card : Rows.StateSortedCardSaid :=
  Claim7.holds_tied_plain_at .later [] _ _ _ _ said (fun _ h => by cases h) j7 (fun _ h => by cases h) stateSorted_row_tie rfl ⟨rfl, rfl⟩ (by kernel_rfl) rfl plain j6
end Go.Proofs.YtdkkhmjlamkgdaaGreatDoor.fnSSor

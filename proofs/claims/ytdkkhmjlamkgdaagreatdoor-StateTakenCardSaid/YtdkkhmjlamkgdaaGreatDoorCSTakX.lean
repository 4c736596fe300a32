/-
  WHAT IS PROVED HERE: a law returns true and leaves its arguments as they were, for all arguments (2 texts joined). Conditions: those of the card.
-/
import Derived.Test.YtdkkhmjlamkgdaaGreatDoorBn6
/-
  WHAT IS PROVED HERE: the walk of StateTaken. Condition: the facts lie in memory that is only read.
-/
namespace Go.Proofs.YtdkkhmjlamkgdaaGreatDoor
open Go.RowKit Mg Go.Shelf Go.Maps

def tkF (id : Int) : Fct := { fct0 with kind := 6, story := id }
theorem built_tk (id : Int) : Tryz.prog.built 50 [(2, .int .i64 6), (3, .int .i64 id)] = some (plainE (tkF id)).cells := by kernel_rfl
theorem tk_fok {id : Int} (h : okI id) : FOK (tkF id) := by
  refine ⟨okI_d rfl, okI_d rfl, okI_d rfl, h, ml_d rfl, okI_d rfl, okI_d rfl, ml_d rfl, ml_d rfl, okI_d rfl, okI_d rfl, okI_d rfl, okI_d rfl, okI_d rfl, okI_d rfl, ml_d rfl, ml_d rfl, okI_d rfl, okI_d rfl, okI_d rfl, ?_⟩
  intro x hx
  cases hx
theorem tk_good (id : Int) : FGood (tkF id) := ⟨GB.nil, (by show 0 ≤ 1000; omega), (by show 0 ≤ 1000; omega)⟩
set_option maxRecDepth 100000 in
set_option maxHeartbeats 4000000 in
theorem stateTaken_any {mem : Addr → Option Value} {v : Value} {es : List FctE} (h : EsM mem v es) (id : Int) (hid : okI id) (at_ : Int) (hat_ : okI at_) (w : World) (hs : Sees mem w) :
    Calls Tryz.prog 5 #[v, .int .i64 id, .int .i64 at_] w fun e w' => e = .returned (.bool true) ∧ Below w.heap.size w w' := by
  have c0 := Lib.hid (sane_any w)
  have HS := Lib.hid hs
  have HE := Lib.hid h
  have HID := Lib.hid hid
  have HAT := Lib.hid hat_
  obtain ⟨va, vc, vb, vo, rfl, _⟩ := h.open_
  clear h hs hid hat_
  go_enter Tryz.func5, Tryz.ntmps5
  go_wp2_with fail
  refine c0.out.mono ?_
  rintro e w0 ⟨rfl, hb0⟩
  have HB0 := Lib.hid hb0
  have cS := Lib.hid (short_law HE.out w0 (HS.out.bel hb0))
  clear hb0 c0
  go_wp2_with fail
  refine cS.out.mono ?_
  rintro e w1 ⟨ra, rc, fs, rfl, hsh⟩
  have HSH := Lib.hid hsh
  have hlen := hsh.len
  have HB1 : Hid (Below w.heap.size w w1) := Lib.hid (HB0.out.trans (hsh.bel.mono HB0.out.size))
  have hrc : fs.length ≤ rc ∧ rc ≤ maxLen := by
    obtain ⟨_, _, ⟨_, _, _, e, h1, h2, _⟩, _⟩ := hsh.es
    injection e with _ _ e
    omega
  obtain ⟨p0, p1⟩ := pickF_lt (c := at_) (n := ((fs.length : Nat) : Int) + 1) (by omega)
  have c1 := Lib.hid (fun W => pick_any at_ (((fs.length : Nat) : Int) + 1) HAT.out (by omega) (by omega) W)
  obtain ⟨k, hk⟩ : ∃ k : Nat, pickF at_ (((fs.length : Nat) : Int) + 1) = (k : Int) := ⟨(pickF at_ (((fs.length : Nat) : Int) + 1)).toNat, by omega⟩
  rw [hk] at c1
  have hkn : k ≤ fs.length := by omega
  clear hsh cS hk p0 p1
  go_wp2_with fail
  refine (c1.out _).mono ?_
  rintro e w1' ⟨rfl, rfl⟩
  have hfrom := fun W => run_facts_from ra fs.length rc k hkn W
  have hupto := fun W => run_facts_upto ra fs.length rc k (by omega) W
  obtain ⟨da, hda⟩ : ∃ da, da = restAt ra rc k := ⟨_, rfl⟩
  have HDR : Hid (EsM (fun p => w1.cell? p) (.slice da (fs.drop k).length (rc - k)) (fs.drop k)) := Lib.hid (by rw [hda]; exact HSH.out.es.drop k hkn)
  have HTR : Hid (EsM (fun p => w1.cell? p) (.slice ra (fs.take k).length rc) (fs.take k)) := Lib.hid (by
    rw [List.length_take, Nat.min_eq_left hkn]; exact HSH.out.es.take k hkn)
  rw [← hda] at hfrom
  clear hda
  have hdl : (fs.drop k).length = fs.length - k := List.length_drop
  have htl : (fs.take k).length = k := by rw [List.length_take]; omega
  rw [← hdl] at hfrom
  go_upto_region 5 with (first
    | ((with_reducible refine at_sbuild 50 _ rfl ?_); go_must (refine wpList_buildTo rfl 50 _ rfl _ rfl _ (by simp [Act.eval]; with_reducible exact built_tk id) ?_))
    | ((with_reducible refine at_sslice 22 _ _ rfl ?_); go_must (refine wpList_fct_slice rfl _ rfl (plainE (tkF id)) (by simp [Act.eval, Act.put]) ?_))
    | ((with_reducible refine at_sappend _ _ 22 rfl ?_); go_must (refine wpList_app_facts rfl _ _ rfl w1.heap.size _ [plainE (tkF id)] (by simp [Act.eval] <;> rfl) (frow_one (Nat.le_refl _) (World.alloc_heap_new _ _)) da (rc - k) (fs.drop k) (by simp [Act.eval]) (HDR.out.keep (bel1 _ _)) (by rw [hdl]; show 1 + _ ≤ 100000; omega) (by simp) ?_); intro v3 w3 hr3 hg3 _))
  have hb3 : Below w1.heap.size w1 w3 := (bel1 w1 _).grown hg3 (by simp) (fun j hj => (frow_one (e := plainE (tkF id)) (Nat.le_refl _) (World.alloc_heap_new w1 _)).ge j hj |>.1)
  have HTK : Hid ((plainE (tkF id)).ok (fun _ => none)) := Lib.hid (plain_ok (tk_fok HID.out) rfl rfl rfl)
  obtain ⟨a3, c3, hv3⟩ := hr3.shape
  subst hv3
  have HR3 := Lib.hid hr3
  have HB3 := Lib.hid hb3
  clear hr3 hg3 hb3 hfrom
  have hn3 : ([plainE (tkF id)] ++ fs.drop k).length ≤ 41 := by rw [List.length_append, hdl]; show 1 + _ ≤ 41; omega
  have h3s : w3.heap.size ≤ (w3.alloc (.cells #[] 50)).heap.size := by simp
  have hupto2 : ∀ W, (Instr.slice 22 (.slice ra fs.length rc) none (some (.int .i64 (k : Int))) none).run Tryz.prog W = .ok (.slice ra (fs.take k).length rc) W := fun W => by rw [htl]; exact hupto W
  clear hupto
  generalize hrest : [plainE (tkF id)] ++ fs.drop k = rest at *
  have tk1 : True := trivial
  go_upto_region 6 with (first
    | ((with_reducible refine at_sslice 22 _ _ rfl ?_); go_must (refine wpList_empty_slice rfl E_fct _ rfl rfl ?_))
    | (clear tk1; (with_reducible refine at_sappend _ _ 22 rfl ?_); go_must (refine wpList_app_facts rfl _ _ rfl w3.heap.size _ [] (by simp [Act.eval] <;> rfl) (frow_empty (Nat.le_refl _) (World.alloc_heap_new _ _)) ra rc (fs.take k) (by simp [Act.eval, Nat.min_eq_left hkn]) ((HTR.out.keep HB3.out).keep (bel1 _ _)) (by rw [htl]; show 0 + _ ≤ 100000; omega) (by simp) ?_); go_must (intro v5 w5 hr5 hg5 _; have hb5 : Below w3.heap.size w3 w5 := (bel1 w3 _).grown hg5 h3s (fun j hj => Nat.le_of_eq (Option.some.inj hj)); rw [List.nil_append] at hr5; obtain ⟨a5, c5, hv5⟩ := hr5.shape; subst hv5; have HR5 := Lib.hid hr5; have HB5 := Lib.hid hb5; clear hr5 hg5 hb5))
    | ((with_reducible refine at_sappend _ _ 22 rfl ?_); go_must (refine wpList_app_facts rfl _ _ rfl w3.heap.size _ (fs.take k) (by simp [Act.eval, Nat.min_eq_left hkn]) HR5.out a3 c3 rest (by simp [Act.eval]) ((HR3.out.es (fun x hx => by
        rw [← hrest] at hx
        rcases List.mem_append.1 hx with hx | hx
        · rw [List.mem_singleton.1 hx]; exact HTK.out.mono (fun _ _ e => by cases e)
        · exact mem_keep HB3.out HSH.out.ok x (List.mem_of_mem_drop hx))).keep HB5.out) (by rw [htl]; omega) HB5.out.size ?_); intro v6 w6 hr6 hg6 _; have HB6 : Hid (Below w3.heap.size w3 w6) := Lib.hid (HB5.out.grown hg6 HB5.out.size (fun j hj => (HR5.out.ge j hj).1)); obtain ⟨a6, c6, hv6⟩ := hr6.shape; subst hv6; have HR6 := Lib.hid hr6; clear hr6 hg6))
  have hal : (fs.take k ++ rest).length = k + rest.length := by rw [List.length_append, htl]
  have HES6 : Hid (EsM (fun p => w6.cell? p) (.slice a6 (k + rest.length) c6) (fs.take k ++ rest)) := Lib.hid (by
    rw [← hal]
    refine HR6.out.es (fun x hx => ?_)
    have hb6 : Below w1.heap.size w1 w6 := HB3.out.trans (HB6.out.mono HB3.out.size)
    rcases List.mem_append.1 hx with hx | hx
    · exact mem_keep hb6 HSH.out.ok x (List.mem_of_mem_take hx)
    · rw [← hrest] at hx
      rcases List.mem_append.1 hx with hx | hx
      · rw [List.mem_singleton.1 hx]; exact HTK.out.mono (fun _ _ e => by cases e)
      · exact mem_keep hb6 HSH.out.ok x (List.mem_of_mem_drop hx))
  have HG6 : Hid (∀ x ∈ fs.take k ++ rest, actF x.f = true → FGood x.f) := Lib.hid (fun x hx _ => by
    rcases List.mem_append.1 hx with hx | hx
    · exact HSH.out.good x (List.mem_of_mem_take hx)
    · rw [← hrest] at hx
      rcases List.mem_append.1 hx with hx | hx
      · rw [List.mem_singleton.1 hx]; exact tk_good id
      · exact HSH.out.good x (List.mem_of_mem_drop hx))
  have HML : Hid ((fs.take k ++ rest).map FctE.f = (fs.take k).map FctE.f ++ tkF id :: (fs.drop k).map FctE.f) := Lib.hid (by rw [List.map_append, ← hrest]; rfl)
  have HM0 : Hid (fs.map FctE.f = (fs.take k).map FctE.f ++ (fs.drop k).map FctE.f) := Lib.hid (by rw [← List.map_append, List.take_append_drop])
  have cF := Lib.hid (Fold_law HES6.out (by omega) HG6.out w6 (Sees.self w6) (cells_lt w6))
  have HB6w : Hid (Below w1.heap.size w1 w6) := Lib.hid (HB3.out.trans (HB6.out.mono HB3.out.size))
  clear hrest
  refine cF.out.mono ?_
  rintro e w7 ⟨a, c, b, d, s, rfl, hF⟩
  have HF := Lib.hid hF
  have HB7 : Hid (Below w1.heap.size w1 w7) := Lib.hid (HB6w.out.trans (hF.bel.mono HB6w.out.size))
  obtain ⟨hst, htp⟩ := hF.stys
  obtain ⟨sa, sc, sb, so, hsv, hcap, hm, hsa, hat⟩ := SlM.open_ hst
  injection hsv with e1 e2 e3
  subst e1 e3
  clear e2
  have HSA := Lib.hid hsa
  have HAS := Lib.hid hat
  have hll : s.stories.length ≤ 9223372036854775807 := by unfold maxLen at hm; omega
  clear hF hst htp hsa hat cF
  go_upto_region 6 with ((with_reducible refine at_sstore 27 _ _ rfl ?_); go_must (refine wpList_snew rfl S_state _ _ rfl rfl _ _ #[.slice a s.stories.length c, .slice b s.tpls.length d] (by simp [Act.eval]) (by simp [Act.eval]) rfl rfl (by simp [Value.oneCell']) ?_))
  obtain ⟨W8, hW8⟩ : ∃ W8, W8 = w7.alloc (.cells #[.slice a s.stories.length c, .slice b s.tpls.length d] 27) := ⟨_, rfl⟩
  rw [← hW8]
  have hb8 : Below w7.heap.size w7 W8 := by rw [hW8]; exact bel1 _ _
  have HN8 : Hid (W8.heap[w7.heap.size]? = some (.cells #[.slice a s.stories.length c, .slice b s.tpls.length d] 27 (0, 0))) := Lib.hid (by rw [hW8]; exact World.alloc_heap_new _ _)
  have HS8 : Hid (Sees (memFr w7 (fun k => k < w6.heap.size + 1)) W8) := Lib.hid ((memFr_sees w7 _).bel hb8)
  have HB8 : Hid (Below w1.heap.size w1 W8) := Lib.hid (HB7.out.trans (hb8.mono HB7.out.size))
  clear hW8 hb8
  have cF := Lib.hid (Fold_law (HSH.out.es.keep HB8.out) (by omega) (fun x hx _ => HSH.out.good x hx) W8 (Sees.self W8) (cells_lt W8))
  go_wp2_with fail
  refine cF.out.mono ?_
  rintro e w9 ⟨a9, c9, b9, d9, s0, rfl, hF⟩
  have HF0 := Lib.hid hF
  have HN9 := Lib.hid ((hF.bel.block _ (hlt HN8.out)).trans HN8.out)
  have HS9 := Lib.hid (HS8.out.bel hF.bel)
  have HB9 : Hid (Below w1.heap.size w1 w9) := Lib.hid (HB8.out.trans (hF.bel.mono HB8.out.size))
  have cN := Lib.hid (Find_any hF.st (fun x hx => (hF.good x hx).gsty) id w9 (memFr_sees w9 _))
  clear hF cF
  go_wp2_with fail
  refine cN.out.mono ?_
  rintro e w10 ⟨xt, xe, xc, rfl, _, _, _, hxt, hxe, hxc, hb10⟩
  obtain ⟨xta, xtc, rfl⟩ := lrow_shape hxt
  obtain ⟨xea, xec, rfl⟩ := hxe.shape
  obtain ⟨xca, xcc, hxcv⟩ := hxc.shape
  subst hxcv
  rw [List.length_map] at *
  have HN10 := Lib.hid ((hb10.block _ (hlt HN9.out)).trans HN9.out)
  have HS10 := Lib.hid (HS9.out.bel hb10)
  have HB10 : Hid (Below w1.heap.size w1 w10) := Lib.hid (HB9.out.trans (hb10.mono HB9.out.size))
  clear hb10 cN hxt hxe hxc
  generalize hX0 : styOf s0 id = x0 at *
  go_upto_region 7 with ((with_reducible refine at_sstore 34 _ _ rfl ?_); go_must (refine wpList_snew rfl S_sty _ _ rfl rfl _ _ (styCells x0 (.slice xta x0.topics.length xtc) (.slice xea x0.eds.length xec) (.slice xca x0.corr.length xcc)) (by simp [Act.eval]) (by simp [Act.eval]) rfl rfl (by simp [Value.oneCell']) ?_))
  obtain ⟨W11, hW11⟩ : ∃ W11, W11 = w10.alloc (.cells (styCells x0 (.slice xta x0.topics.length xtc) (.slice xea x0.eds.length xec) (.slice xca x0.corr.length xcc)) 34) := ⟨_, rfl⟩
  rw [← hW11]
  have hb11 : Below w10.heap.size w10 W11 := by rw [hW11]; exact bel1 _ _
  have HX11 : Hid (W11.heap[w10.heap.size]? = some (.cells (styCells x0 (.slice xta x0.topics.length xtc) (.slice xea x0.eds.length xec) (.slice xca x0.corr.length xcc)) 34 (0, 0))) := Lib.hid (by rw [hW11]; exact World.alloc_heap_new _ _)
  have HN11 := Lib.hid ((hb11.block _ (hlt HN10.out)).trans HN10.out)
  have HS11 := Lib.hid (HS10.out.bel hb11)
  have HB11 : Hid (Below w1.heap.size w1 W11) := Lib.hid (HB10.out.trans (hb11.mono HB10.out.size))
  clear hW11 hb11
  have cN := Lib.hid (Find_any HF.out.st (fun x hx => (HF.out.good x hx).gsty) id W11 HS11.out)
  go_wp2_with ((with_reducible refine at_sload 27 _ rfl ?_); go_must (refine wpList_sload rfl S_state _ rfl (by simp [Act.eval]) #[.slice a s.stories.length c, .slice b s.tpls.length d] rfl HN11.out ?_))
  refine cN.out.mono ?_
  rintro e w12 ⟨xt, xe, xc, rfl, _, _, _, hxt, hxe, hxc, hb12⟩
  obtain ⟨yta, ytc, rfl⟩ := lrow_shape hxt
  obtain ⟨yea, yec, rfl⟩ := hxe.shape
  obtain ⟨yca, ycc, hxcv⟩ := hxc.shape
  subst hxcv
  rw [List.length_map] at *
  have HN12 := Lib.hid ((hb12.block _ (hlt HN11.out)).trans HN11.out)
  have HX12 := Lib.hid ((hb12.block _ (hlt HX11.out)).trans HX11.out)
  have HS12 := Lib.hid (HS11.out.bel hb12)
  have HB12 : Hid (Below w1.heap.size w1 w12) := Lib.hid (HB11.out.trans (hb12.mono HB11.out.size))
  clear hb12 cN hxt hxe hxc
  generalize hX1 : styOf s id = x1 at *
  go_upto_region 8 with ((with_reducible refine at_sstore 34 _ _ rfl ?_); go_must (refine wpList_snew rfl S_sty _ _ rfl rfl _ _ (styCells x1 (.slice yta x1.topics.length ytc) (.slice yea x1.eds.length yec) (.slice yca x1.corr.length ycc)) (by simp [Act.eval]) (by simp [Act.eval]) rfl rfl (by simp [Value.oneCell']) ?_))
  obtain ⟨W13, hW13⟩ : ∃ W13, W13 = w12.alloc (.cells (styCells x1 (.slice yta x1.topics.length ytc) (.slice yea x1.eds.length yec) (.slice yca x1.corr.length ycc)) 34) := ⟨_, rfl⟩
  rw [← hW13]
  have hb13 : Below w12.heap.size w12 W13 := by rw [hW13]; exact bel1 _ _
  have HY13 : Hid (W13.heap[w12.heap.size]? = some (.cells (styCells x1 (.slice yta x1.topics.length ytc) (.slice yea x1.eds.length yec) (.slice yca x1.corr.length ycc)) 34 (0, 0))) := Lib.hid (by rw [hW13]; exact World.alloc_heap_new _ _)
  have HN13 := Lib.hid ((hb13.block _ (hlt HN12.out)).trans HN12.out)
  have HX13 := Lib.hid ((hb13.block _ (hlt HX12.out)).trans HX12.out)
  have HS13 := Lib.hid (HS12.out.bel hb13)
  have HB13 : Hid (Below w1.heap.size w1 W13) := Lib.hid (HB12.out.trans (hb13.mono HB12.out.size))
  clear hW13 hb13
  obtain ⟨t1, t2, t3⟩ := taken_key (a := (fs.take k).map FctE.f) (b := (fs.drop k).map FctE.f) (t := tkF id) rfl (by rw [← HM0.out]; exact HF0.out.is) (by rw [← HML.out]; exact HF.out.is)
  rw [show (tkF id).story = id from rfl] at t1 t2 t3
  rw [hX1] at t2 t3
  rw [hX0] at t3
  rw [← t1]
  generalize (findS s id).isSome = B at *
  have HT := Lib.hid (And.intro t2 t3)
  have hbb : (B != B) = false := by cases B <;> rfl
  have hbe : (B == B) = true := by cases B <;> rfl
  clear t1 t2 t3 hX0 hX1
  have HBE := Lib.hid hbe
  clear hbe
  go_wp2_with fail
  clear hbb
  go_loopw [14] (fun i wr => ∃ m : Nat, m ≤ s.stories.length ∧ i = .int .i64 m ∧ Hid (Below W13.heap.size W13 wr)) (fun i _ => s.stories.length - (intOf i).toNat)
  case atStart => exact ⟨0, Nat.zero_le _, rfl, Lib.hid (Below.refl _ _)⟩
  case round =>
    obtain ⟨m, hm, rfl, HB⟩ := hrel
    have k0 : wr.cell? ⟨w7.heap.size, 0, none⟩ = some (.slice a s.stories.length c) := rowcell ((HB.out.block _ (hlt HN13.out)).trans HN13.out)
    by_cases hlm : m < s.stories.length
    · obtain rfl := HSA.out (by omega)
      have hxat := HAS.out m hlm
      have hbare := taken_bare HF.out.is (List.getElem_mem hlm)
      generalize s.stories[m] = y at *
      obtain ⟨_, tv, ev, cv, hcells, hP⟩ := hxat
      have HCL := Lib.hid (cells_see (sz := 8) (HS13.out.bel HB.out) hcells rfl)
      have c7 : wr.cell? ⟨sb, so + m * 8 + 7, none⟩ = some (.bool y.taken) := HCL.out 7 (by omega)
      cases hyt : y.taken with
      | false =>
        rw [hyt] at c7
        clear hcells hP hbare hyt
        go_upto_region 13 with fail
        go_quiet (fail)
        go_wp2_with fail
        go_roundw
        case rel => exact ⟨m + 1, by omega, by go_num, Lib.hid (below_drewN HB.out _)⟩
        case measure => (try simp only [intOf]); omega
      | true =>
        rw [hyt] at c7
        obtain ⟨e1, e2, e3, e4, e5⟩ := hbare hyt
        obtain ⟨u1, u2, u3, u4, u5, u6, rfl, rfl, rfl⟩ := hP.shape
        have c1 : wr.cell? ⟨sb, so + m * 8 + 1, none⟩ = some (.string ⟨#[]⟩) := (HCL.out 1 (by omega)).trans (by show some (Value.string y.author) = _; rw [e1]; rfl)
        have c2 : wr.cell? ⟨sb, so + m * 8 + 2, none⟩ = some (.slice u1 0 u2) := (HCL.out 2 (by omega)).trans (by show some (Value.slice u1 y.topics.length u2) = _; rw [e2]; rfl)
        have c3 : wr.cell? ⟨sb, so + m * 8 + 3, none⟩ = some (.slice u3 0 u4) := (HCL.out 3 (by omega)).trans (by show some (Value.slice u3 y.eds.length u4) = _; rw [e3]; rfl)
        have c5 : wr.cell? ⟨sb, so + m * 8 + 5, none⟩ = some (.slice u5 0 u6) := (HCL.out 5 (by omega)).trans (by show some (Value.slice u5 y.corr.length u6) = _; rw [e4]; rfl)
        have c6 : wr.cell? ⟨sb, so + m * 8 + 6, none⟩ = some (.bool false) := (HCL.out 6 (by omega)).trans (by show some (Value.bool y.retr) = _; rw [e5])
        clear hcells hP hbare hyt e1 e2 e3 e4 e5
        go_upto_region 13 with fail
        go_quiet (fail)
        go_wp2_with fail
        go_roundw
        case rel => exact ⟨m + 1, by omega, by go_num, Lib.hid (below_drewN HB.out _)⟩
        case measure => (try simp only [intOf]); omega
    · have e' : m = s.stories.length := by omega
      subst e'
      have HX14 := Lib.hid ((HB.out.block _ (Go.Proofs.YtdkkhmjlamkgdaaGreatDoor.hlt HX13.out)).trans HX13.out)
      have HY14 := Lib.hid ((HB.out.block _ (Go.Proofs.YtdkkhmjlamkgdaaGreatDoor.hlt HY13.out)).trans HY13.out)
      have hxx : ¬ ((s.stories.length : Int) < (s.stories.length : Int)) := by omega
      have q7 : wr.cell? ⟨w12.heap.size, 7, none⟩ = some (.bool B) := (rowcell HY14.out).trans (by rw [← HT.out.1]; rfl)
      have q4 : wr.cell? ⟨w12.heap.size, 4, none⟩ = some (.int .i64 x0.pub) := (rowcell HY14.out).trans (by rw [← HT.out.2]; rfl)
      have q0 : wr.cell? ⟨w10.heap.size, 4, none⟩ = some (.int .i64 x0.pub) := rowcell HX14.out
      have hbe := HBE.out
      have HFN : Hid (Below w.heap.size w wr) := Lib.hid (HB1.out.trans ((HB13.out.trans (HB.out.mono HB13.out.size)).mono HB1.out.size))
      go_wp2_with fail
      go_ret
      exact ⟨rfl, HFN.out⟩
end Go.Proofs.YtdkkhmjlamkgdaaGreatDoor
/-
  WHAT IS PROVED HERE: StateTaken returns true and leaves its arguments as they were, for all arguments. Conditions: those of the card (the listed tables of Go's library lie as their text lays them).
-/
namespace Go.Proofs.YtdkkhmjlamkgdaaGreatDoor.fnSTak
open Go.ChangeShapes Go.WideShapes Go.ChangeAt Go.RowKit Go.ChangeMaps Mg

set_option maxRecDepth 100000 in
theorem contract (H : Type) (enc : TypeId × Value → H) (W : World) (base : Nat) (args : Array Value) (ds gs : List (DataW H)) (before : List MemPlace)
    (hval : ∀ (j : Nat) t v, Tryz.f5.params[j]? = some t → args[j]? = some v → Value.okWide Tryz.prog W .any base t v)
    (hW : DataW.Whole enc Tryz.prog Tryz.f5.params.toList Rows.stateTakenSpec.vars false W args.toList ds gs before) :
    Calls Tryz.prog 5 args W fun e W' => ∃ v, e = .returned v ∧ Rows.stateTakenSpec.post enc Tryz.prog Tryz.f5 false true false false W args v W' := by
  have hread : ∀ t ∈ Tryz.f5.params.toList, Tryz.prog.readableRec t = true ∧ t < Tryz.prog.types.size := by
    have hall : (Tryz.f5.params.toList.all fun t => Tryz.prog.readableRec t && decide (t < Tryz.prog.types.size)) = true := by kernel_rfl
    intro t ht
    have := List.all_eq_true.1 hall t ht
    simpa using this
  have hclose : ∀ W', Below W.heap.size W W' → (Rows.stateTakenSpec.fn H ds).results = [.lit (.bool true)] ∧ (Rows.stateTakenSpec.fn H ds).args = ds ∧ (Rows.stateTakenSpec.fn H ds).vars = [] → Rows.stateTakenSpec.post enc Tryz.prog Tryz.f5 false true false false W args (.bool true) W' :=
    fun W' hg hs => close_law hW rfl (by kernel_rfl) hs hread hg
  obtain ⟨p, q, hA0, hV, rfl, hfz, hnd⟩ := hW
  have hA : DataW.TrodAll enc Tryz.prog W 0 (fun _ => true) true Tryz.f5.params.toList args.toList ds p := hA0
  obtain ⟨rfl, rfl⟩ := trodVars_none hV
  rw [Tryz.params5] at hA hval
  clear hA0 hread hfz hnd hV
  obtain ⟨v0, vs0, d0, ds0, p0, q0, hargs, rfl, rfl, h0, r0⟩ := trodAll_cons hA
  obtain ⟨v1, vs1, d1, ds1, p1, q1, rfl, rfl, rfl, h1, r1⟩ := trodAll_cons r0
  obtain ⟨v2, vs2, d2, ds2, p2, q2, rfl, rfl, rfl, h2, r2⟩ := trodAll_cons r1
  obtain ⟨rfl, rfl, rfl⟩ := trodAll_nil r2
  obtain rfl : args = #[v0, v1, v2] := by cases args; simp_all
  obtain ⟨l0, b0⟩ := facts_in (hval 0 22 v0 rfl rfl) h0
  obtain ⟨x1, rfl, k1⟩ := int_in (hval 1 3 v1 rfl rfl) h1
  obtain ⟨x2, rfl, k2⟩ := int_in (hval 2 3 v2 rfl rfl) h2
  refine (stateTaken_any b0 x1 k1 x2 k2 W (Sees.self W)).mono fun e W' ⟨he, hg⟩ => ?_
  exact ⟨_, he, hclose W' hg ⟨rfl, rfl, rfl⟩⟩

theorem laid_met (os : Os) : laidMet Tryz.prog Rows.stateTakenRow.laid ((laidWorld os).forCall (fun _ _ => 0) ⟨#[], #[.slice none 0 0, .int .i64 0, .int .i64 0], []⟩).memory :=
  laidMet_of_run' 8 (by kernel_rfl) (by kernel_rfl)
theorem reads (os : Os) {H : Type} (enc : TypeId × Value → H) : ∃ places, DataW.whole enc Tryz.prog ((laidWorld os).forCall (fun _ _ => 0) ⟨#[], #[.slice none 0 0, .int .i64 0, .int .i64 0], []⟩).memory Tryz.f5.params.toList Rows.stateTakenSpec.vars false (#[Value.slice none 0 0, .int .i64 0, .int .i64 0] : Array Value).toList 8 = some ([.nil, .lit (.int .i64 0), .lit (.int .i64 0)], [], places) :=
  ⟨[], by kernel_rfl⟩

set_option maxRecDepth 100000 in
theorem lifted (os : Os) (started : os.Started) (H : Type) (enc : TypeId × Value → H) (F : Stop.Interp) :
    ReturnsInHanded {} Tryz.checked os 5 .any ((OpenSpec.ofChange Rows.stateTakenSpec).preRow enc Tryz.prog Tryz.f5 Rows.stateTakenRow.domain false Rows.stateTakenRow.laid) (((OpenSpec.ofChange Rows.stateTakenSpec).at F).post enc Tryz.prog Tryz.f5 false true false false) := by
  obtain ⟨places, hx⟩ := reads os enc
  refine returnsInHanded_of_row (C := Tryz.checked) (s := OpenSpec.ofChange Rows.stateTakenSpec) own started (by kernel_rfl) Tryz.func5
    (witness_row_at (enc := enc) (C := Tryz.checked) false (laidWorld os) #[.slice none 0 0, .int .i64 0, .int .i64 0] rfl (by kernel_rfl) (by kernel_rfl) (by kernel_rfl)
      (OpenSpec.preRow_of_cond 8 hx (by kernel_rfl) (fun k hk => by cases hk) (by kernel_rfl) (laid_met os))) ?_
  intro W base args ds gs before hval hW _ _ _ _ _ _
  exact contract H enc W base args ds gs before hval hW

theorem j1 : (Rows.stateTakenRow.inPlace == Tryz.prog.inPlace 5) = true := by kernel_rfl
theorem j2 : (Rows.stateTakenRow.unfollowed == Tryz.prog.unfollowed 5) = true := by kernel_rfl
theorem j3 : (Rows.stateTakenRow.recurses == Tryz.prog.recurses 5) = true := by kernel_rfl
theorem j4 : (Rows.stateTakenRow.named == Tryz.prog.varsNamed 5) = true := by kernel_rfl
theorem j5 : joinedRest Tryz.prog Tryz.f5 (OpenSpec.ofChange Rows.stateTakenSpec).bare Rows.stateTakenRow = true := by kernel_rfl
theorem j6 : false = Rows.stateTakenRow.goesBy Tryz.prog := by kernel_rfl
theorem j7 : Rows.stateTakenRow.wfByText (OpenSpec.ofChange Rows.stateTakenSpec) = true := by kernel_rfl
theorem closed : joinedFacts Tryz.prog 5 Tryz.f5 (OpenSpec.ofChange Rows.stateTakenSpec).bare Rows.stateTakenRow = true := joined_of j1 j2 j3 j4 pr_heard pr_enter pr_lifts pr_make j5
theorem named : Tryz.prog.funcNamed Rows.stateTakenRow.func = some 5 := by kernel_rfl

theorem said : Rows.StateTakenSaid :=
  OpenClaim.holds_of_cond 5 Tryz.f5 rfl rfl rfl rfl rfl rfl rfl ⟨rfl, rfl, rfl, rfl, rfl⟩ rfl rfl rfl rfl rfl named Tryz.func5 closed
    (of_decide_eq_true (by kernel_rfl)) (by unfold Func.isWrapper; first | (rw [if_pos (by decide +kernel)]; kernel_rfl) | (rw [if_neg (by decide +kernel)]; exact ⟨rfl, rfl⟩))
    (fun os started H enc _ F => by rw [OpenClaim.pre_eq_preRow]; exact lifted os started H enc F)

/-- No parameter wants a stand-in; the program's own looks are off: what both cards ask. -/
theorem plain (f : FuncId) (fn : Func) (hf : Tryz.pinned.checked.prog.funcNamed "copydesk/copydesklaw07.StateTaken" = some f) (hfn : Tryz.pinned.checked.prog.funcs[f]? = some fn) :
    false = Tryz.pinned.checked.prog.looks [] ∧ ∀ (j : Nat) t, fn.params[j]? = some t → Tryz.pinned.checked.prog.wantsStandIn t = false := by
  obtain rfl : f = 5 := Option.some.inj ((show Tryz.prog.funcNamed "copydesk/copydesklaw07.StateTaken" = some 5 by kernel_rfl).symm.trans hf) |>.symm
  obtain rfl : fn = Tryz.f5 := (Option.some.inj (Tryz.func5.symm.trans hfn)).symm
  refine ⟨by kernel_rfl, fun j t ht => ?_⟩
  have hall : Tryz.f5.params.all (fun t => !Tryz.prog.wantsStandIn t) = true := by kernel_rfl
  have := Array.all_eq_true'.1 hall t (Array.mem_of_getElem? ht)
  exact (by simpa using this : Tryz.prog.wantsStandIn t = false)

/-- ████ THE CARD ████ -/
theorem card : Rows.StateTakenCardSaid :=
  Claim7.holds_tied_plain_at .later [] _ _ _ _ said (fun _ h => by cases h) j7 (fun _ h => by cases h) stateTaken_row_tie rfl ⟨rfl, rfl⟩ (by kernel_rfl) rfl plain j6
end Go.Proofs.YtdkkhmjlamkgdaaGreatDoor.fnSTak

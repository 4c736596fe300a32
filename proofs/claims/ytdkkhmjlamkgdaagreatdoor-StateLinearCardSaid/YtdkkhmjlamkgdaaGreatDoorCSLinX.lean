/-
  WHAT IS PROVED HERE: a law returns true and leaves its arguments as they were, for all arguments (2 texts joined). Conditions: those of the card.
-/
import Derived.Test.YtdkkhmjlamkgdaaGreatDoorBn6
/-
  WHAT IS PROVED HERE: the walk of StateLinear. Condition: the lists of blocks lie in memory that is only read.
-/
namespace Go.Proofs.YtdkkhmjlamkgdaaGreatDoor
open Go.RowKit Mg Go.Shelf Go.Maps

theorem wp_val {P : Program} {o : Oper} {a : Act} {w : World} {K : Act → World → Prop} {Q : Exit → Act → World → Prop} {v : Value} (hr : (execOp a.eval o).run P w = .ok (.value v) w) (h : K (a.put o.dst v) w) : o.wp P a w K Q := by
  unfold Oper.wp
  rw [hr]
  exact h
def linF (i : Nat) (l : List Blk) : Fct := { fct0 with n := (i : Int) + 2, kind := 1, story := 3, lang := sEn, rev := (i : Int) + 1, base := (i : Int), title := wordO (i : Int), blocks := l }
def linE (i : Nat) (l : List Blk) (ao : Option Addr) (cap : Nat) : FctE := ⟨linF i l, none, 0, ao, cap, none, 0⟩
def lpub : Fct := { fct0 with n := 99, kind := 3, story := 3 }
theorem built_lin (i : Nat) (l : List Blk) (ao : Option Addr) (cap : Nat) : Tryz.prog.built 50 [(0, .int .i64 ((i : Int) + 2)), (2, .int .i64 1), (3, .int .i64 3), (4, .string ⟨#[101, 110]⟩), (5, .int .i64 ((i : Int) + 1)), (6, .int .i64 (i : Int)), (7, .string (wordO (i : Int))), (10, .slice ao l.length cap)] = some (linE i l ao cap).cells := by kernel_rfl
theorem built_lpub : Tryz.prog.built 50 [(0, .int .i64 99), (2, .int .i64 3), (3, .int .i64 3)] = some (plainE lpub).cells := by kernel_rfl
theorem lin_fok {mem : Addr → Option Value} {i : Nat} {l : List Blk} {u : Value} (hi : i ≤ 100) (h : BlksM mem u l) : FOK (linF i l) := by
  have hw : (wordO (i : Int)).size ≤ maxLen := by
    have h1 := wordO_len (i : Int)
    have h2 : (wordO (i : Int)).size ≤ 6 := by
      show (wordO (i : Int)).data.size ≤ 6
      rw [← Array.length_toList]; omega
    unfold maxLen; omega
  refine ⟨⟨by show -9223372036854775808 ≤ (i : Int) + 2; omega, by show (i : Int) + 2 ≤ 9223372036854775807; omega⟩, okI_d rfl, okI_d rfl, okI_d rfl, ml_d rfl, ⟨by show -9223372036854775808 ≤ (i : Int) + 1; omega, by show (i : Int) + 1 ≤ 9223372036854775807; omega⟩, ⟨by show -9223372036854775808 ≤ (i : Int); omega, by show (i : Int) ≤ 9223372036854775807; omega⟩, hw, ml_d rfl, okI_d rfl, okI_d rfl, okI_d rfl, okI_d rfl, okI_d rfl, okI_d rfl, ml_d rfl, ml_d rfl, okI_d rfl, okI_d rfl, okI_d rfl, ?_⟩
  exact blks_ok h
theorem lpub_fok : FOK lpub := by
  refine ⟨okI_d rfl, okI_d rfl, okI_d rfl, okI_d rfl, ml_d rfl, okI_d rfl, okI_d rfl, ml_d rfl, ml_d rfl, okI_d rfl, okI_d rfl, okI_d rfl, okI_d rfl, okI_d rfl, okI_d rfl, ml_d rfl, ml_d rfl, okI_d rfl, okI_d rfl, okI_d rfl, ?_⟩
  intro x hx
  cases hx
theorem sees_mem {W W' : World} {F : Nat → Prop} (hb : Below W.heap.size W W') : ∀ a u, memFr W F a = some u → (fun p => W'.cell? p) a = some u := fun a u h => sees_bel hb a u (memFr_sees W F a u h)
def linL (ls : List (List Blk)) (k : Nat) : List Fct := (List.range k).map fun i => linF i (ls[i]?.getD [])
theorem linL_len (ls : List (List Blk)) (k : Nat) : (linL ls k).length = k := by unfold linL; rw [List.length_map, List.length_range]
theorem linL_snoc (ls : List (List Blk)) (k : Nat) : linL ls (k + 1) = linL ls k ++ [linF k (ls[k]?.getD [])] := by unfold linL; rw [List.range_succ, List.map_append]; rfl
theorem linL_get (ls : List (List Blk)) (k i : Nat) (h : i < (linL ls k).length) : (linL ls k)[i] = linF i (ls[i]?.getD []) := by
  simp [linL]
theorem lin_short (ls : List (List Blk)) (k : Nat) (hk : k ≤ 10) : shortL7 (linL ls k ++ [lpub]) = (linL ls k).map shortF ++ [shortF lpub] := by
  unfold shortL7
  rw [List.take_of_length_le (by rw [List.length_append, linL_len]; show k + 1 ≤ 40; omega), List.map_append]
  rfl
theorem lin_lin (ls : List (List Blk)) (k : Nat) : Lin sEn ((linL ls k).map shortF) := by
  have hg : ∀ i (h : i < ((linL ls k).map shortF).length), ((linL ls k).map shortF)[i] = shortF (linF i (ls[i]?.getD [])) := fun i h => by
    rw [List.getElem_map, linL_get]
  refine ⟨fun i h => ?_, fun i h => ?_, fun i h => ?_, fun i h => ?_, fun i h => ?_⟩ <;> rw [hg i h] <;> rfl
/-- what holds while the law's list grows -/
structure LinI (mem : Addr → Option Value) (w0 : World) (ls : List (List Blk)) (k : Nat) (v : Value) (wr : World) : Prop where
  bel : Below w0.heap.size w0 wr
  row : ∃ es, FRow wr w0.heap.size v es ∧ es.map FctE.f = linL ls k ∧ ∀ x ∈ es, x.ok mem
set_option maxRecDepth 100000 in
set_option maxHeartbeats 4000000 in
theorem linear_any {mem : Addr → Option Value} {v : Value} {ls : List (List Blk)} (h : BlkssM mem v ls) (w : World) (hs : Sees mem w) :
    Calls Tryz.prog 10 #[v] w fun e w' => e = .returned (.bool true) ∧ Below w.heap.size w w' := by
  have c0 := Lib.hid (sane_any w)
  have HS := Lib.hid hs
  obtain ⟨la, lc, lb, lo, rfl, hcap, hm, hla, hat⟩ := SlM.open_ h
  have HLA := Lib.hid hla
  have HAT := Lib.hid hat
  have hll : ls.length ≤ 9223372036854775807 := by unfold maxLen at hm; omega
  clear h hs hla hat
  go_enter Tryz.func10, Tryz.ntmps10
  go_wp2_with fail
  refine c0.out.mono ?_
  rintro e w0 ⟨rfl, hb0⟩
  have HB0 := Lib.hid hb0
  have HI0 : Hid (LinI mem w0 ls 0 (.slice none 0 0) w0) := Lib.hid ⟨Below.refl _ _, [], FRow.nil _ _, rfl, by intro x hx; cases hx⟩
  clear hb0 c0
  go_wp2_with fail
  go_loopw [5, 4] (fun i v wr => ∃ k : Nat, k ≤ ls.length ∧ k ≤ 10 ∧ i = .int .i64 k ∧ (∃ a l q, v = .slice a l q) ∧ Hid (LinI mem w0 ls k v wr)) (fun i _ _ => 10 - (intOf i).toNat)
  case atStart => exact ⟨0, Nat.zero_le _, by omega, rfl, ⟨_, _, _, rfl⟩, HI0⟩
  case round =>
    obtain ⟨k, hk, hk10, rfl, ⟨va, vl, vc, rfl⟩, HI⟩ := hrel
    obtain ⟨es, hex, hem, heo⟩ := HI.out.row
    have hesb : es.length = k := by
      have := congrArg List.length hem
      rwa [List.length_map, linL_len] at this
    have hvl : vl = es.length := by
      obtain ⟨_, _, e⟩ := hex.shape
      injection e
    have HEX := Lib.hid hex
    have HEM := Lib.hid hem
    have HEO := Lib.hid heo
    have h0r := HI.out.bel.size
    clear hex hem heo
    rw [hesb] at hvl
    subst hvl
    by_cases hlt : vl < ls.length
    · by_cases hlt2 : vl < 10
      · obtain rfl := HLA.out (by omega)
        obtain ⟨u, hu, hub⟩ := HAT.out vl hlt
        rw [Nat.mul_one] at hu
        have hlk : ls[vl]?.getD [] = ls[vl] := by rw [List.getElem?_eq_getElem hlt]; rfl
        have HSNO := Lib.hid (linL_snoc ls vl)
        rw [hlk] at HSNO
        obtain ⟨ua, uc, rfl⟩ := hub.slice
        have HUB := Lib.hid hub
        have HUM := Lib.hid hu
        clear hub hlk
        generalize ls[vl] = bl at *
        have HLK : Hid (∀ W, Below w0.heap.size w0 W → W.cell? ⟨lb, lo + vl, none⟩ = some (.slice ua bl.length uc)) := Lib.hid (fun W hW => HS.out.bel (HB0.out.trans (hW.mono HB0.out.size)) _ _ HUM.out)
        have hcu : wr.drew.cell? ⟨lb, lo + vl, none⟩ = some (.slice ua bl.length uc) := HS.out.bel (HB0.out.trans (HI.out.bel.mono HB0.out.size)) _ _ hu
        clear hu
        have cW := Lib.hid (fun W => word_any (vl : Int) ⟨by omega, by omega⟩ W)
        have HM0 : Hid (wr.drew.cell? ⟨lb, lo + vl, none⟩ = some (.slice ua bl.length uc)) := Lib.hid hcu
        clear hcu
        have hwz : (wordO (vl : Int)).size ≤ 6 := by
          have h1 := wordO_len (vl : Int)
          show (wordO (vl : Int)).data.size ≤ 6
          rw [← Array.length_toList]; omega
        go_upto_region 6 with fail
        refine wp_sch (.take 0 (.take 1 (.take 2 (.take 3 (.take 4 (.take 5 (.take 6 (.take 8 (.take 9 (.take 10 (.take 11 (.only 7 (.only 12 (.only 13 (.only 14 (.only 15 .done)))))))))))))))) 1000 (fun W2 => W2.cell? ⟨lb, lo + vl, none⟩ = some (.slice ua bl.length uc)) (by kernel_rfl) (by kernel_rfl) HM0.out ?_
        obtain ⟨Wd, hWd⟩ : ∃ Wd, Wd = wr.drew := ⟨_, rfl⟩
        have HBD : Hid (Below w0.heap.size w0 Wd) := Lib.hid (by rw [hWd]; exact HI.out.bel.drew)
        have HXD : Hid (FRow Wd w0.heap.size (.slice va vl vc) es) := Lib.hid (by rw [hWd]; exact HEX.out.same (fun _ _ => rfl))
        have HM := HM0
        rw [← hWd] at HM ⊢
        clear hWd HM0 HEX
        refine wpSch_take rfl (.slice va vl vc) (fun _ _ _ _ h => h) HM.out (by rfl) (fun W2 hW => by go_simp) ?_
        simp only [Act.put, List.setIfInBounds_toArray, List.set_cons_zero, List.set_cons_succ]
        refine wpSch_take rfl (.int .i64 (vl : Int)) (fun _ _ _ _ h => h) HM.out (by rfl) (fun W2 hW => by go_simp) ?_
        simp only [Act.put, List.setIfInBounds_toArray, List.set_cons_zero, List.set_cons_succ]
        refine wpSch_take rfl (.int .i64 ((vl : Int) + 2)) (fun _ _ _ _ h => h) HM.out (by rfl) (fun W2 hW => by go_simp; exact IntWalk.i64_in _ (by omega)) ?_
        simp only [Act.put, List.setIfInBounds_toArray, List.set_cons_zero, List.set_cons_succ]
        refine wpSch_take rfl (.int .i64 (vl : Int)) (fun _ _ _ _ h => h) HM.out (by rfl) (fun W2 hW => by go_simp) ?_
        simp only [Act.put, List.setIfInBounds_toArray, List.set_cons_zero, List.set_cons_succ]
        refine wpSch_take rfl (.int .i64 ((vl : Int) + 1)) (fun _ _ _ _ h => h) HM.out (by rfl) (fun W2 hW => by go_simp; exact IntWalk.i64_in _ (by omega)) ?_
        simp only [Act.put, List.setIfInBounds_toArray, List.set_cons_zero, List.set_cons_succ]
        refine wpSch_take rfl (.int .i64 (vl : Int)) (fun _ _ _ _ h => h) HM.out (by rfl) (fun W2 hW => by go_simp) ?_
        simp only [Act.put, List.setIfInBounds_toArray, List.set_cons_zero, List.set_cons_succ]
        refine wpSch_take rfl (.int .i64 (vl : Int)) (fun _ _ _ _ h => h) HM.out (by rfl) (fun W2 hW => by go_simp) ?_
        simp only [Act.put, List.setIfInBounds_toArray, List.set_cons_zero, List.set_cons_succ]
        refine wpSch_take rfl (.slice (some ⟨lb, lo, none⟩) ls.length lc) (fun _ _ _ _ h => h) HM.out (by rfl) (fun W2 hW => by go_simp) ?_
        simp only [Act.put, List.setIfInBounds_toArray, List.set_cons_zero, List.set_cons_succ]
        refine wpSch_take rfl (.int .i64 (vl : Int)) (fun _ _ _ _ h => h) HM.out (by rfl) (fun W2 hW => by go_simp) ?_
        simp only [Act.put, List.setIfInBounds_toArray, List.set_cons_zero, List.set_cons_succ]
        refine wpSch_take rfl (.pointer (some ⟨lb, lo + vl, none⟩)) (fun _ _ _ _ h => h) HM.out (by rfl) (fun W2 hW => by go_simp) ?_
        simp only [Act.put, List.setIfInBounds_toArray, List.set_cons_zero, List.set_cons_succ]
        refine wpSch_take rfl (.slice ua bl.length uc) (fun _ _ _ _ h => h) HM.out (by rfl) (fun W2 hW => by have q0 := hW; go_simp) ?_
        simp only [Act.put, List.setIfInBounds_toArray, List.set_cons_zero, List.set_cons_succ]
        refine wpSch_only rfl (fun K hK => ?_)
        go_simp
        refine (cW.out _).mono ?_
        rintro e w7 ⟨rfl, hb7⟩
        dsimp only
        have HM7 := Lib.hid (sees_bel hb7 _ _ HM.out)
        have HBw7 : Hid (Below w0.heap.size w0 w7) := Lib.hid (HBD.out.trans (hb7.mono HBD.out.size))
        have HX7 : Hid (FRow w7 w0.heap.size (.slice va vl vc) es) := Lib.hid (HXD.out.same (fun j hj => hb7.block j (HXD.out.ge j hj).2))
        refine hK _ _ HM7.out ?_
        clear hK K hb7 HM HBD HXD cW
        refine wpSch_only rfl (fun K hK => ?_)
        rw [if_pos (by rfl)]
        refine wp_val (exec_sbuild2 50 _ rfl _ (by simp [Act.eval]; with_reducible exact built_lin vl bl ua uc)) ?_
        refine hK _ _ HM7.out ?_
        clear hK K
        simp only [Act.put, List.setIfInBounds_toArray, List.set_cons_zero, List.set_cons_succ]
        refine wpSch_only rfl (fun K hK => ?_)
        rw [if_pos (by rfl)]
        refine wp_fct_slice _ rfl (linE vl bl ua uc) (by simp [Act.eval]) ?_
        have HM8 := Lib.hid (sees_bel (bel1 w7 (.cells (linE vl bl ua uc).cells 50)) _ _ HM7.out)
        refine hK _ _ HM8.out ?_
        clear hK K
        simp only [Act.put, List.setIfInBounds_toArray, List.set_cons_zero, List.set_cons_succ]
        refine wpSch_only rfl (fun K hK => ?_)
        rw [if_pos (by rfl)]
        refine wp_app_fct _ _ rfl w0.heap.size _ es (by simp [Act.eval]) (HX7.out.same (fun j hj => (bel1 w7 _).block j (HX7.out.ge j hj).2)) (linE vl bl ua uc) w7.heap.size 1 (by simp [Act.eval]) (World.alloc_heap_new _ _) (by omega) (by have := HBw7.out.size; simp; omega) ?_
        intro v9 w9 hr9 hg9 ho9
        have hM9 : w9.cell? ⟨lb, lo + vl, none⟩ = some (.slice ua bl.length uc) := by
          have hl : lb < w7.heap.size := World.block_lt_of_cell? _ _ HM7.out
          refine (World.cell?_of_block (hg9.block lb (by simp; omega) (fun q => ?_))).trans HM8.out
          have h1 := (HX7.out.ge lb q.symm).1
          have h2 : lb < w0.heap.size := World.block_lt_of_cell? _ _ (HS.out.bel HB0.out _ _ (HUM.out))
          omega
        refine hK _ _ hM9 ?_
        clear hK K
        have HI9 : Hid (LinI mem w0 ls (vl + 1) v9 w9) := Lib.hid ⟨(HBw7.out.alloc HBw7.out.size _).grown hg9 (by have := HBw7.out.size; simp; omega) (fun j hj => (HX7.out.ge j hj).1), es ++ [linE vl bl ua uc], hr9, by rw [List.map_append, HEM.out, HSNO.out]; rfl, fun x hx => by
          rcases List.mem_append.1 hx with hx | hx
          · exact HEO.out x hx
          · rw [List.mem_singleton.1 hx]
            exact ⟨lin_fok (by omega) HUB.out, StrsM.nil _, HUB.out, IntsM.nil _⟩⟩
        obtain ⟨a9, c9, hv9⟩ := hr9.shape
        subst hv9
        rw [List.length_append, List.length_singleton, hesb] at HI9
        clear hr9 hg9 ho9 hM9
        simp only [Act.put, List.setIfInBounds_toArray, List.set_cons_zero, List.set_cons_succ]
        refine wpSch_only rfl (fun K hK => ?_)
        go_simp
        refine hK _ _ (HLK.out _ HI9.out.bel) ?_
        clear hK K
        refine wpSch_done ?_
        go_wp2_with fail
        go_roundw
        case rel => exact ⟨vl + 1, by omega, by omega, by go_num, ⟨_, _, _, rfl⟩, HI9⟩
        case measure => (try simp only [intOf]); omega
      · have hxA : ¬ ((vl : Int) < 10) := by omega
        have HPUB : Hid ((plainE lpub).ok (fun _ => none)) := Lib.hid (plain_ok lpub_fok rfl rfl rfl)
        have HOK : Hid (∀ W, Below w0.heap.size w0 W → ∀ x ∈ es ++ [plainE lpub], x.ok (fun p => W.cell? p)) := Lib.hid (fun W hW x hx => by
          rcases List.mem_append.1 hx with hx | hx
          · exact (HEO.out x hx).mono (HS.out.bel (HB0.out.trans (hW.mono HB0.out.size)))
          · rw [List.mem_singleton.1 hx]; exact HPUB.out.mono (fun _ _ e => by cases e))
        go_upto_region 7 with fail
        go_wp2_with (first
          | ((with_reducible refine at_sbuild 50 _ rfl ?_); go_must (refine wpList_buildTo rfl 50 _ rfl _ rfl _ (by simp [Act.eval]; with_reducible exact built_lpub) ?_))
          | ((with_reducible refine at_sslice 22 _ _ rfl ?_); go_must (refine wpList_fct_slice rfl _ rfl (plainE lpub) (by simp [Act.eval, Act.put]) ?_))
          | ((with_reducible refine at_sappend _ _ 22 rfl ?_); go_must (refine wpList_app_fct rfl _ _ rfl w0.heap.size _ es (by simp [Act.eval, Act.put]) (HEX.out.same (fun j hj => (bel1 wr _).block j (HEX.out.ge j hj).2)) (plainE lpub) wr.heap.size 1 (by simp [Act.eval, Act.put]) (World.alloc_heap_new _ _) (by omega) (by simp; omega) ?_); go_must (intro v9 w9 hr9 hg9 ho9; have HB9 : Hid (Below w0.heap.size w0 w9) := Lib.hid ((HI.out.bel.alloc HI.out.bel.size _).grown hg9 (by simp; omega) (fun j hj => (HEX.out.ge j hj).1)); obtain ⟨a9, c9, hv9⟩ := hr9.shape; subst hv9; have HR9 := Lib.hid hr9; clear hr9 hg9 ho9)))
        have hl9 : (es ++ [plainE lpub]).length = vl + 1 := by rw [List.length_append, hesb]; rfl
        have cS := Lib.hid (short_law (HR9.out.es (HOK.out w9 HB9.out)) w9 (Sees.self w9))
        rw [hl9] at cS
        refine cS.out.mono ?_
        rintro e w10 ⟨ra, rc, fs, rfl, hsh⟩
        have hmap : (es ++ [plainE lpub]).map FctE.f = linL ls vl ++ [lpub] := by rw [List.map_append, HEM.out]; rfl
        rw [hmap] at hsh
        have HSH := Lib.hid hsh
        have HFM : Hid (fs.map FctE.f = (linL ls vl).map shortF ++ [shortF lpub]) := Lib.hid (by rw [hsh.map]; exact lin_short ls vl hk10)
        have hfl : fs.length = vl + 1 := by
          have := congrArg List.length HFM.out
          rw [List.length_map, List.length_append, List.length_map, linL_len] at this
          exact this
        have HB10 : Hid (Below w0.heap.size w0 w10) := Lib.hid (HB9.out.trans (hsh.bel.mono HB9.out.size))
        clear hmap cS hsh
        have cF := Lib.hid HSH.out.fold
        rw [hfl] at cF
        go_wp2_with fail
        refine cF.out.mono ?_
        rintro e w11 ⟨a, c, b, d, s, rfl, hF⟩
        have HF := Lib.hid hF
        have HB11 : Hid (Below w10.heap.size w10 w11) := Lib.hid hF.bel
        have HIS : Hid (FoldIs ((linL ls vl).map shortF ++ [shortF lpub]) s) := Lib.hid (by rw [← lin_short ls vl hk10]; exact hF.is)
        have HSM : Hid (Sees (memFr w11 (fun k => k < w10.heap.size + 1)) w11) := Lib.hid (memFr_sees _ _)
        clear hF cF
        go_upto_region 9 with ((with_reducible refine at_sstore 27 _ _ rfl ?_); go_must (refine wpList_snew rfl S_state _ _ rfl rfl _ _ #[.slice a s.stories.length c, .slice b s.tpls.length d] (by simp [Act.eval]) (by simp [Act.eval]) rfl rfl (by simp [Value.oneCell']) ?_))
        obtain ⟨W12, hW12⟩ : ∃ W12, W12 = w11.alloc (.cells #[.slice a s.stories.length c, .slice b s.tpls.length d] 27) := ⟨_, rfl⟩
        rw [← hW12]
        have hb12 : Below w11.heap.size w11 W12 := by rw [hW12]; exact bel1 _ _
        have HN12 : Hid (W12.heap[w11.heap.size]? = some (.cells #[.slice a s.stories.length c, .slice b s.tpls.length d] 27 (0, 0))) := Lib.hid (by rw [hW12]; exact World.alloc_heap_new _ _)
        have HS12 := Lib.hid (HSM.out.bel hb12)
        have HB12 : Hid (Below w10.heap.size w10 W12) := Lib.hid (HB11.out.trans (hb12.mono HB11.out.size))
        clear hW12 hb12
        have cE := Lib.hid (Edition_any HF.out.st (gst_all HF.out.good) 3 ⟨#[101, 110]⟩ W12 HS12.out)
        obtain ⟨l1, l2, l3⟩ := lin_edition (lin_lin ls vl) ⟨rfl, rfl⟩ HIS.out
        have L1 := Lib.hid l1
        have L2 := Lib.hid l2
        have L3 := Lib.hid l3
        clear l1 l2 l3
        go_wp2_with ((with_reducible refine at_sload 27 _ rfl ?_); go_must (refine wpList_sload rfl S_state _ rfl (by simp [Act.eval]) #[.slice a s.stories.length c, .slice b s.tpls.length d] rfl HN12.out ?_))
        refine cE.out.mono ?_
        rintro e w13 ⟨bv, rfl, hok13, hbr, hb13⟩
        have HBR := Lib.hid hbr
        have HN13 := Lib.hid ((hb13.block _ (Go.Proofs.YtdkkhmjlamkgdaaGreatDoor.hlt HN12.out)).trans HN12.out)
        have HB13 : Hid (Below w10.heap.size w10 w13) := Lib.hid (HB12.out.trans (hb13.mono HB12.out.size))
        clear hb13 cE hok13 hbr
        obtain hv0 | ⟨m, hvm⟩ : vl = 0 ∨ ∃ m, vl = m + 1 := by
          cases vl with
          | zero => exact .inl rfl
          | succ m => exact .inr ⟨m, rfl⟩
        · exfalso; omega
        · subst hvm
          have hmf : m < fs.length := by omega
          have hXf : fs[m].f = ((linL ls (m + 1)).map shortF)[m]'(by rw [List.length_map, linL_len]; omega) := by
            have h1 : (fs.map FctE.f)[m]? = ((linL ls (m + 1)).map shortF ++ [shortF lpub])[m]? := by rw [HFM.out]
            rw [List.getElem?_append_left (by rw [List.length_map, linL_len]; omega), List.getElem?_eq_getElem (by rw [List.length_map]; exact hmf), List.getElem?_eq_getElem (by rw [List.length_map, linL_len]; omega), List.getElem_map] at h1
            exact Option.some.inj h1
          have hed := L3.out m (by rw [List.length_map, linL_len]) (by rw [List.length_map, linL_len]; omega)
          rw [← hXf] at hed
          have hxo := HSH.out.ok fs[m] (List.getElem_mem hmf)
          obtain ⟨rb, ro, hra, hre⟩ : ∃ b o, (0 < fs.length → ra = some ⟨b, o, none⟩) ∧ ∀ j (h : j < fs.length), fs[j].at (fun p => w10.cell? p) b (o + j * 23) := by
            obtain ⟨b, o, ⟨_, _, _, e, _, _, h3⟩, h4⟩ := HSH.out.es
            injection e with e1 _ _
            subst e1
            exact ⟨b, o, h3, fun j h => (h4 j h).2⟩
          obtain rfl := hra (by omega)
          have HAT := Lib.hid (hre m hmf)
          have HXO := Lib.hid hxo
          clear hre hra hXf hxo L1 L2 L3
          generalize fs[m] = X at *
          rw [show ednOf s 3 ⟨#[101, 110]⟩ = some ⟨sEn, X.f.rev, X.f.title, X.f.blocks, X.f.n⟩ from hed] at *
          clear hed
          have HBK := Lib.hid (HBR.out.blks HXO.out.fok.bl)
          obtain ⟨ba, bc, rfl⟩ := HBK.out.slice
          go_upto_region 10 with ((with_reducible refine at_sstore 39 _ _ rfl ?_); go_must (refine wpList_snew rfl S_edn _ _ rfl rfl _ _ (ednCells ⟨sEn, X.f.rev, X.f.title, X.f.blocks, X.f.n⟩ (.slice ba X.f.blocks.length bc)) (by simp [Act.eval]) (by simp [Act.eval]) rfl rfl (by simp [Value.oneCell']) ?_))
          obtain ⟨W14, hW14⟩ : ∃ W14, W14 = w13.alloc (.cells (ednCells ⟨sEn, X.f.rev, X.f.title, X.f.blocks, X.f.n⟩ (.slice ba X.f.blocks.length bc)) 39) := ⟨_, rfl⟩
          rw [← hW14]
          have hb14 : Below w13.heap.size w13 W14 := by rw [hW14]; exact bel1 _ _
          have HE14 : Hid (W14.heap[w13.heap.size]? = some (.cells (ednCells ⟨sEn, X.f.rev, X.f.title, X.f.blocks, X.f.n⟩ (.slice ba X.f.blocks.length bc)) 39 (0, 0))) := Lib.hid (by rw [hW14]; exact World.alloc_heap_new _ _)
          have HBK14 := Lib.hid (HBK.out.mono (sees_mem hb14))
          have HB14 : Hid (Below w10.heap.size w10 W14) := Lib.hid (HB13.out.trans (hb14.mono HB13.out.size))
          have HAT14 : Hid (X.at (fun p => W14.cell? p) rb (ro + m * 23)) := Lib.hid (fun j u hj => sees_bel HB14.out _ _ (HAT.out j u hj))
          clear hW14 hb14
          have hidx : (((m : Int) + 1 + 1 - 2).toNat) = m := by omega
          have HSZ : Hid (X.cells.size = 23) := Lib.hid rfl
          have HON := Lib.hid X.one
          go_upto_region 13 with (first
            | ((with_reducible refine at_fload _ rfl ?_); go_must (refine wpList_fct_mid rfl _ rfl (by simp [Act.eval]) HAT14.out ?_))
            | ((with_reducible refine at_fstore _ _ rfl ?_); go_must (refine wpList_fct_new rfl _ _ rfl rfl _ _ _ (by simp [Act.eval]) (by simp [Act.eval]) (by rfl) HSZ.out HON.out ?_)))
          obtain ⟨W15, hW15⟩ : ∃ W15, W15 = W14.alloc (.cells X.cells 50) := ⟨_, rfl⟩
          rw [← hW15]
          have hb15 : Below W14.heap.size W14 W15 := by rw [hW15]; exact bel1 _ _
          have HX15 : Hid (W15.heap[W14.heap.size]? = some (.cells (fctCells X.f X.tv X.bv X.av) 50 (0, 0))) := Lib.hid (by rw [hW15, ← FctE.cells_eq]; exact World.alloc_heap_new _ _)
          have HE15 := Lib.hid ((hb15.block _ (Go.Proofs.YtdkkhmjlamkgdaaGreatDoor.hlt HE14.out)).trans HE14.out)
          have HB15 : Hid (Below w10.heap.size w10 W15) := Lib.hid (HB14.out.trans (hb15.mono HB14.out.size))
          have HBK15 := Lib.hid (HBK14.out.mono (fun p u h => sees_bel hb15 p u h))
          have cSL := Lib.hid (sameList_any (mem := fun p => W15.cell? p) (l := X.f.blocks) (m := X.f.blocks) HBK15.out ((HXO.out.parts.2.1).mono (fun p u h => sees_bel HB15.out p u (memNo_sees w10 _ p u h))) W15 (Sees.self W15))
          rw [decide_eq_true rfl] at cSL
          have q1 : W15.cell? ⟨w13.heap.size, 1, none⟩ = some (.int .i64 X.f.rev) := rowcell HE15.out
          have q2 : W15.cell? ⟨w13.heap.size, 2, none⟩ = some (.string X.f.title) := rowcell HE15.out
          have q3 : W15.cell? ⟨w13.heap.size, 3, none⟩ = some (.slice ba X.f.blocks.length bc) := rowcell HE15.out
          have q4 : W15.cell? ⟨w13.heap.size, 4, none⟩ = some (.int .i64 X.f.n) := rowcell HE15.out
          have r5 : W15.cell? ⟨W14.heap.size, 5, none⟩ = some (.int .i64 X.f.rev) := rowcell HX15.out
          have r7 : W15.cell? ⟨W14.heap.size, 7, none⟩ = some (.string X.f.title) := rowcell HX15.out
          have r0 : W15.cell? ⟨W14.heap.size, 0, none⟩ = some (.int .i64 X.f.n) := rowcell HX15.out
          have r10 : W15.cell? ⟨W14.heap.size, 10, none⟩ = some (.slice X.ba X.f.blocks.length X.bc) := rowcell HX15.out
          clear hW15 hb15
          go_wp2_with fail
          refine cSL.out.mono ?_
          rintro e w16 ⟨rfl, hb16⟩
          have HFN : Hid (Below w.heap.size w w16) := Lib.hid (HB0.out.trans ((HB10.out.trans ((HB15.out.trans (hb16.mono HB15.out.size)).mono HB10.out.size)).mono HB0.out.size))
          clear hb16 cSL
          go_wp2_with fail
          go_ret
          exact ⟨rfl, HFN.out⟩
    · have hxA : ¬ ((vl : Int) < (ls.length : Int)) := by omega
      have HPUB : Hid ((plainE lpub).ok (fun _ => none)) := Lib.hid (plain_ok lpub_fok rfl rfl rfl)
      have HOK : Hid (∀ W, Below w0.heap.size w0 W → ∀ x ∈ es ++ [plainE lpub], x.ok (fun p => W.cell? p)) := Lib.hid (fun W hW x hx => by
        rcases List.mem_append.1 hx with hx | hx
        · exact (HEO.out x hx).mono (HS.out.bel (HB0.out.trans (hW.mono HB0.out.size)))
        · rw [List.mem_singleton.1 hx]; exact HPUB.out.mono (fun _ _ e => by cases e))
      go_upto_region 7 with fail
      go_wp2_with (first
        | ((with_reducible refine at_sbuild 50 _ rfl ?_); go_must (refine wpList_buildTo rfl 50 _ rfl _ rfl _ (by simp [Act.eval]; with_reducible exact built_lpub) ?_))
        | ((with_reducible refine at_sslice 22 _ _ rfl ?_); go_must (refine wpList_fct_slice rfl _ rfl (plainE lpub) (by simp [Act.eval, Act.put]) ?_))
        | ((with_reducible refine at_sappend _ _ 22 rfl ?_); go_must (refine wpList_app_fct rfl _ _ rfl w0.heap.size _ es (by simp [Act.eval, Act.put]) (HEX.out.same (fun j hj => (bel1 wr _).block j (HEX.out.ge j hj).2)) (plainE lpub) wr.heap.size 1 (by simp [Act.eval, Act.put]) (World.alloc_heap_new _ _) (by omega) (by simp; omega) ?_); go_must (intro v9 w9 hr9 hg9 ho9; have HB9 : Hid (Below w0.heap.size w0 w9) := Lib.hid ((HI.out.bel.alloc HI.out.bel.size _).grown hg9 (by simp; omega) (fun j hj => (HEX.out.ge j hj).1)); obtain ⟨a9, c9, hv9⟩ := hr9.shape; subst hv9; have HR9 := Lib.hid hr9; clear hr9 hg9 ho9)))
      have hl9 : (es ++ [plainE lpub]).length = vl + 1 := by rw [List.length_append, hesb]; rfl
      have cS := Lib.hid (short_law (HR9.out.es (HOK.out w9 HB9.out)) w9 (Sees.self w9))
      rw [hl9] at cS
      refine cS.out.mono ?_
      rintro e w10 ⟨ra, rc, fs, rfl, hsh⟩
      have hmap : (es ++ [plainE lpub]).map FctE.f = linL ls vl ++ [lpub] := by rw [List.map_append, HEM.out]; rfl
      rw [hmap] at hsh
      have HSH := Lib.hid hsh
      have HFM : Hid (fs.map FctE.f = (linL ls vl).map shortF ++ [shortF lpub]) := Lib.hid (by rw [hsh.map]; exact lin_short ls vl hk10)
      have hfl : fs.length = vl + 1 := by
        have := congrArg List.length HFM.out
        rw [List.length_map, List.length_append, List.length_map, linL_len] at this
        exact this
      have HB10 : Hid (Below w0.heap.size w0 w10) := Lib.hid (HB9.out.trans (hsh.bel.mono HB9.out.size))
      clear hmap cS hsh
      have cF := Lib.hid HSH.out.fold
      rw [hfl] at cF
      go_wp2_with fail
      refine cF.out.mono ?_
      rintro e w11 ⟨a, c, b, d, s, rfl, hF⟩
      have HF := Lib.hid hF
      have HB11 : Hid (Below w10.heap.size w10 w11) := Lib.hid hF.bel
      have HIS : Hid (FoldIs ((linL ls vl).map shortF ++ [shortF lpub]) s) := Lib.hid (by rw [← lin_short ls vl hk10]; exact hF.is)
      have HSM : Hid (Sees (memFr w11 (fun k => k < w10.heap.size + 1)) w11) := Lib.hid (memFr_sees _ _)
      clear hF cF
      go_upto_region 9 with ((with_reducible refine at_sstore 27 _ _ rfl ?_); go_must (refine wpList_snew rfl S_state _ _ rfl rfl _ _ #[.slice a s.stories.length c, .slice b s.tpls.length d] (by simp [Act.eval]) (by simp [Act.eval]) rfl rfl (by simp [Value.oneCell']) ?_))
      obtain ⟨W12, hW12⟩ : ∃ W12, W12 = w11.alloc (.cells #[.slice a s.stories.length c, .slice b s.tpls.length d] 27) := ⟨_, rfl⟩
      rw [← hW12]
      have hb12 : Below w11.heap.size w11 W12 := by rw [hW12]; exact bel1 _ _
      have HN12 : Hid (W12.heap[w11.heap.size]? = some (.cells #[.slice a s.stories.length c, .slice b s.tpls.length d] 27 (0, 0))) := Lib.hid (by rw [hW12]; exact World.alloc_heap_new _ _)
      have HS12 := Lib.hid (HSM.out.bel hb12)
      have HB12 : Hid (Below w10.heap.size w10 W12) := Lib.hid (HB11.out.trans (hb12.mono HB11.out.size))
      clear hW12 hb12
      have cE := Lib.hid (Edition_any HF.out.st (gst_all HF.out.good) 3 ⟨#[101, 110]⟩ W12 HS12.out)
      obtain ⟨l1, l2, l3⟩ := lin_edition (lin_lin ls vl) ⟨rfl, rfl⟩ HIS.out
      have L1 := Lib.hid l1
      have L2 := Lib.hid l2
      have L3 := Lib.hid l3
      clear l1 l2 l3
      go_wp2_with ((with_reducible refine at_sload 27 _ rfl ?_); go_must (refine wpList_sload rfl S_state _ rfl (by simp [Act.eval]) #[.slice a s.stories.length c, .slice b s.tpls.length d] rfl HN12.out ?_))
      refine cE.out.mono ?_
      rintro e w13 ⟨bv, rfl, hok13, hbr, hb13⟩
      have HBR := Lib.hid hbr
      have HN13 := Lib.hid ((hb13.block _ (Go.Proofs.YtdkkhmjlamkgdaaGreatDoor.hlt HN12.out)).trans HN12.out)
      have HB13 : Hid (Below w10.heap.size w10 w13) := Lib.hid (HB12.out.trans (hb13.mono HB12.out.size))
      clear hb13 cE hok13 hbr
      obtain hv0 | ⟨m, hvm⟩ : vl = 0 ∨ ∃ m, vl = m + 1 := by
        cases vl with
        | zero => exact .inl rfl
        | succ m => exact .inr ⟨m, rfl⟩
      · subst hv0
        have hen : ednOf s 3 ⟨#[101, 110]⟩ = none := L2.out rfl
        have hst1 : s.stories.length = 1 := L1.out
        rw [hen] at HBR ⊢
        rw [hst1] at HN13 ⊢
        obtain ⟨ba, bn, bc, rfl⟩ := HBR.out.sl
        clear hen hst1 L1 L2 L3
        go_upto_region 10 with ((with_reducible refine at_sstore 39 _ _ rfl ?_); go_must (refine wpList_snew rfl S_edn _ _ rfl rfl _ _ (ednCells edn0 (.slice ba bn bc)) (by simp [Act.eval]) (by simp [Act.eval]) rfl rfl (by simp [Value.oneCell']) ?_))
        obtain ⟨W14, hW14⟩ : ∃ W14, W14 = w13.alloc (.cells (ednCells edn0 (.slice ba bn bc)) 39) := ⟨_, rfl⟩
        rw [← hW14]
        have hb14 : Below w13.heap.size w13 W14 := by rw [hW14]; exact bel1 _ _
        have k0 : W14.cell? ⟨w11.heap.size, 0, none⟩ = some (.slice a 1 c) := rowcell ((hb14.block _ (Go.Proofs.YtdkkhmjlamkgdaaGreatDoor.hlt HN13.out)).trans HN13.out)
        have HFN : Hid (Below w.heap.size w W14) := Lib.hid (HB0.out.trans ((HB10.out.trans ((HB13.out.trans (hb14.mono HB13.out.size)).mono HB10.out.size)).mono HB0.out.size))
        clear hW14 hb14
        go_wp2_with fail
        go_ret
        exact ⟨rfl, HFN.out⟩
      · subst hvm
        have hmf : m < fs.length := by omega
        have hXf : fs[m].f = ((linL ls (m + 1)).map shortF)[m]'(by rw [List.length_map, linL_len]; omega) := by
          have h1 : (fs.map FctE.f)[m]? = ((linL ls (m + 1)).map shortF ++ [shortF lpub])[m]? := by rw [HFM.out]
          rw [List.getElem?_append_left (by rw [List.length_map, linL_len]; omega), List.getElem?_eq_getElem (by rw [List.length_map]; exact hmf), List.getElem?_eq_getElem (by rw [List.length_map, linL_len]; omega), List.getElem_map] at h1
          exact Option.some.inj h1
        have hed := L3.out m (by rw [List.length_map, linL_len]) (by rw [List.length_map, linL_len]; omega)
        rw [← hXf] at hed
        have hxo := HSH.out.ok fs[m] (List.getElem_mem hmf)
        obtain ⟨rb, ro, hra, hre⟩ : ∃ b o, (0 < fs.length → ra = some ⟨b, o, none⟩) ∧ ∀ j (h : j < fs.length), fs[j].at (fun p => w10.cell? p) b (o + j * 23) := by
          obtain ⟨b, o, ⟨_, _, _, e, _, _, h3⟩, h4⟩ := HSH.out.es
          injection e with e1 _ _
          subst e1
          exact ⟨b, o, h3, fun j h => (h4 j h).2⟩
        obtain rfl := hra (by omega)
        have HAT := Lib.hid (hre m hmf)
        have HXO := Lib.hid hxo
        clear hre hra hXf hxo L1 L2 L3
        generalize fs[m] = X at *
        rw [show ednOf s 3 ⟨#[101, 110]⟩ = some ⟨sEn, X.f.rev, X.f.title, X.f.blocks, X.f.n⟩ from hed] at *
        clear hed
        have HBK := Lib.hid (HBR.out.blks HXO.out.fok.bl)
        obtain ⟨ba, bc, rfl⟩ := HBK.out.slice
        go_upto_region 10 with ((with_reducible refine at_sstore 39 _ _ rfl ?_); go_must (refine wpList_snew rfl S_edn _ _ rfl rfl _ _ (ednCells ⟨sEn, X.f.rev, X.f.title, X.f.blocks, X.f.n⟩ (.slice ba X.f.blocks.length bc)) (by simp [Act.eval]) (by simp [Act.eval]) rfl rfl (by simp [Value.oneCell']) ?_))
        obtain ⟨W14, hW14⟩ : ∃ W14, W14 = w13.alloc (.cells (ednCells ⟨sEn, X.f.rev, X.f.title, X.f.blocks, X.f.n⟩ (.slice ba X.f.blocks.length bc)) 39) := ⟨_, rfl⟩
        rw [← hW14]
        have hb14 : Below w13.heap.size w13 W14 := by rw [hW14]; exact bel1 _ _
        have HE14 : Hid (W14.heap[w13.heap.size]? = some (.cells (ednCells ⟨sEn, X.f.rev, X.f.title, X.f.blocks, X.f.n⟩ (.slice ba X.f.blocks.length bc)) 39 (0, 0))) := Lib.hid (by rw [hW14]; exact World.alloc_heap_new _ _)
        have HBK14 := Lib.hid (HBK.out.mono (sees_mem hb14))
        have HB14 : Hid (Below w10.heap.size w10 W14) := Lib.hid (HB13.out.trans (hb14.mono HB13.out.size))
        have HAT14 : Hid (X.at (fun p => W14.cell? p) rb (ro + m * 23)) := Lib.hid (fun j u hj => sees_bel HB14.out _ _ (HAT.out j u hj))
        clear hW14 hb14
        have hidx : (((m : Int) + 1 + 1 - 2).toNat) = m := by omega
        have HSZ : Hid (X.cells.size = 23) := Lib.hid rfl
        have HON := Lib.hid X.one
        go_upto_region 13 with (first
          | ((with_reducible refine at_fload _ rfl ?_); go_must (refine wpList_fct_mid rfl _ rfl (by simp [Act.eval]) HAT14.out ?_))
          | ((with_reducible refine at_fstore _ _ rfl ?_); go_must (refine wpList_fct_new rfl _ _ rfl rfl _ _ _ (by simp [Act.eval]) (by simp [Act.eval]) (by rfl) HSZ.out HON.out ?_)))
        obtain ⟨W15, hW15⟩ : ∃ W15, W15 = W14.alloc (.cells X.cells 50) := ⟨_, rfl⟩
        rw [← hW15]
        have hb15 : Below W14.heap.size W14 W15 := by rw [hW15]; exact bel1 _ _
        have HX15 : Hid (W15.heap[W14.heap.size]? = some (.cells (fctCells X.f X.tv X.bv X.av) 50 (0, 0))) := Lib.hid (by rw [hW15, ← FctE.cells_eq]; exact World.alloc_heap_new _ _)
        have HE15 := Lib.hid ((hb15.block _ (Go.Proofs.YtdkkhmjlamkgdaaGreatDoor.hlt HE14.out)).trans HE14.out)
        have HB15 : Hid (Below w10.heap.size w10 W15) := Lib.hid (HB14.out.trans (hb15.mono HB14.out.size))
        have HBK15 := Lib.hid (HBK14.out.mono (fun p u h => sees_bel hb15 p u h))
        have cSL := Lib.hid (sameList_any (mem := fun p => W15.cell? p) (l := X.f.blocks) (m := X.f.blocks) HBK15.out ((HXO.out.parts.2.1).mono (fun p u h => sees_bel HB15.out p u (memNo_sees w10 _ p u h))) W15 (Sees.self W15))
        rw [decide_eq_true rfl] at cSL
        have q1 : W15.cell? ⟨w13.heap.size, 1, none⟩ = some (.int .i64 X.f.rev) := rowcell HE15.out
        have q2 : W15.cell? ⟨w13.heap.size, 2, none⟩ = some (.string X.f.title) := rowcell HE15.out
        have q3 : W15.cell? ⟨w13.heap.size, 3, none⟩ = some (.slice ba X.f.blocks.length bc) := rowcell HE15.out
        have q4 : W15.cell? ⟨w13.heap.size, 4, none⟩ = some (.int .i64 X.f.n) := rowcell HE15.out
        have r5 : W15.cell? ⟨W14.heap.size, 5, none⟩ = some (.int .i64 X.f.rev) := rowcell HX15.out
        have r7 : W15.cell? ⟨W14.heap.size, 7, none⟩ = some (.string X.f.title) := rowcell HX15.out
        have r0 : W15.cell? ⟨W14.heap.size, 0, none⟩ = some (.int .i64 X.f.n) := rowcell HX15.out
        have r10 : W15.cell? ⟨W14.heap.size, 10, none⟩ = some (.slice X.ba X.f.blocks.length X.bc) := rowcell HX15.out
        clear hW15 hb15
        go_wp2_with fail
        refine cSL.out.mono ?_
        rintro e w16 ⟨rfl, hb16⟩
        have HFN : Hid (Below w.heap.size w w16) := Lib.hid (HB0.out.trans ((HB10.out.trans ((HB15.out.trans (hb16.mono HB15.out.size)).mono HB10.out.size)).mono HB0.out.size))
        clear hb16 cSL
        go_wp2_with fail
        go_ret
        exact ⟨rfl, HFN.out⟩
end Go.Proofs.YtdkkhmjlamkgdaaGreatDoor
/-
  WHAT IS PROVED HERE: StateLinear returns true and leaves its arguments as they were, for all arguments. Conditions: those of the card (the listed tables of Go's library lie as their text lays them).
-/
namespace Go.Proofs.YtdkkhmjlamkgdaaGreatDoor.fnSLin
open Go.ChangeShapes Go.WideShapes Go.ChangeAt Go.RowKit Go.ChangeMaps Mg

set_option maxRecDepth 100000 in
theorem contract (H : Type) (enc : TypeId × Value → H) (W : World) (base : Nat) (args : Array Value) (ds gs : List (DataW H)) (before : List MemPlace)
    (hval : ∀ (j : Nat) t v, Tryz.f10.params[j]? = some t → args[j]? = some v → Value.okWide Tryz.prog W .any base t v)
    (hW : DataW.Whole enc Tryz.prog Tryz.f10.params.toList Rows.stateLinearSpec.vars false W args.toList ds gs before) :
    Calls Tryz.prog 10 args W fun e W' => ∃ v, e = .returned v ∧ Rows.stateLinearSpec.post enc Tryz.prog Tryz.f10 false true false false W args v W' := by
  have hread : ∀ t ∈ Tryz.f10.params.toList, Tryz.prog.readableRec t = true ∧ t < Tryz.prog.types.size := by
    have hall : (Tryz.f10.params.toList.all fun t => Tryz.prog.readableRec t && decide (t < Tryz.prog.types.size)) = true := by kernel_rfl
    intro t ht
    have := List.all_eq_true.1 hall t ht
    simpa using this
  have hclose : ∀ W', Below W.heap.size W W' → (Rows.stateLinearSpec.fn H ds).results = [.lit (.bool true)] ∧ (Rows.stateLinearSpec.fn H ds).args = ds ∧ (Rows.stateLinearSpec.fn H ds).vars = [] → Rows.stateLinearSpec.post enc Tryz.prog Tryz.f10 false true false false W args (.bool true) W' :=
    fun W' hg hs => close_law hW rfl (by kernel_rfl) hs hread hg
  obtain ⟨p, q, hA0, hV, rfl, hfz, hnd⟩ := hW
  have hA : DataW.TrodAll enc Tryz.prog W 0 (fun _ => true) true Tryz.f10.params.toList args.toList ds p := hA0
  obtain ⟨rfl, rfl⟩ := trodVars_none hV
  rw [Tryz.params10] at hA hval
  clear hA0 hread hfz hnd hV
  obtain ⟨v0, vs0, d0, ds0, p0, q0, hargs, rfl, rfl, h0, r0⟩ := trodAll_cons hA
  obtain ⟨rfl, rfl, rfl⟩ := trodAll_nil r0
  obtain rfl : args = #[v0] := by cases args; simp_all
  obtain ⟨l0, b0⟩ := blkss_in (hval 0 65 v0 rfl rfl) h0
  refine (linear_any b0 W (Sees.self W)).mono fun e W' ⟨he, hg⟩ => ?_
  exact ⟨_, he, hclose W' hg ⟨rfl, rfl, rfl⟩⟩

theorem laid_met (os : Os) : laidMet Tryz.prog Rows.stateLinearRow.laid ((laidWorld os).forCall (fun _ _ => 0) ⟨#[], #[.slice none 0 0], []⟩).memory :=
  laidMet_of_run' 8 (by kernel_rfl) (by kernel_rfl)
theorem reads (os : Os) {H : Type} (enc : TypeId × Value → H) : ∃ places, DataW.whole enc Tryz.prog ((laidWorld os).forCall (fun _ _ => 0) ⟨#[], #[.slice none 0 0], []⟩).memory Tryz.f10.params.toList Rows.stateLinearSpec.vars false (#[Value.slice none 0 0] : Array Value).toList 8 = some ([.nil], [], places) :=
  ⟨[], by kernel_rfl⟩

set_option maxRecDepth 100000 in
theorem lifted (os : Os) (started : os.Started) (H : Type) (enc : TypeId × Value → H) (F : Stop.Interp) :
    ReturnsInHanded {} Tryz.checked os 10 .any ((OpenSpec.ofChange Rows.stateLinearSpec).preRow enc Tryz.prog Tryz.f10 Rows.stateLinearRow.domain false Rows.stateLinearRow.laid) (((OpenSpec.ofChange Rows.stateLinearSpec).at F).post enc Tryz.prog Tryz.f10 false true false false) := by
  obtain ⟨places, hx⟩ := reads os enc
  refine returnsInHanded_of_row (C := Tryz.checked) (s := OpenSpec.ofChange Rows.stateLinearSpec) own started (by kernel_rfl) Tryz.func10
    (witness_row_at (enc := enc) (C := Tryz.checked) false (laidWorld os) #[.slice none 0 0] rfl (by kernel_rfl) (by kernel_rfl) (by kernel_rfl)
      (OpenSpec.preRow_of_cond 8 hx (by kernel_rfl) (fun k hk => by cases hk) (by kernel_rfl) (laid_met os))) ?_
  intro W base args ds gs before hval hW _ _ _ _ _ _
  exact contract H enc W base args ds gs before hval hW

theorem j1 : (Rows.stateLinearRow.inPlace == Tryz.prog.inPlace 10) = true := by kernel_rfl
theorem j2 : (Rows.stateLinearRow.unfollowed == Tryz.prog.unfollowed 10) = true := by kernel_rfl
theorem j3 : (Rows.stateLinearRow.recurses == Tryz.prog.recurses 10) = true := by kernel_rfl
theorem j4 : (Rows.stateLinearRow.named == Tryz.prog.varsNamed 10) = true := by kernel_rfl
theorem j5 : joinedRest Tryz.prog Tryz.f10 (OpenSpec.ofChange Rows.stateLinearSpec).bare Rows.stateLinearRow = true := by kernel_rfl
theorem j6 : false = Rows.stateLinearRow.goesBy Tryz.prog := by kernel_rfl
theorem j7 : Rows.stateLinearRow.wfByText (OpenSpec.ofChange Rows.stateLinearSpec) = true := by kernel_rfl
theorem closed : joinedFacts Tryz.prog 10 Tryz.f10 (OpenSpec.ofChange Rows.stateLinearSpec).bare Rows.stateLinearRow = true := joined_of j1 j2 j3 j4 pr_heard pr_enter pr_lifts pr_make j5
theorem named : Tryz.prog.funcNamed Rows.stateLinearRow.func = some 10 := by kernel_rfl

theorem said : Rows.StateLinearSaid :=
  OpenClaim.holds_of_cond 10 Tryz.f10 rfl rfl rfl rfl rfl rfl rfl ⟨rfl, rfl, rfl, rfl, rfl⟩ rfl rfl rfl rfl rfl named Tryz.func10 closed
    (of_decide_eq_true (by kernel_rfl)) (by unfold Func.isWrapper; first | (rw [if_pos (by decide +kernel)]; kernel_rfl) | (rw [if_neg (by decide +kernel)]; exact ⟨rfl, rfl⟩))
    (fun os started H enc _ F => by rw [OpenClaim.pre_eq_preRow]; exact lifted os started H enc F)

/-- No parameter wants a stand-in; the program's own looks are off: what both cards ask. -/
theorem plain (f : FuncId) (fn : Func) (hf : Tryz.pinned.checked.prog.funcNamed "copydesk/copydesklaw07.StateLinear" = some f) (hfn : Tryz.pinned.checked.prog.funcs[f]? = some fn) :
    false = Tryz.pinned.checked.prog.looks [] ∧ ∀ (j : Nat) t, fn.params[j]? = some t → Tryz.pinned.checked.prog.wantsStandIn t = false := by
  obtain rfl : f = 10 := Option.some.inj ((show Tryz.prog.funcNamed "copydesk/copydesklaw07.StateLinear" = some 10 by kernel_rfl).symm.trans hf) |>.symm
  obtain rfl : fn = Tryz.f10 := (Option.some.inj (Tryz.func10.symm.trans hfn)).symm
  refine ⟨by kernel_rfl, fun j t ht => ?_⟩
  have hall : Tryz.f10.params.all (fun t => !Tryz.prog.wantsStandIn t) = true := by kernel_rfl
  have := Array.all_eq_true'.1 hall t (Array.mem_of_getElem? ht)
  exact (by simpa using this : Tryz.prog.wantsStandIn t = false)

/-- ████ THE CARD ████ -/
theorem card : Rows.StateLinearCardSaid :=
  Claim7.holds_tied_plain_at .later [] _ _ _ _ said (fun _ h => by cases h) j7 (fun _ h => by cases h) stateLinear_row_tie rfl ⟨rfl, rfl⟩ (by kernel_rfl) rfl plain j6
end Go.Proofs.YtdkkhmjlamkgdaaGreatDoor.fnSLin

/-
  WHAT IS PROVED HERE: a law returns true and leaves its arguments as they were, for all arguments (3 texts joined). Conditions: those of the card.
-/
import Derived.Test.YtgbihmafmmeicaaGreatDoorBn5
import Derived.Laws.MakeOwn
/-
  WHAT IS PROVED HERE: plain: what AccessOutGrows asks of the stories that are out. No program, no condition.
-/
namespace Go.Proofs.YtgbihmafmmeicaaGreatDoor
open Go.RowKit Mg Go.Shelf

def apF (s e : Int) : Fct := { fct0 with kind := 2, story := s, editor := e }
def pbF (s : Int) : Fct := { fct0 with kind := 3, story := s }
theorem ap_valid {s e : Int} (h1 : 1 ≤ s) (h2 : s ≤ 4) (h3 : 1 ≤ e) (h4 : e ≤ 5) : validF (apF s e) = true := by
  refine valid_mk (by show (0 : Int) ≤ 0 ∧ (0 : Int) ≤ 500; omega) (by show (0 : Int) ≤ 0 ∧ (0 : Int) ≤ _; omega) ?_ rfl
  show (storyOK (apF s e) && inR e 1 5) = true
  unfold storyOK
  rw [Bool.and_eq_true, inR_iff, inR_iff]
  show (1 ≤ s ∧ s ≤ 64) ∧ _
  omega
theorem pb_valid {s : Int} (h1 : 1 ≤ s) (h2 : s ≤ 4) : validF (pbF s) = true := by
  refine valid_mk (by show (0 : Int) ≤ 0 ∧ (0 : Int) ≤ 500; omega) (by show (0 : Int) ≤ 0 ∧ (0 : Int) ≤ _; omega) ?_ rfl
  show (storyOK (pbF s) && validLab lab0) = true
  unfold storyOK
  rw [Bool.and_eq_true, inR_iff]
  refine ⟨?_, lab0_valid⟩
  show 1 ≤ s ∧ s ≤ 64
  omega
theorem ap_tidy (s e : Int) : Tidy (apF s e) := ⟨.inr (.inl rfl), rfl⟩
theorem pb_tidy (s : Int) : Tidy (pbF s) := ⟨.inr (.inr (.inl rfl)), rfl⟩
theorem filter_snoc {l : List Fct} {f : Fct} (h : validF f = true) : (l ++ [f]).filter validF = l.filter validF ++ [f] := by rw [List.filter_append]; simp [h]
theorem within_one {a b : List Int} (h : ∀ x ∈ a, x ∈ b) : withinF a b = 1 := by
  unfold withinF
  rw [if_pos]
  simpa using h
theorem ap_built (s e : Int) : Tryz.prog.built 45 [(2, .int .i64 2), (3, .int .i64 s), (12, .int .i64 e)] = some (plainE (apF s e)).cells := by kernel_rfl
theorem pb_built (s : Int) : Tryz.prog.built 45 [(2, .int .i64 3), (3, .int .i64 s)] = some (plainE (pbF s)).cells := by kernel_rfl
theorem ap_ok {s e : Int} (h1 : 1 ≤ s) (h2 : s ≤ 4) (h3 : 1 ≤ e) (h4 : e ≤ 5) (mem : Addr → Option Value) : (plainE (apF s e)).ok mem := by
  have z := fok_zero
  exact plain_ok ⟨z.i0, z.i1, okS (by show -1000 ≤ (2 : Int); omega) (by show (2 : Int) ≤ 1000; omega), okS (by show -1000 ≤ s; omega) (by show s ≤ 1000; omega), z.s4, z.i5, z.i6, z.s7, z.s8, z.i11, z.i13, z.i14, okS (by show -1000 ≤ e; omega) (by show e ≤ 1000; omega), z.i16, z.i17, z.s18, z.s19, z.i20, z.i21, z.i22, z.bl⟩ rfl rfl rfl
theorem pb_ok {s : Int} (h1 : 1 ≤ s) (h2 : s ≤ 4) (mem : Addr → Option Value) : (plainE (pbF s)).ok mem := by
  have z := fok_zero
  exact plain_ok ⟨z.i0, z.i1, okS (by show -1000 ≤ (3 : Int); omega) (by show (3 : Int) ≤ 1000; omega), okS (by show -1000 ≤ s; omega) (by show s ≤ 1000; omega), z.s4, z.i5, z.i6, z.s7, z.s8, z.i11, z.i13, z.i14, z.i15, z.i16, z.i17, z.s18, z.s19, z.i20, z.i21, z.i22, z.bl⟩ rfl rfl rfl
/-- the cells of a made row of 25 facts -/
noncomputable def made25 : Array Value := madeCells zeroF.cells (25 * 23)
theorem run_make25 (w : World) : (Instr.makeSlice 25 (.int .i64 0) (.int .i64 25)).run Tryz.prog w = .ok (.slice (some ⟨w.heap.size, 0, none⟩) 0 25) (w.alloc (.cells made25 45)) := by
  obtain ⟨i0, hi0, hz0, hz1, hz2⟩ := info_parts fct_info
  have h := run_make (P := Tryz.prog) w 25 45 i0 _ Tryz.underlying25 hi0 hz0 .i64 .i64 0 25 (by omega) (by omega) (by rw [hz2]; omega) (by omega)
  rw [hz1] at h
  exact h
theorem frow_made {w : World} {B g : Nat} (hB : B ≤ g) (hh : w.heap[g]? = some (.cells made25 45 (0, 0))) : FRow w B (.slice (some ⟨g, 0, none⟩) 0 25) [] :=
  ⟨rfl, .inr ⟨g, 25, _, rfl, hB, hh, by show 0 ≤ 25; omega, by unfold maxLen; omega, by unfold made25; rw [size_madeCells], rfl⟩⟩
/-- a list of facts of a call's own whose elements lie anywhere -/
structure ListA (W0 : World) (v : Value) (ys : List FctE) (wr : World) : Prop where
  bel : Below W0.heap.size W0 wr
  row : FRow wr W0.heap.size v ys
  ok : ∀ e ∈ ys, e.ok (fun a => W0.cell? a)
theorem ListA.below {W0 wr w' : World} {v : Value} {ys : List FctE} (h : ListA W0 v ys wr) (hb : Below wr.heap.size wr w') : ListA W0 v ys w' :=
  ⟨h.bel.trans (hb.mono h.bel.size), h.row.same fun k hk => hb.block k (h.row.ge k hk).2, h.ok⟩
theorem ListA.es {W0 wr : World} {v : Value} {ys : List FctE} (h : ListA W0 v ys wr) : EsM (fun a => wr.cell? a) v ys := h.row.es (fun y hy => (h.ok y hy).mono (sees_bel h.bel))
theorem ListA.grow {W0 wr w1 w' : World} {v v' : Value} {ys fs : List FctE} (h : ListA W0 v ys wr) (hb : Below wr.heap.size wr w1) (hf : ∀ e ∈ fs, e.ok (fun a => W0.cell? a)) (hr : FRow w' W0.heap.size v' (ys ++ fs)) (hg : w1.grownBy w' v.ownBlock) : ListA W0 v' (ys ++ fs) w' := by
  have hge := h.row.ge
  have h1 := h.below hb
  have hu : Upd (fun b => v.ownBlock = some b) w1 w' := (Upd.refl _ w1).grown hg (fun b e => .inl e)
  refine ⟨h1.bel.trans (hu.below (fun k e => (hge k e).1) h1.bel.size), hr, fun e he => ?_⟩
  rcases List.mem_append.1 he with he | he
  · exact h.ok e he
  · exact hf e he
end Go.Proofs.YtgbihmafmmeicaaGreatDoor
/-
  WHAT IS PROVED HERE: the walk of the law AccessOutGrows. No condition but that the arguments lie in memory and are within Go's.
-/
namespace Go.Proofs.YtgbihmafmmeicaaGreatDoor
open Go.RowKit Mg Go.Shelf

set_option maxRecDepth 100000 in
set_option maxHeartbeats 8000000 in
theorem law_grows {mem : Addr → Option Value} {v : Value} {xs : List Six} (hx : SixM mem v xs) {a b m0 m1 : Int} (ha : okI a) (hb : okI b) (hm0 : okI m0) (hm1 : okI m1) (w : World) (hs : Sees mem w) :
    Calls Tryz.prog 4 #[v, .agg #[.int .i64 a, .int .i64 b], .agg #[.int .i64 m0, .int .i64 m1]] w fun e w' => e = .returned (.bool true) ∧ Below w.heap.size w w' := by
  have HX := Lib.hid hx
  obtain ⟨_, _, ⟨_, oa, oc, rfl, _⟩, _⟩ := hx
  have HB1 : Hid (Below w.heap.size w ((w.alloc (.cells #[.int .i64 a, .int .i64 b] 23)).alloc (.cells #[.int .i64 m0, .int .i64 m1] 23))) := Lib.hid (((Below.refl _ w).alloc (Nat.le_refl _) _).alloc (by simp) _)
  have HA1 := Lib.hid (heap_new1 w (.cells #[.int .i64 a, .int .i64 b] 23) (.cells #[.int .i64 m0, .int .i64 m1] 23))
  have HM1 := Lib.hid (heap_new2 w (.cells #[.int .i64 a, .int .i64 b] 23) (.cells #[.int .i64 m0, .int .i64 m1] 23))
  have HS1 := Lib.hid (hs.bel HB1.out)
  have c1 := Lib.hid (fun W => pick_any m1 4 hm1 (by omega) (by omega) W)
  have c5 := Lib.hid (fun W => pick_any m0 5 hm0 (by omega) (by omega) W)
  have c9 := Lib.hid (fun W => pick_any m0 100 hm0 (by omega) (by omega) W)
  obtain ⟨p0, p1⟩ := pickF_lt (c := m1) (n := 4) (by omega)
  obtain ⟨e0, e1⟩ := pickF_lt (c := m0) (n := 5) (by omega)
  obtain ⟨f0, f1⟩ := pickF_lt (c := m0) (n := 100) (by omega)
  obtain ⟨q0, q1⟩ := pickF_lt (c := a) (n := 4) (by omega)
  obtain ⟨t0, t1⟩ := pickF_lt (c := b) (n := 25) (by omega)
  have c2 := Lib.hid (fun W => at_any2 a b ha hb W)
  generalize pickF m1 4 = pd at *
  generalize pickF m0 5 = pe at *
  generalize pickF m0 100 = pm at *
  generalize pickF a 4 = pa at *
  generalize pickF b 25 = pb at *
  obtain ⟨st, hst⟩ : ∃ st, st = 1 + pd := ⟨_, rfl⟩
  have hst1 : 1 ≤ st := by omega
  have hst4 : st ≤ 4 := by omega
  clear hs ha hb hm0 hm1
  go_enter Tryz.func4, Tryz.ntmps4
  go_upto_region 1 with fail
  generalize hW1 : World.alloc (World.alloc w _) _ = W1 at *
  clear hW1
  go_wp2_with fail
  refine (sane_any W1).mono ?_
  rintro e W2 ⟨rfl, hb2⟩
  have HB2 := Lib.hid (HB1.out.trans (hb2.mono HB1.out.size))
  have HA2 := Lib.hid ((hb2.block _ (Go.Proofs.YtgbihmafmmeicaaGreatDoor.hlt HA1.out)).trans HA1.out)
  have HM2 := Lib.hid ((hb2.block _ (Go.Proofs.YtgbihmafmmeicaaGreatDoor.hlt HM1.out)).trans HM1.out)
  have HS2 := Lib.hid (HS1.out.bel hb2)
  clear hb2
  go_wp2_with fail
  refine (log_any _ xs HX.out W2 HS2.out).mono ?_
  rintro e W3 ⟨lv, es, rfl, hys, hI⟩
  obtain ⟨la, lc, rfl⟩ := hI.row.shape
  have HYS := Lib.hid hys
  have hyl : es.length ≤ 24 := by rw [← List.length_map (f := FctE.f), hys]; exact logF_len xs
  have HES := Lib.hid hI.es
  have HB3 := Lib.hid (HB2.out.trans (hI.bel.mono HB2.out.size))
  have hA3 := (hI.bel.block _ (Go.Proofs.YtgbihmafmmeicaaGreatDoor.hlt HA2.out)).trans HA2.out
  have HM3 := Lib.hid ((hI.bel.block _ (Go.Proofs.YtgbihmafmmeicaaGreatDoor.hlt HM2.out)).trans HM2.out)
  have HTY : Hid (∀ e ∈ es, Tidy e.f) := Lib.hid (fun e he => logF_tidy xs _ (by rw [← hys]; exact List.mem_map_of_mem he))
  have k0 : W3.cell? ⟨w.heap.size, 0, none⟩ = some (.int .i64 a) := blk_cell hA3 0
  have k1 : W3.cell? ⟨w.heap.size, 1, none⟩ = some (.int .i64 b) := blk_cell hA3 1
  clear hI hys hA3
  go_wp2_with fail
  refine (c2.out _).mono ?_
  rintro e W4 ⟨rfl, hb4⟩
  have HB4 := Lib.hid (HB3.out.trans (hb4.mono HB3.out.size))
  have HES4 := Lib.hid (HES.out.mono (sees_bel hb4))
  have HM4 := Lib.hid ((hb4.block _ (Go.Proofs.YtgbihmafmmeicaaGreatDoor.hlt HM3.out)).trans HM3.out)
  clear k0 k1 hb4 HES HB3 HM3
  go_wp2_with fail
  refine (access_out_any _ es HES4.out HTY.out (by omega) pa pb W4 (fun a u h => h) (cells_lt W4)).mono ?_
  rintro e W5 ⟨ov, L, rfl, hor, ho, hb5⟩
  obtain ⟨o1, o2, rfl⟩ := hor.shape
  rw [HYS.out] at ho
  have HO := Lib.hid ho
  have HOR := Lib.hid hor.ints
  have HB5 := Lib.hid (HB4.out.trans (hb5.mono HB4.out.size))
  have HES5 := Lib.hid (HES4.out.mono (sees_bel hb5))
  have HM5 := Lib.hid ((hb5.block _ (Go.Proofs.YtgbihmafmmeicaaGreatDoor.hlt HM4.out)).trans HM4.out)
  have k1 : W5.cell? ⟨w.heap.size + 1, 1, none⟩ = some (.int .i64 m1) := blk_cell HM5.out 1
  clear ho hor hb5 HB4 HES4 HM4
  go_wp2_with fail
  refine (c1.out _).mono ?_
  rintro e w6 ⟨rfl, rfl⟩
  have HST := Lib.hid hst
  clear hst
  go_upto_region 6 with fail
  rw [← HST.out]
  clear HST p0 p1 k1
  have hmk := run_make25
  have HMK := Lib.hid hmk
  have HM : Hid (W5.drew.heap[w.heap.size + 1]? = some (.cells #[.int .i64 m0, .int .i64 m1] 23 (0, 0))) := Lib.hid HM5.out
  refine wp_sch (.take 1 (.take 3 (.take 4 (.take 5 (.only 0 (.only 2 (.only 6 (.take 7 (.take 8 (.only 9 (.only 10 (.only 11 .done)))))))))))) 1000 (fun W2 => W2.heap[w.heap.size + 1]? = some (.cells #[.int .i64 m0, .int .i64 m1] 23 (0, 0))) (by kernel_rfl) (by kernel_rfl) HM.out ?_
  clear hmk
  obtain ⟨Wd, hWd⟩ : ∃ Wd, Wd = W5.drew := ⟨_, rfl⟩
  have HBD : Hid (Below w.heap.size w Wd) := Lib.hid (by rw [hWd]; exact HB5.out.drew)
  have HED : Hid (EsM (fun a => Wd.cell? a) (.slice la es.length lc) es) := Lib.hid (by rw [hWd]; exact HES5.out)
  have HOD : Hid (IntsM (fun a => Wd.cell? a) (.slice o1 L.length o2) L) := Lib.hid (by rw [hWd]; exact HOR.out)
  rw [← hWd] at HM ⊢
  clear hWd HB5 HES5 HOR HM5
  refine wpSch_take rfl (.slice la es.length lc) (fun _ _ _ _ h => h) HM.out (by rfl) (fun W2 hW => by go_simp) ?_
  simp only [Act.put, List.setIfInBounds_toArray, List.set_cons_zero, List.set_cons_succ]
  refine wpSch_take rfl (.int .i64 st) (fun _ _ _ _ h => h) HM.out (by rfl) (fun W2 hW => by go_simp) ?_
  simp only [Act.put, List.setIfInBounds_toArray, List.set_cons_zero, List.set_cons_succ]
  refine wpSch_take rfl (.pointer (some ⟨w.heap.size + 1, 0, none⟩)) (fun _ _ _ _ h => h) HM.out (by rfl) (fun W2 hW => by go_simp) ?_
  simp only [Act.put, List.setIfInBounds_toArray, List.set_cons_zero, List.set_cons_succ]
  refine wpSch_take rfl (.int .i64 m0) (fun _ _ _ _ h => h) HM.out (by rfl) (fun W2 hW => by have q0 : W2.cell? ⟨w.heap.size + 1, 0, none⟩ = some (.int .i64 m0) := blk_cell hW 0; go_simp) ?_
  simp only [Act.put, List.setIfInBounds_toArray, List.set_cons_zero, List.set_cons_succ]
  refine wpSch_only rfl (fun K hK => ?_)
  have hmk := HMK.out
  go_simp
  clear hmk
  have HBm : Hid (Below Wd.heap.size Wd (Wd.alloc (.cells made25 45))) := Lib.hid ((Below.refl _ Wd).alloc (Nat.le_refl _) _)
  have HFm : Hid (ListA Wd (.slice (some ⟨Wd.heap.size, 0, none⟩) 0 25) [] (Wd.alloc (.cells made25 45))) := Lib.hid ⟨HBm.out, frow_made (Nat.le_refl _) (World.alloc_heap_new _ _), fun e he => by cases he⟩
  have HMm : Hid ((Wd.alloc (.cells made25 45)).heap[w.heap.size + 1]? = some (.cells #[.int .i64 m0, .int .i64 m1] 23 (0, 0))) := Lib.hid ((HBm.out.block _ (Go.Proofs.YtgbihmafmmeicaaGreatDoor.hlt HM.out)).trans HM.out)
  have HEm := Lib.hid (HED.out.mono (sees_bel HBm.out))
  generalize Wd.alloc (.cells made25 45) = Wm at *
  refine hK _ _ HMm.out ?_
  clear hK K
  refine wpSch_only rfl (fun K hK => ?_)
  rw [if_pos (by rfl)]
  refine wp_app_facts _ _ rfl Wd.heap.size _ [] (by simp [Act.eval]) HFm.out.row la lc es (by simp [Act.eval]) HEm.out (by show 0 + es.length ≤ 100000; omega) HFm.out.bel.size ?_
  intro v7 w7 h7 hg7 hn7
  have H7 : Hid (ListA Wd v7 es w7) := Lib.hid (by
    have h := HFm.out.grow (Below.refl _ _) (fs := es) (fun e he => by
      obtain ⟨_, _, _, _, _, _, _, hok⟩ := HED.out.open_
      obtain ⟨j, hj, rfl⟩ := List.getElem_of_mem he
      exact (hok j hj).1) h7 hg7
    simpa using h)
  have hb7 : w7.heap[w.heap.size + 1]? = Wd.heap[w.heap.size + 1]? := H7.out.bel.block _ (Go.Proofs.YtgbihmafmmeicaaGreatDoor.hlt HM.out)
  have HM7 : Hid (w7.heap[w.heap.size + 1]? = some (.cells #[.int .i64 m0, .int .i64 m1] 23 (0, 0))) := Lib.hid (hb7.trans HM.out)
  obtain ⟨a7, n7, rfl⟩ := H7.out.row.shape
  refine hK _ _ HM7.out ?_
  clear hK K h7 hg7 hn7 hb7 HFm HMm HEm HBm
  simp only [Act.put, List.setIfInBounds_toArray, List.set_cons_zero, List.set_cons_succ]
  refine wpSch_only rfl (fun K hK => ?_)
  go_simp
  refine (c5.out _).mono ?_
  rintro e w8 ⟨rfl, rfl⟩
  dsimp only
  refine hK _ _ HM7.out ?_
  clear hK K
  refine wpSch_take rfl (.int .i64 (1 + pe)) (fun _ _ _ _ h => h) HM7.out (by rfl) (fun W2 hW => by go_simp; exact IntWalk.i64_in _ ⟨by omega, by omega⟩) ?_
  simp only [Act.put, List.setIfInBounds_toArray, List.set_cons_zero, List.set_cons_succ]
  refine wpSch_take rfl (.agg (plainE (apF st (1 + pe))).cells) (fun _ _ _ _ h => h) HM7.out (by rfl) (fun W2 hW => exec_build _ _ rfl _ (by simp [Act.eval]; with_reducible exact ap_built _ _)) ?_
  simp only [Act.put, List.setIfInBounds_toArray, List.set_cons_zero, List.set_cons_succ]
  refine wpSch_only rfl (fun K hK => ?_)
  rw [if_pos (by rfl)]
  refine wp_fct_slice _ rfl (plainE (apF st (1 + pe))) (by simp [Act.eval]) ?_
  have hb8 : Below w7.heap.size w7 (w7.alloc (.cells (plainE (apF st (1 + pe))).cells 45)) := (Below.refl _ w7).alloc (Nat.le_refl _) _
  have HN8 := Lib.hid (World.alloc_heap_new w7 (.cells (plainE (apF st (1 + pe))).cells 45))
  have HM8 : Hid ((w7.alloc (.cells (plainE (apF st (1 + pe))).cells 45)).heap[w.heap.size + 1]? = some (.cells #[.int .i64 m0, .int .i64 m1] 23 (0, 0))) := Lib.hid ((hb8.block _ (Go.Proofs.YtgbihmafmmeicaaGreatDoor.hlt HM7.out)).trans HM7.out)
  have H8 := Lib.hid (H7.out.below hb8)
  generalize w7.alloc (.cells (plainE (apF st (1 + pe))).cells 45) = w8 at *
  refine hK _ _ HM8.out ?_
  clear hK K hb8
  simp only [Act.put, List.setIfInBounds_toArray, List.set_cons_zero, List.set_cons_succ]
  refine wpSch_only rfl (fun K hK => ?_)
  rw [if_pos (by rfl)]
  refine wp_app_fct _ _ rfl Wd.heap.size _ es (by simp [Act.eval]) H8.out.row (plainE (apF st (1 + pe))) w7.heap.size 1 (by simp [Act.eval]) HN8.out (by omega) H8.out.bel.size ?_
  intro v9 w9 h9 hg9 hn9
  have H9' := H8.out.grow (Below.refl _ _) (fs := [plainE (apF st (1 + pe))]) (fun e he => by
    obtain rfl := List.mem_singleton.1 he
    exact ap_ok hst1 hst4 (by omega) (by omega) _) h9 hg9
  obtain ⟨es2, hes2⟩ : ∃ l, l = es ++ [plainE (apF st (1 + pe))] := ⟨_, rfl⟩
  rw [← hes2] at H9'
  have H9 := Lib.hid H9'
  have HES2 := Lib.hid hes2
  obtain ⟨a9, n9, rfl⟩ := H9.out.row.shape
  have HM9 : Hid (w9.heap[w.heap.size + 1]? = some (.cells #[.int .i64 m0, .int .i64 m1] 23 (0, 0))) := Lib.hid ((H9.out.bel.block _ (Go.Proofs.YtgbihmafmmeicaaGreatDoor.hlt HM.out)).trans HM.out)
  refine hK _ _ HM9.out ?_
  clear hK K h9 hg9 hn9 H9' hes2 H8 HN8 HM8 H7 HM7
  simp only [Act.put, List.setIfInBounds_toArray, List.set_cons_zero, List.set_cons_succ]
  refine wpSch_only rfl (fun K hK => ?_)
  go_simp
  refine hK _ _ HM9.out ?_
  clear hK K
  refine wpSch_done ?_
  have HB9 := Lib.hid (HBD.out.trans (H9.out.bel.mono HBD.out.size))
  have HE9 := Lib.hid (HED.out.mono (sees_bel H9.out.bel))
  have HO9 := Lib.hid (HOD.out.mono (sees_bel H9.out.bel))
  have HR9 := Lib.hid H9.out.es
  clear H9 HED HOD HBD HM
  -- the second list
  have hmk := HMK.out
  have HBm : Hid (Below w9.heap.size w9 (w9.alloc (.cells made25 45))) := Lib.hid ((Below.refl _ w9).alloc (Nat.le_refl _) _)
  have HFm : Hid (ListA w9 (.slice (some ⟨w9.heap.size, 0, none⟩) 0 25) [] (w9.alloc (.cells made25 45))) := Lib.hid ⟨HBm.out, frow_made (Nat.le_refl _) (World.alloc_heap_new _ _), fun e he => by cases he⟩
  have HEm := Lib.hid (HE9.out.mono (sees_bel HBm.out))
  have tok1 : True := trivial
  go_upto_region 8 with (first
    | ((with_reducible refine at_fbuild _ rfl ?_); go_must (refine wpList_buildTo rfl 45 _ rfl _ rfl _ (by simp [Act.eval, Act.put]; with_reducible exact pb_built _) ?_))
    | ((with_reducible refine at_fslice _ rfl ?_); go_must (refine wpList_fct_slice rfl _ rfl (plainE (pbF st)) (by simp [Act.eval, Act.put]) ?_))
    | (at_builtin
       have tok2 := tok1
       go_must (refine wpList_app_facts rfl (.tmp 42) (.tmp 43) rfl w9.heap.size _ [] rfl HFm.out.row la lc es rfl HEm.out (by show 0 + es.length ≤ 100000; omega) HFm.out.bel.size ?_)
       intro v7 w7 h7 hg7 hn7
       have H7 : Hid (ListA w9 v7 es w7) := Lib.hid (by
         have h := HFm.out.grow (Below.refl _ _) (fs := es) (fun e he => by
           obtain ⟨_, _, _, _, _, _, _, hok⟩ := HE9.out.open_
           obtain ⟨j, hj, rfl⟩ := List.getElem_of_mem he
           exact (hok j hj).1) h7 hg7
         simpa using h)
       obtain ⟨a7, n7, rfl⟩ := H7.out.row.shape
       have HNn := Lib.hid (World.alloc_heap_new w7 (.cells (plainE (pbF st)).cells 45))
       have HFn := Lib.hid (H7.out.below ((Below.refl _ w7).alloc (Nat.le_refl _) (.cells (plainE (pbF st)).cells 45)))
       clear h7 hg7 hn7 HFm HEm tok1 tok2)
    | (at_builtin
       go_must (refine wpList_app_fct rfl (.tmp 44) (.tmp 47) rfl w9.heap.size _ es rfl HFn.out.row (plainE (pbF st)) _ 1 rfl HNn.out (by omega) HFn.out.bel.size ?_)
       intro v10 w10 h10 hg10 hn10
       have H10' := HFn.out.grow (Below.refl _ _) (fs := [plainE (pbF st)]) (fun e he => by
         obtain rfl := List.mem_singleton.1 he
         exact pb_ok hst1 hst4 _) h10 hg10
       obtain ⟨es3, hes3⟩ : ∃ l, l = es ++ [plainE (pbF st)] := ⟨_, rfl⟩
       rw [← hes3] at H10'
       have H10 := Lib.hid H10'
       have HES3 := Lib.hid hes3
       obtain ⟨a10, n10, rfl⟩ := H10.out.row.shape
       clear h10 hg10 hn10 H10' hes3 HFn HNn H7))
  clear hmk
  have HB10 := Lib.hid (HB9.out.trans (H10.out.bel.mono HB9.out.size))
  have HE10 := Lib.hid (HE9.out.mono (sees_bel H10.out.bel))
  have HO10 := Lib.hid (HO9.out.mono (sees_bel H10.out.bel))
  have HR10 := Lib.hid (HR9.out.mono (sees_bel H10.out.bel))
  have HQ10 := Lib.hid H10.out.es
  have HM10 := Lib.hid ((H10.out.bel.block _ (Go.Proofs.YtgbihmafmmeicaaGreatDoor.hlt HM9.out)).trans HM9.out)
  have HT2 : Hid ((∀ e ∈ es2, Tidy e.f) ∧ es2.length ≤ 1000 ∧ (es2.map FctE.f).filter validF = (logF xs).filter validF ++ [apF st (1 + pe)]) := Lib.hid ⟨fun e he => by
    rw [HES2.out] at he
    rcases List.mem_append.1 he with he | he
    · exact HTY.out e he
    · obtain rfl := List.mem_singleton.1 he
      exact ap_tidy _ _, by rw [HES2.out, List.length_append]; show es.length + 1 ≤ 1000; omega, by
    rw [HES2.out, List.map_append, HYS.out]
    exact filter_snoc (ap_valid hst1 hst4 (by omega) (by omega))⟩
  have HT3 : Hid ((∀ e ∈ es3, Tidy e.f) ∧ es3.length ≤ 1000 ∧ (es3.map FctE.f).filter validF = (logF xs).filter validF ++ [pbF st]) := Lib.hid ⟨fun e he => by
    rw [HES3.out] at he
    rcases List.mem_append.1 he with he | he
    · exact HTY.out e he
    · obtain rfl := List.mem_singleton.1 he
      exact pb_tidy _, by rw [HES3.out, List.length_append]; show es.length + 1 ≤ 1000; omega, by
    rw [HES3.out, List.map_append, HYS.out]
    exact filter_snoc (pb_valid hst1 hst4)⟩
  have k0 : w10.cell? ⟨w.heap.size + 1, 0, none⟩ = some (.int .i64 m0) := blk_cell HM10.out 0
  clear HB9 HE9 HO9 HR9 H10 HM9
  go_wp2_with fail
  refine (c9.out _).mono ?_
  rintro e w6 ⟨rfl, rfl⟩
  clear k0
  go_wp2_with fail
  refine (access_out_any _ es HE10.out HTY.out (by omega) pa (pb + pm) w10 (fun a u h => h) (cells_lt w10)).mono ?_
  rintro e w11 ⟨ov, M, rfl, hor, ho, hb⟩
  obtain ⟨o3, o4, rfl⟩ := hor.shape
  have hsub : withinF L M = 1 := within_one (by rw [HYS.out] at ho; exact out_later (by omega) HO.out ho)
  have HW : Hid (Calls Tryz.prog 20 #[.slice o1 L.length o2, .slice o3 M.length o4] w11 fun e w' => e = .returned (.int .i64 1) ∧ w11 = w') := Lib.hid (by
    have h := withinL_any (mem := fun a => w11.cell? a) (HO10.out.mono (sees_bel hb)) hor.ints w11 (fun a u h => h)
    rw [hsub] at h
    exact h)
  have HB11 := Lib.hid (HB10.out.trans (hb.mono HB10.out.size))
  have HE11 := Lib.hid (HE10.out.mono (sees_bel hb))
  have HO11 := Lib.hid (HO10.out.mono (sees_bel hb))
  have HR11 := Lib.hid (HR10.out.mono (sees_bel hb))
  have HQ11 := Lib.hid (HQ10.out.mono (sees_bel hb))
  clear hor ho hb hsub HB10 HE10 HO10 HR10 HQ10
  go_wp2_with fail
  refine HW.out.mono ?_
  rintro e w11' ⟨rfl, rfl⟩
  clear HW
  go_wp2_with fail
  refine (access_out_any _ es2 HR11.out HT2.out.1 HT2.out.2.1 pa pb w11 (fun a u h => h) (cells_lt w11)).mono ?_
  rintro e w12 ⟨ov, M, rfl, hor, ho, hb⟩
  obtain ⟨o3, o4, rfl⟩ := hor.shape
  have hsub : withinF L M = 1 := within_one (by rw [HT2.out.2.2] at ho; exact out_snoc ⟨q0, by omega⟩ (.inl (by show (2 : Int) ≠ 3; omega)) HO.out ho t0)
  have HW : Hid (Calls Tryz.prog 20 #[.slice o1 L.length o2, .slice o3 M.length o4] w12 fun e w' => e = .returned (.int .i64 1) ∧ w12 = w') := Lib.hid (by
    have h := withinL_any (mem := fun a => w12.cell? a) (HO11.out.mono (sees_bel hb)) hor.ints w12 (fun a u h => h)
    rw [hsub] at h
    exact h)
  have HB12 := Lib.hid (HB11.out.trans (hb.mono HB11.out.size))
  have HE12 := Lib.hid (HE11.out.mono (sees_bel hb))
  have HO12 := Lib.hid (HO11.out.mono (sees_bel hb))
  have HR12 := Lib.hid (HR11.out.mono (sees_bel hb))
  have HQ12 := Lib.hid (HQ11.out.mono (sees_bel hb))
  clear hor ho hb hsub HB11 HE11 HO11 HR11 HQ11
  go_wp2_with fail
  refine HW.out.mono ?_
  rintro e w12' ⟨rfl, rfl⟩
  clear HW
  go_wp2_with fail
  refine (access_out_any _ es3 HQ12.out HT3.out.1 HT3.out.2.1 pa pb w12 (fun a u h => h) (cells_lt w12)).mono ?_
  rintro e w13 ⟨ov, M, rfl, hor, ho, hb⟩
  obtain ⟨o3, o4, rfl⟩ := hor.shape
  have hsub : withinF L M = 1 := within_one (by rw [HT3.out.2.2] at ho; exact out_snoc ⟨q0, by omega⟩ (.inr rfl) HO.out ho t0)
  have HW : Hid (Calls Tryz.prog 20 #[.slice o1 L.length o2, .slice o3 M.length o4] w13 fun e w' => e = .returned (.int .i64 1) ∧ w13 = w') := Lib.hid (by
    have h := withinL_any (mem := fun a => w13.cell? a) (HO12.out.mono (sees_bel hb)) hor.ints w13 (fun a u h => h)
    rw [hsub] at h
    exact h)
  have HB13 := Lib.hid (HB12.out.trans (hb.mono HB12.out.size))
  have HE13 := Lib.hid (HE12.out.mono (sees_bel hb))
  have HO13 := Lib.hid (HO12.out.mono (sees_bel hb))
  have HR13 := Lib.hid (HR12.out.mono (sees_bel hb))
  have HQ13 := Lib.hid (HQ12.out.mono (sees_bel hb))
  clear hor ho hb hsub HB12 HE12 HO12 HR12 HQ12
  go_wp2_with fail
  refine HW.out.mono ?_
  rintro e w13' ⟨rfl, rfl⟩
  clear HW
  have HBs : Hid (Below w13.heap.size w13 (w13.alloc (.cells #[.int .i64 st] 3))) := Lib.hid ((Below.refl _ w13).alloc (Nat.le_refl _) _)
  have HIs : Hid (IntsM (fun a => (w13.alloc (.cells #[.int .i64 st] 3)).cell? a) (.slice (some ⟨w13.heap.size, 0, none⟩) 1 1) [st]) := Lib.hid (irow_lit (l := [st]) (Nat.le_refl _) (World.alloc_heap_new w13 _) (by show 1 ≤ 100; omega)).ints
  have HB17 := Lib.hid (HB13.out.trans (HBs.out.mono HB13.out.size))
  have HE17 := Lib.hid (HE13.out.mono (sees_bel HBs.out))
  have HO17 := HIs
  have HR17 := Lib.hid (HR13.out.mono (sees_bel HBs.out))
  have HQ17 := Lib.hid (HQ13.out.mono (sees_bel HBs.out))
  generalize hW17 : w13.alloc (.cells #[.int .i64 st] 3) = w17 at *
  go_wp2_with fail
  refine (access_out_any _ es3 HQ17.out HT3.out.1 HT3.out.2.1 pa pb w17 (fun a u h => h) (cells_lt w17)).mono ?_
  rintro e w18 ⟨ov, M, rfl, hor, ho, hb⟩
  obtain ⟨o3, o4, rfl⟩ := hor.shape
  have hsub : withinF [st] M = 1 := within_one (by rw [HT3.out.2.2] at ho; intro x hx; rw [List.mem_singleton.1 hx]; exact zero_out ⟨q0, by omega⟩ rfl ⟨hst1, by show st ≤ 64; omega⟩ rfl ho t0)
  have HW : Hid (Calls Tryz.prog 20 #[.slice (some ⟨w13.heap.size, 0, none⟩) 1 1, .slice o3 M.length o4] w18 fun e w' => e = .returned (.int .i64 1) ∧ w18 = w') := Lib.hid (by
    have h := withinL_any (mem := fun a => w18.cell? a) (HO17.out.mono (sees_bel hb)) hor.ints w18 (fun a u h => h)
    rw [hsub] at h
    exact h)
  have HB18 := Lib.hid (HB17.out.trans (hb.mono HB17.out.size))
  have HE18 := Lib.hid (HE17.out.mono (sees_bel hb))
  have HO18 := Lib.hid (HO17.out.mono (sees_bel hb))
  have HR18 := Lib.hid (HR17.out.mono (sees_bel hb))
  have HQ18 := Lib.hid (HQ17.out.mono (sees_bel hb))
  clear hor ho hb hsub HB17 HE17 HO17 HR17 HQ17
  go_wp2_with fail
  refine HW.out.mono ?_
  rintro e w18' ⟨rfl, rfl⟩
  clear HW
  go_wp2_with fail
  go_ret
  exact ⟨rfl, HB18.out⟩
end Go.Proofs.YtgbihmafmmeicaaGreatDoor
/-
  WHAT IS PROVED HERE: AccessOutGrows returns true and leaves its arguments as they were, for all arguments. Conditions: those of the card (the listed tables of Go's library lie as their text lays them).
-/
namespace Go.Proofs.YtgbihmafmmeicaaGreatDoor.fnAGro
open Go.ChangeShapes Go.WideShapes Go.ChangeAt Go.RowKit Go.ChangeMaps Mg

set_option maxRecDepth 100000 in
theorem contract (H : Type) (enc : TypeId × Value → H) (W : World) (base : Nat) (args : Array Value) (ds gs : List (DataW H)) (before : List MemPlace)
    (hval : ∀ (j : Nat) t v, Tryz.f4.params[j]? = some t → args[j]? = some v → Value.okWide Tryz.prog W .any base t v)
    (hW : DataW.Whole enc Tryz.prog Tryz.f4.params.toList Rows.accessOutGrowsSpec.vars false W args.toList ds gs before) :
    Calls Tryz.prog 4 args W fun e W' => ∃ v, e = .returned v ∧ Rows.accessOutGrowsSpec.post enc Tryz.prog Tryz.f4 false true false false W args v W' := by
  have hread : ∀ t ∈ Tryz.f4.params.toList, Tryz.prog.readableRec t = true ∧ t < Tryz.prog.types.size := by
    have hall : (Tryz.f4.params.toList.all fun t => Tryz.prog.readableRec t && decide (t < Tryz.prog.types.size)) = true := by kernel_rfl
    intro t ht
    have := List.all_eq_true.1 hall t ht
    simpa using this
  have hclose : ∀ W', Below W.heap.size W W' → (Rows.accessOutGrowsSpec.fn H ds).results = [.lit (.bool true)] ∧ (Rows.accessOutGrowsSpec.fn H ds).args = ds ∧ (Rows.accessOutGrowsSpec.fn H ds).vars = [] → Rows.accessOutGrowsSpec.post enc Tryz.prog Tryz.f4 false true false false W args (.bool true) W' :=
    fun W' hg hs => close_law hW rfl (by kernel_rfl) hs hread hg
  obtain ⟨p, q, hA0, hV, rfl, hfz, hnd⟩ := hW
  have hA : DataW.TrodAll enc Tryz.prog W 0 (fun _ => true) true Tryz.f4.params.toList args.toList ds p := hA0
  obtain ⟨rfl, rfl⟩ := trodVars_none hV
  rw [Tryz.params4] at hA hval
  clear hA0 hread hfz hnd hV
  obtain ⟨v0, vs0, d0, ds0, p0, q0, hargs, rfl, rfl, h0, r0⟩ := trodAll_cons hA
  obtain ⟨v1, vs1, d1, ds1, p1, q1, rfl, rfl, rfl, h1, r1⟩ := trodAll_cons r0
  obtain ⟨v2, vs2, d2, ds2, p2, q2, rfl, rfl, rfl, h2, r2⟩ := trodAll_cons r1
  obtain ⟨rfl, rfl, rfl⟩ := trodAll_nil r2
  obtain rfl : args = #[v0, v1, v2] := by cases args; simp_all
  obtain ⟨l0, b0⟩ := sixes_in (hval 0 22 v0 rfl rfl) h0
  obtain ⟨x1, y1, rfl, ka1, kb1⟩ := pair_in (hval 1 23 v1 rfl rfl) h1
  obtain ⟨x2, y2, rfl, ka2, kb2⟩ := pair_in (hval 2 23 v2 rfl rfl) h2
  refine (law_grows b0 ka1 kb1 ka2 kb2 W (Sees.self W)).mono fun e W' ⟨he, hg⟩ => ?_
  exact ⟨_, he, hclose W' hg ⟨rfl, rfl, rfl⟩⟩

theorem laid_met (os : Os) : laidMet Tryz.prog Rows.accessOutGrowsRow.laid ((laidWorld os).forCall (fun _ _ => 0) ⟨#[], #[.slice none 0 0, .agg #[.int .i64 0, .int .i64 0], .agg #[.int .i64 0, .int .i64 0]], []⟩).memory :=
  laidMet_of_run' 8 (by kernel_rfl) (by kernel_rfl)
theorem reads (os : Os) {H : Type} (enc : TypeId × Value → H) : ∃ places, DataW.whole enc Tryz.prog ((laidWorld os).forCall (fun _ _ => 0) ⟨#[], #[.slice none 0 0, .agg #[.int .i64 0, .int .i64 0], .agg #[.int .i64 0, .int .i64 0]], []⟩).memory Tryz.f4.params.toList Rows.accessOutGrowsSpec.vars false (#[Value.slice none 0 0, .agg #[.int .i64 0, .int .i64 0], .agg #[.int .i64 0, .int .i64 0]] : Array Value).toList 8 = some ([.nil, .agg [.lit (.int .i64 0), .lit (.int .i64 0)], .agg [.lit (.int .i64 0), .lit (.int .i64 0)]], [], places) :=
  ⟨[], by kernel_rfl⟩

set_option maxRecDepth 100000 in
theorem lifted (os : Os) (started : os.Started) (H : Type) (enc : TypeId × Value → H) (F : Stop.Interp) :
    ReturnsInHanded {} Tryz.checked os 4 .any ((OpenSpec.ofChange Rows.accessOutGrowsSpec).preRow enc Tryz.prog Tryz.f4 Rows.accessOutGrowsRow.domain false Rows.accessOutGrowsRow.laid) (((OpenSpec.ofChange Rows.accessOutGrowsSpec).at F).post enc Tryz.prog Tryz.f4 false true false false) := by
  obtain ⟨places, hx⟩ := reads os enc
  refine returnsInHanded_of_row (C := Tryz.checked) (s := OpenSpec.ofChange Rows.accessOutGrowsSpec) own started (by kernel_rfl) Tryz.func4
    (witness_row_at (enc := enc) (C := Tryz.checked) false (laidWorld os) #[.slice none 0 0, .agg #[.int .i64 0, .int .i64 0], .agg #[.int .i64 0, .int .i64 0]] rfl (by kernel_rfl) (by kernel_rfl) (by kernel_rfl)
      (OpenSpec.preRow_of_cond 8 hx (by kernel_rfl) (fun k hk => by cases hk) (by kernel_rfl) (laid_met os))) ?_
  intro W base args ds gs before hval hW _ _ _ _ _ _
  exact contract H enc W base args ds gs before hval hW

theorem said : Rows.AccessOutGrowsSaid :=
  OpenClaim.holds_of_cond 4 Tryz.f4 rfl rfl rfl rfl rfl rfl rfl ⟨rfl, rfl, rfl, rfl, rfl⟩ rfl rfl rfl rfl rfl (by kernel_rfl) Tryz.func4 (by kernel_rfl)
    (of_decide_eq_true (by kernel_rfl)) (by unfold Func.isWrapper; first | (rw [if_pos (by decide +kernel)]; kernel_rfl) | (rw [if_neg (by decide +kernel)]; exact ⟨rfl, rfl⟩))
    (fun os started H enc _ F => by rw [OpenClaim.pre_eq_preRow]; exact lifted os started H enc F)

/-- No parameter wants a stand-in; the program's own looks are off: what both cards ask. -/
theorem plain (f : FuncId) (fn : Func) (hf : Tryz.pinned.checked.prog.funcNamed "copydesk/copydesklaw06.AccessOutGrows" = some f) (hfn : Tryz.pinned.checked.prog.funcs[f]? = some fn) :
    false = Tryz.pinned.checked.prog.looks [] ∧ ∀ (j : Nat) t, fn.params[j]? = some t → Tryz.pinned.checked.prog.wantsStandIn t = false := by
  obtain rfl : f = 4 := Option.some.inj ((show Tryz.prog.funcNamed "copydesk/copydesklaw06.AccessOutGrows" = some 4 by kernel_rfl).symm.trans hf) |>.symm
  obtain rfl : fn = Tryz.f4 := (Option.some.inj (Tryz.func4.symm.trans hfn)).symm
  refine ⟨by kernel_rfl, fun j t ht => ?_⟩
  have hall : Tryz.f4.params.all (fun t => !Tryz.prog.wantsStandIn t) = true := by kernel_rfl
  have := Array.all_eq_true'.1 hall t (Array.mem_of_getElem? ht)
  exact (by simpa using this : Tryz.prog.wantsStandIn t = false)

/-- ████ THE CARD ████ -/
theorem card : Rows.AccessOutGrowsCardSaid :=
  Claim7.holds_tied_plain_at .later [] _ _ _ _ said (fun _ h => by cases h) (by kernel_rfl) (fun _ h => by cases h) accessOutGrows_row_tie rfl ⟨rfl, rfl⟩ (by kernel_rfl) rfl plain (by kernel_rfl)
end Go.Proofs.YtgbihmafmmeicaaGreatDoor.fnAGro

/-
  WHAT IS PROVED HERE: 5 texts joined, each with its own head: what the walks of the program give. Conditions: each at its place.
-/
import Derived.Test.YtgbihmafmmeicaaGreatDoorBh5
import Derived.Laws.MakeOwn
namespace Go.Proofs.YtgbihmafmmeicaaGreatDoor
open Go.RowKit Mg Go.Shelf

theorem place_skip {c : Scn} {pl : Plc} {x : Fct} {s : Int} {lang : ByteArray} {i : Int} (h : x.kind ≠ 1 ∨ x.story ≠ s ∨ x.lang ≠ lang) : placeF c pl x s lang i = pl s lang i := by
  unfold placeF
  by_cases h1 : x.kind = 1
  · rw [if_pos h1]
    have h2 : ¬ (s = x.story ∧ lang = x.lang) := fun e => by
      rcases h with h | h | h
      · exact h h1
      · exact h e.1.symm
      · exact h e.2.symm
    generalize (fun b : Blk => c.isOpen x.story x.lab && c.isOpen x.story b.lab) = vv
    generalize x.blocks = l
    induction l generalizing pl with
    | nil => rfl
    | cons b l ih =>
      rw [List.foldl_cons, ih]
      unfold placeB
      rw [if_neg (fun e => h2 ⟨e.1, e.2.1⟩)]
  · rw [if_neg h1]
def foldV (v : Blk → Bool) (i : Int) (p : Bool) (l : List Blk) : Bool := l.foldl (fun p b => if b.id = i then v b else p) p
theorem fold_at (s : Int) (lang : ByteArray) (v : Blk → Bool) (i : Int) : ∀ (l : List Blk) (pl : Plc), l.foldl (placeB s lang v) pl s lang i = foldV v i (pl s lang i) l
  | [], _ => rfl
  | b :: l, pl => by
    rw [List.foldl_cons, fold_at s lang v i l]
    unfold foldV
    rw [List.foldl_cons]
    congr 1
    unfold placeB
    by_cases h : b.id = i
    · rw [if_pos h, if_pos ⟨rfl, rfl, h.symm⟩]
    · rw [if_neg h, if_neg (fun e => h e.2.2.symm)]
theorem foldV_succ (v : Blk → Bool) (i : Int) (p : Bool) (l : List Blk) (j : Nat) (h : j < l.length) : foldV v i p (l.take (j + 1)) = if l[j].id = i then v l[j] else foldV v i p (l.take j) := by
  unfold foldV
  rw [List.take_succ_eq_append_getElem h, List.foldl_append]
  rfl
theorem place_fold {c : Scn} {pl : Plc} {x : Fct} (h1 : x.kind = 1) (i : Int) : placeF c pl x x.story x.lang i = foldV (fun b => c.isOpen x.story x.lab && c.isOpen x.story b.lab) i (pl x.story x.lang i) x.blocks := by
  unfold placeF
  rw [if_pos h1, fold_at]
theorem isOpen_both (c : Scn) (s : Int) (l m : Lab) : (c.isOpen s l && c.isOpen s m) = (c.isOpen s l && c.ok s m) := by
  unfold Scn.isOpen
  cases c.shown s <;> cases c.ok s l <;> cases c.ok s m <;> rfl
set_option maxRecDepth 100000 in
set_option maxHeartbeats 4000000 in
theorem corrects_any {mem : Addr → Option Value} {v u : Value} {es : List FctE} {O : List Int} (h : EsM mem v es) (hO : IntsM mem u O) (cls now : Int) (i : Nat) (hi : i < es.length) (w : World) (hs : Sees mem w) :
    Calls Tryz.prog 39 #[.agg (sceneC v cls now u), .int .i64 (i : Nat)] w fun r w' => r = .returned (.bool (Scn.shown ⟨es.map FctE.f, cls, now, O⟩ es[i].f.story && placesF ⟨es.map FctE.f, cls, now, O⟩ ((es.map FctE.f).take i) es[i].f.story es[i].f.lang es[i].f.block)) ∧ Below w.heap.size w w' := by
  obtain ⟨za, zc, zb, zo, rfl, hzm, hza, hze⟩ := h.open_
  obtain rfl := hza (by omega)
  unfold maxLen at hzm
  have hnl : (es.length : Int) ≤ 9223372036854775807 := by omega
  have hil : (i : Int) < es.length := by omega
  have HF := Lib.hid h.facts
  have HZE := Lib.hid hze
  have HOO := Lib.hid hO
  obtain ⟨c, hc⟩ : ∃ c, c = (⟨es.map FctE.f, cls, now, O⟩ : Scn) := ⟨_, rfl⟩
  rw [← hc, show (es.map FctE.f).take i = c.D.take i by rw [hc]]
  have HCD : Hid (c.D = es.map FctE.f) := Lib.hid (by rw [hc])
  have HCO := Lib.hid hc
  obtain ⟨hok, hat⟩ := hze i hi
  have HAT := Lib.hid (fun j u hj => hs _ _ (hat j u hj))
  have HDL : Hid ((es.map FctE.f).length = es.length) := Lib.hid (List.length_map _)
  generalize hee : es[i] = e at *
  clear hee
  obtain ⟨ua, uc, rfl⟩ := hO.slice
  have HB1 : Hid (Below w.heap.size w ((w.alloc (.cells (sceneC (.slice (some ⟨zb, zo, none⟩) es.length zc) cls now (.slice ua O.length uc)) 48)).alloc (.cells e.cells 45))) := Lib.hid (((Below.refl _ w).alloc (Nat.le_refl _) _).alloc (by simp) _)
  have HN1 := Lib.hid (heap_new1 w (.cells (sceneC (.slice (some ⟨zb, zo, none⟩) es.length zc) cls now (.slice ua O.length uc)) 48) (.cells e.cells 45))
  have HN2 := Lib.hid (heap_new2 w (.cells (sceneC (.slice (some ⟨zb, zo, none⟩) es.length zc) cls now (.slice ua O.length uc)) 48) (.cells e.cells 45))
  have HS1 := Lib.hid (hs.bel HB1.out)
  have HATA : Hid (e.at (fun p => (w.alloc (.cells (sceneC (.slice (some ⟨zb, zo, none⟩) es.length zc) cls now (.slice ua O.length uc)) 48)).cell? p) zb (zo + i * 23)) := Lib.hid (fun j u hj => (hs.alloc _) _ _ (hat j u hj))
  have hsz : Hid (e.cells.size = 23) := Lib.hid rfl
  have hone := Lib.hid e.one
  clear h hO hs hza hze hzm hok hat hc HAT
  go_enter Tryz.func39, Tryz.ntmps39
  go_upto_region 2 with (first
    | ((with_reducible refine at_fload _ rfl ?_); go_must (refine wpList_fct_mid rfl _ rfl (by simp [Act.eval]) HATA.out ?_))
    | ((with_reducible refine at_fstore _ _ rfl ?_); go_must (refine wpList_fct_new rfl _ _ rfl rfl _ _ _ (by simp [Act.eval]) (by simp [Act.eval]) (by rfl) hsz.out hone.out ?_)))
  generalize World.alloc (World.alloc w _) _ = W1 at *
  clear HATA
  have HP0 : Hid (placesF c (c.D.take 0) e.f.story e.f.lang e.f.block = false) := Lib.hid rfl
  have HCT : Hid (∀ k (hk : k < es.length), placesF c (c.D.take (k + 1)) = placeF c (placesF c (c.D.take k)) es[k].f) := Lib.hid (fun k hk => by
    have hk2 : k < c.D.length := by rw [HCD.out, List.length_map]; exact hk
    rw [places_succ c hk2]
    congr 1
    simp only [HCD.out, List.getElem_map])
  go_wp2_with fail
  go_loopw [6, 7] (fun p i' wr => ∃ k : Nat, k ≤ i ∧ i' = .int .i64 k ∧ p = .bool (placesF c (c.D.take k) e.f.story e.f.lang e.f.block) ∧ Hid (Below W1.heap.size W1 wr)) (fun _ i' _ => i - (intOf i').toNat)
  case atStart => exact ⟨0, Nat.zero_le _, rfl, by rw [HP0.out], Lib.hid (Below.refl _ _)⟩
  case round =>
    obtain ⟨k, hk, rfl, rfl, HB⟩ := hrel
    obtain ⟨wo, rfl⟩ : ∃ wo, wo = wr := ⟨_, rfl⟩
    have hn1 := (HB.out.block _ (Go.Proofs.YtgbihmafmmeicaaGreatDoor.hlt HN1.out)).trans HN1.out
    have hn2 := (HB.out.block _ (Go.Proofs.YtgbihmafmmeicaaGreatDoor.hlt HN2.out)).trans HN2.out
    have HM1 := Lib.hid hn1
    have HM2 := Lib.hid hn2
    have HSO := Lib.hid (HS1.out.bel HB.out)
    clear hn1 hn2
    by_cases hki : k < i
    · have hke : k < es.length := by omega
      have hki2 : (k : Int) < i := by omega
      have hke2 : (k : Int) < es.length := by omega
      obtain ⟨hok, hat0⟩ := HZE.out k hke
      have HAT : Hid (es[k].at (fun p => wo.cell? p) zb (zo + k * 23)) := Lib.hid (fun j u hj => HSO.out _ _ (hat0 j u hj))
      have HPS := Lib.hid (HCT.out k hke)
      have HOK := Lib.hid hok
      clear hok hat0
      generalize es[k] = x at *
      generalize placesF c (c.D.take k) = pl at *
      have hsz2 : Hid (x.cells.size = 23) := Lib.hid rfl
      have hone2 := Lib.hid x.one
      have k0 : wo.cell? ⟨w.heap.size, 0, none⟩ = some (.slice (some ⟨zb, zo, none⟩) es.length zc) := blk_cell HM1.out 0
      have HNEW := Lib.hid (World.alloc_heap_new wo (.cells x.cells 45))
      have HN : Hid (Below wo.heap.size wo (wo.alloc (.cells x.cells 45))) := Lib.hid ((Below.refl _ wo).alloc (Nat.le_refl _) _)
      go_upto_region 7 with (first
        | ((with_reducible refine at_fload _ rfl ?_); go_must (refine wpList_fct_mid rfl _ rfl (by simp [Act.eval]) HAT.out ?_))
        | ((with_reducible refine at_fstore _ _ rfl ?_); go_must (refine wpList_fct_new rfl _ _ rfl rfl _ _ _ (by simp [Act.eval]) (by simp [Act.eval]) (by rfl) hsz2.out hone2.out ?_)))
      generalize hT : wo.heap.size = T at *
      generalize hW3 : wo.alloc (.cells x.cells 45) = w3 at *
      clear hW3 k0
      have HB3 : Hid (Below W1.heap.size W1 w3) := Lib.hid (HB.out.trans (HN.out.mono (by rw [← hT]; exact HB.out.size)))
      have HM13 : Hid (w3.heap[w.heap.size]? = some (.cells (sceneC (.slice (some ⟨zb, zo, none⟩) es.length zc) cls now (.slice ua O.length uc)) 48 (0, 0))) := Lib.hid ((HN.out.block _ (by rw [← hT]; exact Go.Proofs.YtgbihmafmmeicaaGreatDoor.hlt HM1.out)).trans HM1.out)
      have HM23 : Hid (w3.heap[w.heap.size + 1]? = some (.cells e.cells 45 (0, 0))) := Lib.hid ((HN.out.block _ (by rw [← hT]; exact Go.Proofs.YtgbihmafmmeicaaGreatDoor.hlt HM2.out)).trans HM2.out)
      have HS3 := Lib.hid (HS1.out.bel HB3.out)
      have d2 : w3.cell? ⟨T, 2, none⟩ = some (.int .i64 x.f.kind) := blk_cell HNEW.out 2
      have d3 : w3.cell? ⟨T, 3, none⟩ = some (.int .i64 x.f.story) := blk_cell HNEW.out 3
      have d4 : w3.cell? ⟨T, 4, none⟩ = some (.string x.f.lang) := blk_cell HNEW.out 4
      have g3 : w3.cell? ⟨w.heap.size + 1, 3, none⟩ = some (.int .i64 e.f.story) := blk_cell HM23.out 3
      have g4 : w3.cell? ⟨w.heap.size + 1, 4, none⟩ = some (.string e.f.lang) := blk_cell HM23.out 4
      clear HN HB HM1 HM2 HSO HAT
      by_cases h1 : x.f.kind = 1
      rotate_left
      · have HSK : Hid (placesF c (c.D.take (k + 1)) e.f.story e.f.lang e.f.block = pl e.f.story e.f.lang e.f.block) := Lib.hid (by rw [HPS.out, place_skip (.inl h1)])
        have b1 : (x.f.kind != 1) = true := by simpa using h1
        clear h1
        go_wp2_with fail
        go_roundw
        case rel => exact ⟨k + 1, by omega, by go_num, by rw [HSK.out], HB3⟩
        case measure => simp [intOf]; omega
      by_cases h2 : x.f.story = e.f.story
      rotate_left
      · have HSK : Hid (placesF c (c.D.take (k + 1)) e.f.story e.f.lang e.f.block = pl e.f.story e.f.lang e.f.block) := Lib.hid (by rw [HPS.out, place_skip (.inr (.inl h2))])
        have b2 : (x.f.story != e.f.story) = true := by simpa using h2
        rw [h1] at d2
        clear h1 h2
        go_wp2_with fail
        go_roundw
        case rel => exact ⟨k + 1, by omega, by go_num, by rw [HSK.out], HB3⟩
        case measure => simp [intOf]; omega
      by_cases h3 : x.f.lang = e.f.lang
      rotate_left
      · have HSK : Hid (placesF c (c.D.take (k + 1)) e.f.story e.f.lang e.f.block = pl e.f.story e.f.lang e.f.block) := Lib.hid (by rw [HPS.out, place_skip (.inr (.inr h3))])
        have b3 : (x.f.lang.toList != e.f.lang.toList) = true := by
          rw [bne_iff_ne]
          intro q
          exact h3 (str_ext (by rw [← ByteArray.toList_eq, ← ByteArray.toList_eq]; exact q))
        have b4 : (x.f.lang.toList == e.f.lang.toList) = false := by
          rw [beq_eq_false_iff_ne]
          intro q
          exact h3 (str_ext (by rw [← ByteArray.toList_eq, ← ByteArray.toList_eq]; exact q))
        rw [h1] at d2
        rw [h2] at d3
        clear h1 h2 h3
        go_wp2_with fail
        go_roundw
        case rel => exact ⟨k + 1, by omega, by go_num, by rw [HSK.out], HB3⟩
        case measure => simp [intOf]; omega
      obtain ⟨V, hV⟩ : ∃ V : Blk → Bool, V = fun b => c.isOpen x.f.story x.f.lab && c.isOpen x.f.story b.lab := ⟨_, rfl⟩
      have HSK : Hid (placesF c (c.D.take (k + 1)) e.f.story e.f.lang e.f.block = foldV V e.f.block (pl e.f.story e.f.lang e.f.block) x.f.blocks) := Lib.hid (by rw [HPS.out, ← h2, ← h3, place_fold h1, hV])
      have HV := Lib.hid hV
      rw [h1] at d2
      rw [h2] at d3
      rw [h3] at d4
      clear h1 h2 h3 hV
      generalize pl e.f.story e.f.lang e.f.block = p0 at *
      clear HPS
      obtain ⟨ba2, bc2, bb, bo, hbe, hbl, hbm, hba, hbt⟩ := HOK.out.parts.2.1.open_
      injection hbe with be1 be2 be3
      subst be1 be3
      have HBA := Lib.hid hba
      have HBT := Lib.hid hbt
      unfold maxLen at hbm
      have hbl2 : (x.f.blocks.length : Int) ≤ 9223372036854775807 := by omega
      clear hba hbt be2 hbl hbm
      go_wp2_with fail
      clear d2 d3 d4 g3 g4
      have HF0 : Hid (foldV V e.f.block p0 (x.f.blocks.take 0) = p0) := Lib.hid rfl
      go_loopw [6, 9] (fun p j' wr => ∃ j : Nat, j ≤ x.f.blocks.length ∧ j' = .int .i64 j ∧ p = .bool (foldV V e.f.block p0 (x.f.blocks.take j)) ∧ Hid (Below w3.heap.size w3 wr)) (fun _ j' _ => x.f.blocks.length - (intOf j').toNat)
      case atStart => exact ⟨0, Nat.zero_le _, rfl, by rw [HF0.out], Lib.hid (Below.refl _ _)⟩
      case round =>
        obtain ⟨j, hj, rfl, rfl, HJ⟩ := hrel
        obtain ⟨wp, rfl⟩ : ∃ wp, wp = wr := ⟨_, rfl⟩
        have HM1p : Hid (wp.heap[w.heap.size]? = some (.cells (sceneC (.slice (some ⟨zb, zo, none⟩) es.length zc) cls now (.slice ua O.length uc)) 48 (0, 0))) := Lib.hid ((HJ.out.block _ (Go.Proofs.YtgbihmafmmeicaaGreatDoor.hlt HM13.out)).trans HM13.out)
        have HM2p : Hid (wp.heap[w.heap.size + 1]? = some (.cells e.cells 45 (0, 0))) := Lib.hid ((HJ.out.block _ (Go.Proofs.YtgbihmafmmeicaaGreatDoor.hlt HM23.out)).trans HM23.out)
        have HTp : Hid (wp.heap[T]? = some (.cells x.cells 45 (0, 0))) := Lib.hid ((HJ.out.block _ (Go.Proofs.YtgbihmafmmeicaaGreatDoor.hlt HNEW.out)).trans HNEW.out)
        have HSp := Lib.hid (HS3.out.bel HJ.out)
        have d10 : wp.cell? ⟨T, 10, none⟩ = some (.slice x.ba x.f.blocks.length x.bc) := blk_cell HTp.out 10
        by_cases hjl : j < x.f.blocks.length
        · have hba := HBA.out (by omega)
          obtain ⟨⟨m0, m1, m2, m3, m4⟩, ⟨m5, m7, m8⟩, _, av, m6, hints⟩ := HBT.out j hjl
          obtain ⟨ao, acap, rfl⟩ := hints.slice
          have HMM := Lib.hid (And.intro m0 (And.intro m5 (And.intro m6 (And.intro m7 m8))))
          have HIN := Lib.hid hints
          have HFS := Lib.hid (foldV_succ V e.f.block p0 x.f.blocks j hjl)
          have hjl2 : (j : Int) < x.f.blocks.length := by omega
          generalize x.f.blocks[j] = y at *
          generalize foldV V e.f.block p0 (x.f.blocks.take j) = pj at *
          clear m0 m1 m2 m3 m4 m5 m6 m7 m8 hints
          obtain ⟨xb, hxb⟩ : ∃ xb, xb = x.ba := ⟨_, rfl⟩
          rw [hba] at d10
          have HD10 : Hid (∀ W2 : World, W2.heap[T]? = some (.cells x.cells 45 (0, 0)) → W2.cell? ⟨T, 10, none⟩ = some (.slice (some ⟨bb, bo, none⟩) x.f.blocks.length x.bc)) := Lib.hid (fun W2 h2 => by rw [← hba]; exact blk_cell h2 10)
          clear hxb xb hba
          have HSS : Hid (wp.drew.heap[T]? = some (.cells x.cells 45 (0, 0)) ∧ wp.drew.heap[w.heap.size + 1]? = some (.cells e.cells 45 (0, 0)) ∧ Sees mem wp.drew) := Lib.hid ⟨HTp.out, HM2p.out, HSp.out⟩
          go_upto_region 11 with fail
          refine wp_mix [mT, mT, mT, mT, mT, mT, mT, mT, mT] 1000 (fun W2 => W2.heap[T]? = some (.cells x.cells 45 (0, 0)) ∧ W2.heap[w.heap.size + 1]? = some (.cells e.cells 45 (0, 0)) ∧ Sees mem W2) (by kernel_rfl) (by kernel_rfl) HSS.out ?_
          clear d10
          refine wpMix_take (.pointer (some ⟨T, 10, none⟩)) (fun _ _ _ _ h => h) HSS.out (by rfl) (fun W2 hW => by go_simp) ?_
          simp only [Act.put, List.setIfInBounds_toArray, List.set_cons_zero, List.set_cons_succ]
          refine wpMix_take (.slice (some ⟨bb, bo, none⟩) x.f.blocks.length x.bc) (fun _ _ _ _ h => h) HSS.out (by rfl) (fun W2 hW => by have q0 := HD10.out _ hW.1; go_simp) ?_
          simp only [Act.put, List.setIfInBounds_toArray, List.set_cons_zero, List.set_cons_succ]
          refine wpMix_take (.int .i64 j) (fun _ _ _ _ h => h) HSS.out (by rfl) (fun W2 hW => by go_simp) ?_
          simp only [Act.put, List.setIfInBounds_toArray, List.set_cons_zero, List.set_cons_succ]
          refine wpMix_take (.pointer (some ⟨bb, bo + j * 9, none⟩)) (fun _ _ _ _ h => h) HSS.out (by rfl) (fun W2 hW => by go_simp) ?_
          simp only [Act.put, List.setIfInBounds_toArray, List.set_cons_zero, List.set_cons_succ]
          refine wpMix_take (.pointer (some ⟨bb, bo + j * 9, none⟩)) (fun _ _ _ _ h => h) HSS.out (by rfl) (fun W2 hW => by go_simp) ?_
          simp only [Act.put, List.setIfInBounds_toArray, List.set_cons_zero, List.set_cons_succ]
          refine wpMix_take (.int .i64 y.id) (fun _ _ _ _ h => h) HSS.out (by rfl) (fun W2 hW => by have q0 := hW.2.2 _ _ HMM.out.1; go_simp) ?_
          simp only [Act.put, List.setIfInBounds_toArray, List.set_cons_zero, List.set_cons_succ]
          refine wpMix_take (.pointer (some ⟨w.heap.size + 1, 16, none⟩)) (fun _ _ _ _ h => h) HSS.out (by rfl) (fun W2 hW => by go_simp) ?_
          simp only [Act.put, List.setIfInBounds_toArray, List.set_cons_zero, List.set_cons_succ]
          refine wpMix_take (.int .i64 e.f.block) (fun _ _ _ _ h => h) HSS.out (by rfl) (fun W2 hW => by have q0 : W2.cell? ⟨w.heap.size + 1, 16, none⟩ = some (.int .i64 e.f.block) := blk_cell hW.2.1 16; go_simp) ?_
          simp only [Act.put, List.setIfInBounds_toArray, List.set_cons_zero, List.set_cons_succ]
          refine wpMix_take (.bool (y.id == e.f.block)) (fun _ _ _ _ h => h) HSS.out (by rfl) (fun W2 hW => by go_simp) ?_
          simp only [Act.put, List.setIfInBounds_toArray, List.set_cons_zero, List.set_cons_succ]
          refine wpMix_nil ?_
          obtain ⟨wq, hwq⟩ : ∃ wq, wq = wp.drew := ⟨_, rfl⟩
          have HJq : Hid (Below w3.heap.size w3 wq) := Lib.hid (by rw [hwq]; exact HJ.out.drew)
          have HM1q : Hid (wq.heap[w.heap.size]? = some (.cells (sceneC (.slice (some ⟨zb, zo, none⟩) es.length zc) cls now (.slice ua O.length uc)) 48 (0, 0))) := Lib.hid (by rw [hwq]; exact HM1p.out)
          rw [← hwq] at HSS ⊢
          clear hwq HJ HM1p HM2p HTp HSp
          by_cases hid : y.id = e.f.block
          · have bq : (y.id == e.f.block) = true := by simpa using hid
            rw [if_pos hid] at HFS
            have HQ : Hid (V y = (c.isOpen x.f.story x.f.lab && c.ok x.f.story y.lab)) := Lib.hid (by rw [HV.out]; exact isOpen_both _ _ _ _)
            rw [HQ.out] at HFS
            have cO := Lib.hid (sceneOpen_any HF.out HOO.out cls now x HOK.out wq HSS.out.2.2)
            rw [← HCO.out] at cO
            have k0 : wq.cell? ⟨w.heap.size, 0, none⟩ = some (.slice (some ⟨zb, zo, none⟩) es.length zc) := blk_cell HM1q.out 0
            have k1 : wq.cell? ⟨w.heap.size, 1, none⟩ = some (.int .i64 cls) := blk_cell HM1q.out 1
            have k2 : wq.cell? ⟨w.heap.size, 2, none⟩ = some (.int .i64 now) := blk_cell HM1q.out 2
            have k3 : wq.cell? ⟨w.heap.size, 3, none⟩ = some (.slice ua O.length uc) := blk_cell HM1q.out 3
            clear hid HQ
            go_wp2_with ((with_reducible refine at_fload _ rfl ?_); go_must (refine wpList_fct_load rfl _ rfl T (by simp [Act.eval]) _ HSS.out.1 hsz2.out ?_))
            refine cO.out.mono ?_
            rintro e1 w4 ⟨rfl, hb⟩
            have HJ4 := Lib.hid (HJq.out.trans (hb.mono HJq.out.size))
            have HS4 : Hid (w4.drew.heap[w.heap.size]? = some (.cells (sceneC (.slice (some ⟨zb, zo, none⟩) es.length zc) cls now (.slice ua O.length uc)) 48 (0, 0)) ∧ w4.drew.heap[T]? = some (.cells x.cells 45 (0, 0)) ∧ Sees mem w4.drew) := Lib.hid ⟨(hb.block _ (Go.Proofs.YtgbihmafmmeicaaGreatDoor.hlt HM1q.out)).trans HM1q.out, (hb.block _ (Go.Proofs.YtgbihmafmmeicaaGreatDoor.hlt HSS.out.1)).trans HSS.out.1, HSS.out.2.2.bel hb.drew⟩
            have cW := Lib.hid (sceneAllows_any HF.out HOO.out cls now x.f.story y.lab _ HIN.out w4.drew HS4.out.2.2)
            have HCK : Hid (c.ok x.f.story y.lab = allows y.lab cls now O (apprF (es.map FctE.f) x.f.story)) := Lib.hid (by rw [HCO.out]; rfl)
            rw [← HCK.out] at cW
            clear hb k0 k1 k2 k3 cO HSS HJq HM1q HCK
            generalize c.isOpen x.f.story x.f.lab = q at *
            generalize c.ok x.f.story y.lab = q2 at *
            go_upto_region 13 with fail
            cases q with
            | false =>
              refine wp_mix [mT, mT, mT, mT, mT, mT, mT, mT, mT, mT, mT, mT, mT, mF] 1000 (fun W2 => W2.heap[w.heap.size]? = some (.cells (sceneC (.slice (some ⟨zb, zo, none⟩) es.length zc) cls now (.slice ua O.length uc)) 48 (0, 0)) ∧ W2.heap[T]? = some (.cells x.cells 45 (0, 0)) ∧ Sees mem W2) (by kernel_rfl) (by kernel_rfl) HS4.out ?_
              refine wpMix_take (.bool false) (fun _ _ _ _ h => h) HS4.out (by rfl) (fun W2 hW => by go_simp) ?_
              simp only [Act.put, List.setIfInBounds_toArray, List.set_cons_zero, List.set_cons_succ]
              refine wpMix_take (.bool false) (fun _ _ _ _ h => h) HS4.out (by rfl) (fun W2 hW => by go_simp) ?_
              simp only [Act.put, List.setIfInBounds_toArray, List.set_cons_zero, List.set_cons_succ]
              refine wpMix_skip (fun _ _ _ _ h => h) HS4.out (by rfl) ?_
              simp only [Act.put, List.setIfInBounds_toArray, List.set_cons_zero, List.set_cons_succ]
              refine wpMix_skip (fun _ _ _ _ h => h) HS4.out (by rfl) ?_
              simp only [Act.put, List.setIfInBounds_toArray, List.set_cons_zero, List.set_cons_succ]
              refine wpMix_skip (fun _ _ _ _ h => h) HS4.out (by rfl) ?_
              simp only [Act.put, List.setIfInBounds_toArray, List.set_cons_zero, List.set_cons_succ]
              refine wpMix_skip (fun _ _ _ _ h => h) HS4.out (by rfl) ?_
              simp only [Act.put, List.setIfInBounds_toArray, List.set_cons_zero, List.set_cons_succ]
              refine wpMix_skip (fun _ _ _ _ h => h) HS4.out (by rfl) ?_
              simp only [Act.put, List.setIfInBounds_toArray, List.set_cons_zero, List.set_cons_succ]
              refine wpMix_skip (fun _ _ _ _ h => h) HS4.out (by rfl) ?_
              simp only [Act.put, List.setIfInBounds_toArray, List.set_cons_zero, List.set_cons_succ]
              refine wpMix_skip (fun _ _ _ _ h => h) HS4.out (by rfl) ?_
              simp only [Act.put, List.setIfInBounds_toArray, List.set_cons_zero, List.set_cons_succ]
              refine wpMix_skip (fun _ _ _ _ h => h) HS4.out (by rfl) ?_
              simp only [Act.put, List.setIfInBounds_toArray, List.set_cons_zero, List.set_cons_succ]
              refine wpMix_skip (fun _ _ _ _ h => h) HS4.out (by rfl) ?_
              simp only [Act.put, List.setIfInBounds_toArray, List.set_cons_zero, List.set_cons_succ]
              refine wpMix_skip (fun _ _ _ _ h => h) HS4.out (by rfl) ?_
              simp only [Act.put, List.setIfInBounds_toArray, List.set_cons_zero, List.set_cons_succ]
              refine wpMix_take (.bool false) (fun _ _ _ _ h => h) HS4.out (by rfl) (fun W2 hW => by go_simp) ?_
              simp only [Act.put, List.setIfInBounds_toArray, List.set_cons_zero, List.set_cons_succ]
              refine wpMix_step (fun K hK => ?_); go_simp; refine hK _ _ HS4.out ?_; clear hK K
              refine wpMix_nil ?_
              go_wp2_with fail
              go_roundw
              case rel => exact ⟨j + 1, by omega, by go_num, by rw [HFS.out]; rfl, Lib.hid HJ4.out.drew⟩
              case measure => simp [intOf]; omega
            | true =>
              refine wp_mix [mT, mT, mT, mT, mT, mT, mT, mT, mT, mT, mT, mF, mF, mF] 1000 (fun W2 => W2.heap[w.heap.size]? = some (.cells (sceneC (.slice (some ⟨zb, zo, none⟩) es.length zc) cls now (.slice ua O.length uc)) 48 (0, 0)) ∧ W2.heap[T]? = some (.cells x.cells 45 (0, 0)) ∧ Sees mem W2) (by kernel_rfl) (by kernel_rfl) HS4.out ?_
              refine wpMix_take (.bool true) (fun _ _ _ _ h => h) HS4.out (by rfl) (fun W2 hW => by go_simp) ?_
              simp only [Act.put, List.setIfInBounds_toArray, List.set_cons_zero, List.set_cons_succ]
              refine wpMix_take (.bool true) (fun _ _ _ _ h => h) HS4.out (by rfl) (fun W2 hW => by go_simp) ?_
              simp only [Act.put, List.setIfInBounds_toArray, List.set_cons_zero, List.set_cons_succ]
              refine wpMix_take (.agg (sceneC (.slice (some ⟨zb, zo, none⟩) es.length zc) cls now (.slice ua O.length uc))) (fun _ _ _ _ h => h) HS4.out (by rfl) (fun W2 hW => by have q0 : W2.cell? ⟨w.heap.size, 0, none⟩ = some (.slice (some ⟨zb, zo, none⟩) es.length zc) := blk_cell hW.1 0; have q1 : W2.cell? ⟨w.heap.size, 1, none⟩ = some (.int .i64 cls) := blk_cell hW.1 1; have q2 : W2.cell? ⟨w.heap.size, 2, none⟩ = some (.int .i64 now) := blk_cell hW.1 2; have q3 : W2.cell? ⟨w.heap.size, 3, none⟩ = some (.slice ua O.length uc) := blk_cell hW.1 3; go_simp) ?_
              simp only [Act.put, List.setIfInBounds_toArray, List.set_cons_zero, List.set_cons_succ]
              refine wpMix_take (.pointer (some ⟨T, 3, none⟩)) (fun _ _ _ _ h => h) HS4.out (by rfl) (fun W2 hW => by go_simp) ?_
              simp only [Act.put, List.setIfInBounds_toArray, List.set_cons_zero, List.set_cons_succ]
              refine wpMix_take (.int .i64 x.f.story) (fun _ _ _ _ h => h) HS4.out (by rfl) (fun W2 hW => by have q0 : W2.cell? ⟨T, 3, none⟩ = some (.int .i64 x.f.story) := blk_cell hW.2.1 3; go_simp) ?_
              simp only [Act.put, List.setIfInBounds_toArray, List.set_cons_zero, List.set_cons_succ]
              refine wpMix_take (.pointer (some ⟨T, 10, none⟩)) (fun _ _ _ _ h => h) HS4.out (by rfl) (fun W2 hW => by go_simp) ?_
              simp only [Act.put, List.setIfInBounds_toArray, List.set_cons_zero, List.set_cons_succ]
              refine wpMix_take (.slice (some ⟨bb, bo, none⟩) x.f.blocks.length x.bc) (fun _ _ _ _ h => h) HS4.out (by rfl) (fun W2 hW => by have q0 := HD10.out _ hW.2.1; go_simp) ?_
              simp only [Act.put, List.setIfInBounds_toArray, List.set_cons_zero, List.set_cons_succ]
              refine wpMix_take (.int .i64 j) (fun _ _ _ _ h => h) HS4.out (by rfl) (fun W2 hW => by go_simp) ?_
              simp only [Act.put, List.setIfInBounds_toArray, List.set_cons_zero, List.set_cons_succ]
              refine wpMix_take (.pointer (some ⟨bb, bo + j * 9, none⟩)) (fun _ _ _ _ h => h) HS4.out (by rfl) (fun W2 hW => by go_simp) ?_
              simp only [Act.put, List.setIfInBounds_toArray, List.set_cons_zero, List.set_cons_succ]
              refine wpMix_take (.pointer (some ⟨bb, bo + j * 9 + 5, none⟩)) (fun _ _ _ _ h => h) HS4.out (by rfl) (fun W2 hW => by go_simp) ?_
              simp only [Act.put, List.setIfInBounds_toArray, List.set_cons_zero, List.set_cons_succ]
              refine wpMix_take (.agg (labCells y.lab (.slice ao y.lab.after.length acap))) (fun _ _ _ _ h => h) HS4.out (by rfl) (fun W2 hW => by have q5 := hW.2.2 _ _ HMM.out.2.1; have q6 := hW.2.2 _ _ HMM.out.2.2.1; have q7 := hW.2.2 _ _ HMM.out.2.2.2.1; have q8 := hW.2.2 _ _ HMM.out.2.2.2.2; go_simp) ?_
              simp only [Act.put, List.setIfInBounds_toArray, List.set_cons_zero, List.set_cons_succ]
              refine wpMix_step (fun K hK => ?_)
              go_simp
              refine cW.out.mono ?_
              rintro e1 w5 ⟨rfl, hb⟩
              dsimp only
              have HS5 : Hid (w5.heap[w.heap.size]? = some (.cells (sceneC (.slice (some ⟨zb, zo, none⟩) es.length zc) cls now (.slice ua O.length uc)) 48 (0, 0)) ∧ w5.heap[T]? = some (.cells x.cells 45 (0, 0)) ∧ Sees mem w5) := Lib.hid ⟨(hb.block _ (Go.Proofs.YtgbihmafmmeicaaGreatDoor.hlt HS4.out.1)).trans HS4.out.1, (hb.block _ (Go.Proofs.YtgbihmafmmeicaaGreatDoor.hlt HS4.out.2.1)).trans HS4.out.2.1, HS4.out.2.2.bel hb⟩
              have HJ5 := Lib.hid (HJ4.out.drew.trans (hb.mono HJ4.out.drew.size))
              refine hK _ _ HS5.out ?_
              clear hK K hb
              refine wpMix_step (fun K hK => ?_); go_simp; refine hK _ _ HS5.out ?_; clear hK K
              refine wpMix_step (fun K hK => ?_); go_simp; refine hK _ _ HS5.out ?_; clear hK K
              refine wpMix_nil ?_
              go_wp2_with fail
              go_roundw
              case rel => exact ⟨j + 1, by omega, by go_num, by rw [HFS.out]; rfl, HJ5⟩
              case measure => simp [intOf]; omega
          · have bq : (y.id == e.f.block) = false := by simpa using hid
            rw [if_neg hid] at HFS
            clear hid
            go_wp2_with fail
            go_roundw
            case rel => exact ⟨j + 1, by omega, by go_num, by rw [HFS.out], HJq⟩
            case measure => simp [intOf]; omega
        · obtain rfl : j = x.f.blocks.length := by omega
          have HFA : Hid (foldV V e.f.block p0 (x.f.blocks.take x.f.blocks.length) = foldV V e.f.block p0 x.f.blocks) := Lib.hid (by rw [List.take_length])
          have HBE := Lib.hid (HB3.out.trans (HJ.out.mono HB3.out.size))
          go_wp2_with fail
          go_roundw
          case rel => exact ⟨k + 1, by omega, by go_num, by rw [HSK.out, HFA.out], HBE⟩
          case measure => simp [intOf]; omega
    · obtain rfl : k = i := by omega
      have hki2 : ¬ (k : Int) < k := by omega
      have HBE := Lib.hid (HB1.out.trans (HB.out.mono HB1.out.size))
      have cS := Lib.hid (shown_any HF.out HOO.out cls now e.f.story wo HSO.out)
      have HSH : Hid (c.shown e.f.story = shownD (es.map FctE.f) O e.f.story) := Lib.hid (by rw [HCO.out]; rfl)
      rw [← HSH.out] at cS
      have k0 : wo.cell? ⟨w.heap.size, 0, none⟩ = some (.slice (some ⟨zb, zo, none⟩) es.length zc) := blk_cell HM1.out 0
      have k1 : wo.cell? ⟨w.heap.size, 1, none⟩ = some (.int .i64 cls) := blk_cell HM1.out 1
      have k2 : wo.cell? ⟨w.heap.size, 2, none⟩ = some (.int .i64 now) := blk_cell HM1.out 2
      have k3 : wo.cell? ⟨w.heap.size, 3, none⟩ = some (.slice ua O.length uc) := blk_cell HM1.out 3
      have g3 : wo.cell? ⟨w.heap.size + 1, 3, none⟩ = some (.int .i64 e.f.story) := blk_cell HM2.out 3
      have HRES : Hid (∀ sh pp, c.shown e.f.story = sh → placesF c (c.D.take k) e.f.story e.f.lang e.f.block = pp → (sh && pp) = (c.shown e.f.story && placesF c (c.D.take k) e.f.story e.f.lang e.f.block)) := Lib.hid (fun sh pp h1 h2 => by rw [h1, h2])
      generalize hpp : placesF c (c.D.take k) e.f.story e.f.lang e.f.block = pp
      generalize hsh : c.shown e.f.story = sh at cS
      have HRS := Lib.hid (HRES.out _ _ hsh hpp)
      clear hpp hsh HRES HSH
      go_wp2_with fail
      refine cS.out.mono ?_
      rintro e1 w4 ⟨rfl, hb⟩
      have HB4 := Lib.hid (HBE.out.trans (hb.mono HBE.out.size))
      clear hb k0 k1 k2 k3 g3 cS
      cases sh <;> (go_wp2_with fail; go_ret; exact ⟨ret_bool HRS.out, HB4.out⟩)
end Go.Proofs.YtgbihmafmmeicaaGreatDoor
namespace Go.Proofs.YtgbihmafmmeicaaGreatDoor
open Go.RowKit Mg Go.Shelf

noncomputable def memN (mem : Addr → Option Value) (B : Nat) (W : World) (a : Addr) : Option Value := if a.block < B then mem a else W.cell? a
theorem memN_old {mem : Addr → Option Value} {w W : World} (hs : Sees mem w) : ∀ a u, mem a = some u → memN mem w.heap.size W a = some u := fun a u h => by
  unfold memN
  rw [if_pos (World.block_lt_of_cell? _ _ (hs a u h))]; exact h
theorem memN_new {mem : Addr → Option Value} {B : Nat} {W : World} {a : Addr} {u : Value} (hb : B ≤ a.block) (h : W.cell? a = some u) : memN mem B W a = some u := by
  unfold memN
  rw [if_neg (by omega)]; exact h
structure OW (w : World) (S A : Array Value) (W : World) : Prop where
  h0 : W.heap[w.heap.size]? = some (.cells S 48 (0, 0))
  h1 : W.heap[w.heap.size + 1]? = some (.cells zeroFct 45 (0, 0))
  h2 : W.heap[w.heap.size + 1 + 1]? = some (.cells A 45 (0, 0))
  b : Below w.heap.size w W
section
variable {w W W' : World} {S A : Array Value}
theorem OW.new (w : World) (S A : Array Value) : OW w S A (((w.alloc (.cells S 48)).alloc (.cells zeroFct 45)).alloc (.cells A 45)) :=
  ⟨(Below.heap_alloc _ _ _ (by simp <;> omega)).trans (heap_new1 w _ _), (Below.heap_alloc _ _ _ (by simp)).trans (heap_new2 w _ _), by have h := World.alloc_heap_new ((w.alloc (.cells S 48)).alloc (.cells zeroFct 45)) (.cells A 45); simpa using h,
    (((Below.refl _ w).alloc (Nat.le_refl _) _).alloc (by simp) _).alloc (by simp <;> omega) _⟩
theorem OW.lt (h : OW w S A W) : w.heap.size + 1 + 1 < W.heap.size := (Array.getElem?_eq_some_iff.1 h.h2).1
theorem OW.bel (h : OW w S A W) (hb : Below W.heap.size W W') : OW w S A W' :=
  ⟨(hb.block _ (by have := h.lt; omega)).trans h.h0, (hb.block _ (by have := h.lt; omega)).trans h.h1, (hb.block _ h.lt).trans h.h2, h.b.trans (hb.mono h.b.size)⟩
theorem OW.drew (h : OW w S A W) : OW w S A W.drew := ⟨h.h0, h.h1, h.h2, h.b.drew⟩
theorem OW.upd {F : Nat → Prop} (h : OW w S A W) (hu : Upd F W W') (hF : ∀ k, F k → w.heap.size + 1 + 1 < k) : OW w S A W' := by
  have hl := h.lt
  exact ⟨(hu.block _ (by omega) (fun e => by have := hF _ e; omega)).trans h.h0, (hu.block _ (by omega) (fun e => by have := hF _ e; omega)).trans h.h1, (hu.block _ hl (fun e => by have := hF _ e; omega)).trans h.h2, h.b.trans (hu.below (fun k e => by have := hF _ e; omega) (by omega))⟩
theorem OW.set2 (h : OW w S A W) (j : Nat) (v : Value) : OW w S (A.setIfInBounds j v) (W.setCell ⟨w.heap.size + 1 + 1, j, none⟩ v) := by
  rw [setCell_eq_setRow W _ j A 45 (0, 0) v h.h2]
  exact ⟨(setRow_other _ _ _ _ (by omega)).trans h.h0, (setRow_other _ _ _ _ (by omega)).trans h.h1, setRow_heap _ _ _ _ _ _ h.h2, below_setRow h.b (by omega) _⟩
theorem OW.c0 (h : OW w S A W) (j : Nat) : W.cell? ⟨w.heap.size, j, none⟩ = S[j]? := blk_cell h.h0 j
theorem OW.c2 (h : OW w S A W) (j : Nat) : W.cell? ⟨w.heap.size + 1 + 1, j, none⟩ = A[j]? := blk_cell h.h2 j
theorem OW.f2 (h : OW w S A W) (j : Nat) : W.frozen? ⟨w.heap.size + 1 + 1, j, none⟩ = false := blk_free h.h2 j
end
def OthPost (mem : Addr → Option Value) (f : Fct) (w : World) (r : Ending) (w' : World) : Prop :=
  ∃ y : FctE, r = .returned (.agg y.cells) ∧ y.f = f ∧ y.ok (memN mem w.heap.size w') ∧ Below w.heap.size w w'
theorem fe_text (e : FctE) (t : ByteArray) : (⟨{ e.f with text := t }, e.ta, e.tc, e.ba, e.bc, e.aa, e.ac⟩ : FctE).cells = e.cells.setIfInBounds 18 (.string t) := rfl
theorem fe_sent (e : FctE) (t : Int) : (⟨{ e.f with sentence := t }, e.ta, e.tc, e.ba, e.bc, e.aa, e.ac⟩ : FctE).cells = e.cells.setIfInBounds 17 (.int .i64 t) := rfl
theorem text_ok {mem : Addr → Option Value} {e : FctE} (h : e.ok mem) (n : Int) : (⟨{ e.f with text := wordF n }, e.ta, e.tc, e.ba, e.bc, e.aa, e.ac⟩ : FctE).ok mem :=
  ⟨⟨h.fok.i0, h.fok.i1, h.fok.i2, h.fok.i3, h.fok.s4, h.fok.i5, h.fok.i6, h.fok.s7, h.fok.s8, h.fok.i11, h.fok.i13, h.fok.i14, h.fok.i15, h.fok.i16, h.fok.i17, word_ok n, h.fok.s19, h.fok.i20, h.fok.i21, h.fok.i22, h.fok.bl⟩, h.parts⟩
theorem sent_ok {mem : Addr → Option Value} {e : FctE} (h : e.ok mem) {n : Int} (hn : okI n) : (⟨{ e.f with sentence := n }, e.ta, e.tc, e.ba, e.bc, e.aa, e.ac⟩ : FctE).ok mem :=
  ⟨⟨h.fok.i0, h.fok.i1, h.fok.i2, h.fok.i3, h.fok.s4, h.fok.i5, h.fok.i6, h.fok.s7, h.fok.s8, h.fok.i11, h.fok.i13, h.fok.i14, h.fok.i15, h.fok.i16, hn, h.fok.s18, h.fok.s19, h.fok.i20, h.fok.i21, h.fok.i22, h.fok.bl⟩, h.parts⟩
set_option maxRecDepth 100000 in
set_option maxHeartbeats 4000000 in
theorem other_same_any {mem : Addr → Option Value} {v u : Value} {es : List FctE} {O : List Int} (h : EsM mem v es) (hO : IntsM mem u O) (cls now : Int) (i : Nat) (hi : i < es.length) (n : Int) (_hn : okI n) (hk : es[i].f.kind ≠ 1 ∧ es[i].f.kind ≠ 4 ∧ es[i].f.kind ≠ 5) (w : World) (hs : Sees mem w) :
    Calls Tryz.prog 22 #[.agg (sceneC v cls now u), .int .i64 (i : Nat), .int .i64 n] w (OthPost mem (otherF ⟨es.map FctE.f, cls, now, O⟩ (placesF ⟨es.map FctE.f, cls, now, O⟩ ((es.map FctE.f).take i)) n es[i].f) w) := by
  rw [other_same hk]
  obtain ⟨za, zc, zb, zo, rfl, hzm, hza, hze⟩ := h.open_
  obtain rfl := hza (by omega)
  unfold maxLen at hzm
  have hnl : (es.length : Int) ≤ 9223372036854775807 := by omega
  have hil : (i : Int) < es.length := by omega
  obtain ⟨hok, hat⟩ := hze i hi
  have HOK := Lib.hid hok
  generalize hee : es[i] = e at *
  clear hee
  obtain ⟨ua, uc, rfl⟩ := hO.slice
  have HS := Lib.hid hs
  have HATA : Hid (e.at (fun p => ((w.alloc (.cells (sceneC (.slice (some ⟨zb, zo, none⟩) es.length zc) cls now (.slice ua O.length uc)) 48)).alloc (.cells zeroFct 45)).cell? p) zb (zo + i * 23)) := Lib.hid (fun j u hj => ((hs.alloc _).alloc _) _ _ (hat j u hj))
  have hsz : Hid (e.cells.size = 23) := Lib.hid rfl
  have hone := Lib.hid e.one
  clear h hO hs hza hze hzm hok hat
  go_enter Tryz.func22, Tryz.ntmps22
  go_upto_region 2 with (first
    | ((with_reducible refine at_fload _ rfl ?_); go_must (refine wpList_fct_mid rfl _ rfl (by simp [Act.eval]) HATA.out ?_))
    | ((with_reducible refine at_fstore _ _ rfl ?_); go_must (refine wpList_fct_new rfl _ _ rfl rfl _ _ _ (by simp [Act.eval]) (by simp [Act.eval]) (by rfl) hsz.out hone.out ?_)))
  generalize hW : World.alloc (World.alloc (World.alloc w _) _) _ = W1
  have H1 : Hid (OW w (sceneC (.slice (some ⟨zb, zo, none⟩) es.length zc) cls now (.slice ua O.length uc)) e.cells W1) := Lib.hid (by rw [← hW]; exact OW.new w _ _)
  clear hW HATA
  have d2 : W1.cell? ⟨w.heap.size + 1 + 1, 2, none⟩ = some (.int .i64 e.f.kind) := H1.out.c2 2
  have b1 : (e.f.kind == 1) = false := by simpa using hk.1
  have b4 : (e.f.kind == 4) = false := by simpa using hk.2.1
  have b5 : (e.f.kind == 5) = false := by simpa using hk.2.2
  clear hk
  go_wp2_with (first
    | ((with_reducible refine at_fload _ rfl ?_); go_must (refine wpList_fct_load rfl _ rfl (w.heap.size + 1 + 1) (by simp [Act.eval]) _ H1.out.h2 hsz.out ?_))
    | ((with_reducible refine at_fstore _ _ rfl ?_); go_must (refine wpList_store_rowTo rfl 45 _ _ rfl rfl (w.heap.size + 1) _ (by simp [Act.eval, Act.put]) (by simp [Act.eval, Act.put]) 45 _ H1.out.h1 (by rw [fct_size, hsz.out]) (by rw [hsz.out]; rfl) hone.out ?_)))
  obtain ⟨fs, hun⟩ := fct_under
  refine bodyPost_ret (results_cell_row (p := 6) (ty := 45) (by kernel_rfl) _ _ (w.heap.size + 1) _ e.cells (0, 0) _ (by simp [Act.put]) (setRow_heap _ _ _ _ _ _ H1.out.h1) hun rfl (by rw [fct_size, hsz.out])) rfl ?_
  have hb : Below w.heap.size w (W1.setRow (w.heap.size + 1) e.cells) := below_setRow H1.out.b (by omega) _
  exact ⟨e, rfl, rfl, HOK.out.mono (memN_old HS.out), hb⟩
set_option maxRecDepth 100000 in
set_option maxHeartbeats 4000000 in
theorem other5_any {mem : Addr → Option Value} {v u : Value} {es : List FctE} {O : List Int} (h : EsM mem v es) (hO : IntsM mem u O) (cls now : Int) (i : Nat) (hi : i < es.length) (n : Int) (hn : okI n) (hk : es[i].f.kind = 5) (w : World) (hs : Sees mem w) :
    Calls Tryz.prog 22 #[.agg (sceneC v cls now u), .int .i64 (i : Nat), .int .i64 n] w (OthPost mem (otherF ⟨es.map FctE.f, cls, now, O⟩ (placesF ⟨es.map FctE.f, cls, now, O⟩ ((es.map FctE.f).take i)) n es[i].f) w) := by
  obtain ⟨za, zc, zb, zo, rfl, hzm, hza, hze⟩ := h.open_
  obtain rfl := hza (by omega)
  unfold maxLen at hzm
  have hnl : (es.length : Int) ≤ 9223372036854775807 := by omega
  have hil : (i : Int) < es.length := by omega
  have cS := Lib.hid (fun W (hW : Sees mem W) => shown_any h.facts hO cls now es[i].f.story W hW)
  have HOF : Hid (otherF ⟨es.map FctE.f, cls, now, O⟩ (placesF ⟨es.map FctE.f, cls, now, O⟩ ((es.map FctE.f).take i)) n es[i].f = if shownD (es.map FctE.f) O es[i].f.story = true then es[i].f else { es[i].f with text := wordF n }) := Lib.hid (by
    unfold otherF
    rw [if_neg (by omega), if_neg (by omega), if_pos hk]
    rfl)
  rw [HOF.out]
  obtain ⟨F', hF'⟩ : ∃ F', F' = if shownD (es.map FctE.f) O es[i].f.story = true then es[i].f else { es[i].f with text := wordF n } := ⟨_, rfl⟩
  rw [← hF']
  have HF' := Lib.hid hF'
  clear hF'
  have cW := Lib.hid (fun W => word_any n hn W)
  obtain ⟨hok, hat⟩ := hze i hi
  have HOK := Lib.hid hok
  generalize hee : es[i] = e at *
  clear hee
  obtain ⟨ua, uc, rfl⟩ := hO.slice
  have HS := Lib.hid hs
  have HATA : Hid (e.at (fun p => ((w.alloc (.cells (sceneC (.slice (some ⟨zb, zo, none⟩) es.length zc) cls now (.slice ua O.length uc)) 48)).alloc (.cells zeroFct 45)).cell? p) zb (zo + i * 23)) := Lib.hid (fun j u hj => ((hs.alloc _).alloc _) _ _ (hat j u hj))
  have hsz : Hid (e.cells.size = 23) := Lib.hid rfl
  have hone := Lib.hid e.one
  clear h hO hs hza hze hzm hok hat
  go_enter Tryz.func22, Tryz.ntmps22
  go_upto_region 2 with (first
    | ((with_reducible refine at_fload _ rfl ?_); go_must (refine wpList_fct_mid rfl _ rfl (by simp [Act.eval]) HATA.out ?_))
    | ((with_reducible refine at_fstore _ _ rfl ?_); go_must (refine wpList_fct_new rfl _ _ rfl rfl _ _ _ (by simp [Act.eval]) (by simp [Act.eval]) (by rfl) hsz.out hone.out ?_)))
  generalize hW : World.alloc (World.alloc (World.alloc w _) _) _ = W1
  have H1 : Hid (OW w (sceneC (.slice (some ⟨zb, zo, none⟩) es.length zc) cls now (.slice ua O.length uc)) e.cells W1) := Lib.hid (by rw [← hW]; exact OW.new w _ _)
  clear hW HATA
  have d2 : W1.cell? ⟨w.heap.size + 1 + 1, 2, none⟩ = some (.int .i64 e.f.kind) := H1.out.c2 2
  rw [hk] at d2
  clear hk HOF
  have k0 : W1.cell? ⟨w.heap.size, 0, none⟩ = some (.slice (some ⟨zb, zo, none⟩) es.length zc) := H1.out.c0 0
  have k1 : W1.cell? ⟨w.heap.size, 1, none⟩ = some (.int .i64 cls) := H1.out.c0 1
  have k2 : W1.cell? ⟨w.heap.size, 2, none⟩ = some (.int .i64 now) := H1.out.c0 2
  have k3 : W1.cell? ⟨w.heap.size, 3, none⟩ = some (.slice ua O.length uc) := H1.out.c0 3
  have d3 : W1.cell? ⟨w.heap.size + 1 + 1, 3, none⟩ = some (.int .i64 e.f.story) := H1.out.c2 3
  go_wp2_with fail
  refine (cS.out W1 (HS.out.bel H1.out.b)).mono ?_
  rintro e1 W2 ⟨rfl, hb⟩
  have H2 := Lib.hid (H1.out.bel hb)
  clear hb k0 k1 k2 k3 d2 d3 cS H1
  generalize shownD (es.map FctE.f) O e.f.story = q at *
  cases q with
  | true =>
    have HE : Hid (F' = e.f) := Lib.hid (by rw [HF'.out]; rfl)
    go_wp2_with (first
      | ((with_reducible refine at_fload _ rfl ?_); go_must (refine wpList_fct_load rfl _ rfl (w.heap.size + 1 + 1) (by simp [Act.eval]) _ H2.out.h2 hsz.out ?_))
      | ((with_reducible refine at_fstore _ _ rfl ?_); go_must (refine wpList_store_rowTo rfl 45 _ _ rfl rfl (w.heap.size + 1) _ (by simp [Act.eval, Act.put]) (by simp [Act.eval, Act.put]) 45 _ H2.out.h1 (by rw [fct_size, hsz.out]) (by rw [hsz.out]; rfl) hone.out ?_)))
    obtain ⟨fs, hun⟩ := fct_under
    refine bodyPost_ret (results_cell_row (p := 6) (ty := 45) (by kernel_rfl) _ _ (w.heap.size + 1) _ e.cells (0, 0) _ (by simp [Act.put]) (setRow_heap _ _ _ _ _ _ H2.out.h1) hun rfl (by rw [fct_size, hsz.out])) rfl ?_
    have hb : Below w.heap.size w (W2.setRow (w.heap.size + 1) e.cells) := below_setRow H2.out.b (by omega) _
    exact ⟨e, rfl, HE.out.symm, HOK.out.mono (memN_old HS.out), hb⟩
  | false =>
    have HE : Hid (F' = { e.f with text := wordF n }) := Lib.hid (by rw [HF'.out]; rfl)
    go_wp2_with fail
    refine (cW.out W2).mono ?_
    rintro e1 W3 ⟨rfl, hb⟩
    have H3 := Lib.hid (H2.out.bel hb)
    have d18 : W3.cell? ⟨w.heap.size + 1 + 1, 18, none⟩ = some (.string e.f.text) := H3.out.c2 18
    have f18 := H3.out.f2 18
    have hty := H3.out.set2 18 (.string (wordF n))
    rw [← fe_text] at hty
    have H4 := Lib.hid hty
    obtain ⟨y, hy⟩ : ∃ y : FctE, y = ⟨{ e.f with text := wordF n }, e.ta, e.tc, e.ba, e.bc, e.aa, e.ac⟩ := ⟨_, rfl⟩
    have HY := Lib.hid hy
    rw [← hy] at H4
    have hsz2 : Hid (y.cells.size = 23) := Lib.hid rfl
    have hone2 := Lib.hid y.one
    clear hb hty hy
    go_upto_region 27 with fail
    generalize World.setCell W3 _ _ = W4 at *
    clear d18 f18
    go_wp2_with (first
      | ((with_reducible refine at_fload _ rfl ?_); go_must (refine wpList_fct_load rfl _ rfl (w.heap.size + 1 + 1) (by simp [Act.eval]) _ H4.out.h2 hsz2.out ?_))
      | ((with_reducible refine at_fstore _ _ rfl ?_); go_must (refine wpList_store_rowTo rfl 45 _ _ rfl rfl (w.heap.size + 1) _ (by simp [Act.eval, Act.put]) (by simp [Act.eval, Act.put]) 45 _ H4.out.h1 (by rw [fct_size, hsz2.out]) (by rw [hsz2.out]; rfl) hone2.out ?_)))
    obtain ⟨fs, hun⟩ := fct_under
    refine bodyPost_ret (results_cell_row (p := 6) (ty := 45) (by kernel_rfl) _ _ (w.heap.size + 1) _ y.cells (0, 0) _ (by simp [Act.put]) (setRow_heap _ _ _ _ _ _ H4.out.h1) hun rfl (by rw [fct_size, hsz2.out])) rfl ?_
    have hb : Below w.heap.size w (W4.setRow (w.heap.size + 1) y.cells) := below_setRow H4.out.b (by omega) _
    exact ⟨y, rfl, by rw [HY.out, HE.out], by rw [HY.out]; exact text_ok (HOK.out.mono (memN_old HS.out)) n, hb⟩
set_option maxRecDepth 100000 in
set_option maxHeartbeats 4000000 in
theorem other4_any {mem : Addr → Option Value} {v u : Value} {es : List FctE} {O : List Int} (h : EsM mem v es) (hO : IntsM mem u O) (cls now : Int) (i : Nat) (hi : i < es.length) (n : Int) (hn : okI n) (hk : es[i].f.kind = 4) (w : World) (hs : Sees mem w) :
    Calls Tryz.prog 22 #[.agg (sceneC v cls now u), .int .i64 (i : Nat), .int .i64 n] w (OthPost mem (otherF ⟨es.map FctE.f, cls, now, O⟩ (placesF ⟨es.map FctE.f, cls, now, O⟩ ((es.map FctE.f).take i)) n es[i].f) w) := by
  obtain ⟨za, zc, zb, zo, rfl, hzm, hza, hze⟩ := h.open_
  obtain rfl := hza (by omega)
  unfold maxLen at hzm
  have hnl : (es.length : Int) ≤ 9223372036854775807 := by omega
  have hil : (i : Int) < es.length := by omega
  have cS := Lib.hid (fun W (hW : Sees mem W) => corrects_any h hO cls now i hi W hW)
  obtain ⟨q, hq⟩ : ∃ q, q = (Scn.shown ⟨es.map FctE.f, cls, now, O⟩ es[i].f.story && placesF ⟨es.map FctE.f, cls, now, O⟩ ((es.map FctE.f).take i) es[i].f.story es[i].f.lang es[i].f.block) := ⟨_, rfl⟩
  have HOF : Hid (otherF ⟨es.map FctE.f, cls, now, O⟩ (placesF ⟨es.map FctE.f, cls, now, O⟩ ((es.map FctE.f).take i)) n es[i].f = if q = true then es[i].f else { es[i].f with text := wordF n, sentence := pickF n 4 }) := Lib.hid (by
    unfold otherF
    rw [if_neg (by omega), if_pos hk]
    have hiff : (Scn.shown ⟨es.map FctE.f, cls, now, O⟩ es[i].f.story = true ∧ placesF ⟨es.map FctE.f, cls, now, O⟩ ((es.map FctE.f).take i) es[i].f.story es[i].f.lang es[i].f.block = true) ↔ q = true := by rw [hq, Bool.and_eq_true]
    by_cases hqq : q = true
    · rw [if_pos (hiff.2 hqq), if_pos hqq]
    · rw [if_neg (fun h => hqq (hiff.1 h)), if_neg hqq])
  rw [HOF.out]
  obtain ⟨F', hF'⟩ : ∃ F', F' = if q = true then es[i].f else { es[i].f with text := wordF n, sentence := pickF n 4 } := ⟨_, rfl⟩
  rw [← hF']
  have HF' := Lib.hid hF'
  clear hF'
  rw [← hq] at cS
  have cW := Lib.hid (fun W => word_any n hn W)
  have cP := Lib.hid (fun W => pick_any n 4 hn (by omega) (by omega) W)
  obtain ⟨p0, p1⟩ := pickF_lt (c := n) (n := 4) (by omega)
  generalize pickF n 4 = pn at *
  clear hq
  obtain ⟨hok, hat⟩ := hze i hi
  have HOK := Lib.hid hok
  generalize hee : es[i] = e at *
  clear hee
  obtain ⟨ua, uc, rfl⟩ := hO.slice
  have HS := Lib.hid hs
  have HATA : Hid (e.at (fun p => ((w.alloc (.cells (sceneC (.slice (some ⟨zb, zo, none⟩) es.length zc) cls now (.slice ua O.length uc)) 48)).alloc (.cells zeroFct 45)).cell? p) zb (zo + i * 23)) := Lib.hid (fun j u hj => ((hs.alloc _).alloc _) _ _ (hat j u hj))
  have hsz : Hid (e.cells.size = 23) := Lib.hid rfl
  have hone := Lib.hid e.one
  clear h hO hs hza hze hzm hok hat
  go_enter Tryz.func22, Tryz.ntmps22
  go_upto_region 2 with (first
    | ((with_reducible refine at_fload _ rfl ?_); go_must (refine wpList_fct_mid rfl _ rfl (by simp [Act.eval]) HATA.out ?_))
    | ((with_reducible refine at_fstore _ _ rfl ?_); go_must (refine wpList_fct_new rfl _ _ rfl rfl _ _ _ (by simp [Act.eval]) (by simp [Act.eval]) (by rfl) hsz.out hone.out ?_)))
  generalize hW : World.alloc (World.alloc (World.alloc w _) _) _ = W1
  have H1 : Hid (OW w (sceneC (.slice (some ⟨zb, zo, none⟩) es.length zc) cls now (.slice ua O.length uc)) e.cells W1) := Lib.hid (by rw [← hW]; exact OW.new w _ _)
  clear hW HATA
  have d2 : W1.cell? ⟨w.heap.size + 1 + 1, 2, none⟩ = some (.int .i64 e.f.kind) := H1.out.c2 2
  rw [hk] at d2
  clear hk HOF
  have k0 : W1.cell? ⟨w.heap.size, 0, none⟩ = some (.slice (some ⟨zb, zo, none⟩) es.length zc) := H1.out.c0 0
  have k1 : W1.cell? ⟨w.heap.size, 1, none⟩ = some (.int .i64 cls) := H1.out.c0 1
  have k2 : W1.cell? ⟨w.heap.size, 2, none⟩ = some (.int .i64 now) := H1.out.c0 2
  have k3 : W1.cell? ⟨w.heap.size, 3, none⟩ = some (.slice ua O.length uc) := H1.out.c0 3
  go_wp2_with fail
  refine (cS.out W1 (HS.out.bel H1.out.b)).mono ?_
  rintro e1 W2 ⟨rfl, hb⟩
  have H2 := Lib.hid (H1.out.bel hb)
  clear hb k0 k1 k2 k3 d2 cS H1
  cases q with
  | true =>
    have HE : Hid (F' = e.f) := Lib.hid (by rw [HF'.out]; rfl)
    go_wp2_with (first
      | ((with_reducible refine at_fload _ rfl ?_); go_must (refine wpList_fct_load rfl _ rfl (w.heap.size + 1 + 1) (by simp [Act.eval]) _ H2.out.h2 hsz.out ?_))
      | ((with_reducible refine at_fstore _ _ rfl ?_); go_must (refine wpList_store_rowTo rfl 45 _ _ rfl rfl (w.heap.size + 1) _ (by simp [Act.eval, Act.put]) (by simp [Act.eval, Act.put]) 45 _ H2.out.h1 (by rw [fct_size, hsz.out]) (by rw [hsz.out]; rfl) hone.out ?_)))
    obtain ⟨fs, hun⟩ := fct_under
    refine bodyPost_ret (results_cell_row (p := 6) (ty := 45) (by kernel_rfl) _ _ (w.heap.size + 1) _ e.cells (0, 0) _ (by simp [Act.put]) (setRow_heap _ _ _ _ _ _ H2.out.h1) hun rfl (by rw [fct_size, hsz.out])) rfl ?_
    have hb : Below w.heap.size w (W2.setRow (w.heap.size + 1) e.cells) := below_setRow H2.out.b (by omega) _
    exact ⟨e, rfl, HE.out.symm, HOK.out.mono (memN_old HS.out), hb⟩
  | false =>
    have HE : Hid (F' = { e.f with text := wordF n, sentence := pn }) := Lib.hid (by rw [HF'.out]; rfl)
    go_wp2_with fail
    refine (cW.out W2).mono ?_
    rintro e1 W3 ⟨rfl, hb⟩
    have H3 := Lib.hid (H2.out.bel hb)
    have d18 : W3.cell? ⟨w.heap.size + 1 + 1, 18, none⟩ = some (.string e.f.text) := H3.out.c2 18
    have f18 := H3.out.f2 18
    have hty := H3.out.set2 18 (.string (wordF n))
    rw [← fe_text] at hty
    obtain ⟨x, hx⟩ : ∃ x : FctE, x = ⟨{ e.f with text := wordF n }, e.ta, e.tc, e.ba, e.bc, e.aa, e.ac⟩ := ⟨_, rfl⟩
    rw [← hx] at hty
    have H4 := Lib.hid hty
    have HX := Lib.hid hx
    clear hb hty hx
    go_upto_region 22 with fail
    generalize World.setCell W3 _ _ = W4 at *
    clear d18 f18
    go_wp2_with fail
    refine (cP.out W4).mono ?_
    rintro e1 W5 ⟨rfl, rfl⟩
    have d17 : W4.cell? ⟨w.heap.size + 1 + 1, 17, none⟩ = some (.int .i64 x.f.sentence) := H4.out.c2 17
    have f17 := H4.out.f2 17
    have hty := H4.out.set2 17 (.int .i64 pn)
    rw [← fe_sent] at hty
    obtain ⟨y, hy⟩ : ∃ y : FctE, y = ⟨{ x.f with sentence := pn }, x.ta, x.tc, x.ba, x.bc, x.aa, x.ac⟩ := ⟨_, rfl⟩
    rw [← hy] at hty
    have H5 := Lib.hid hty
    have HY := Lib.hid hy
    have hsz2 : Hid (y.cells.size = 23) := Lib.hid rfl
    have hone2 := Lib.hid y.one
    clear hty hy
    go_upto_region 27 with fail
    generalize World.setCell W4 _ _ = W5 at *
    clear d17 f17
    go_wp2_with (first
      | ((with_reducible refine at_fload _ rfl ?_); go_must (refine wpList_fct_load rfl _ rfl (w.heap.size + 1 + 1) (by simp [Act.eval]) _ H5.out.h2 hsz2.out ?_))
      | ((with_reducible refine at_fstore _ _ rfl ?_); go_must (refine wpList_store_rowTo rfl 45 _ _ rfl rfl (w.heap.size + 1) _ (by simp [Act.eval, Act.put]) (by simp [Act.eval, Act.put]) 45 _ H5.out.h1 (by rw [fct_size, hsz2.out]) (by rw [hsz2.out]; rfl) hone2.out ?_)))
    obtain ⟨fs, hun⟩ := fct_under
    refine bodyPost_ret (results_cell_row (p := 6) (ty := 45) (by kernel_rfl) _ _ (w.heap.size + 1) _ y.cells (0, 0) _ (by simp [Act.put]) (setRow_heap _ _ _ _ _ _ H5.out.h1) hun rfl (by rw [fct_size, hsz2.out])) rfl ?_
    have hb : Below w.heap.size w (W5.setRow (w.heap.size + 1) y.cells) := below_setRow H5.out.b (by omega) _
    exact ⟨y, rfl, by rw [HY.out, HX.out, HE.out], by rw [HY.out]; exact sent_ok (by rw [HX.out]; exact text_ok (HOK.out.mono (memN_old HS.out)) n) (okS (by omega) (by omega)), hb⟩
end Go.Proofs.YtgbihmafmmeicaaGreatDoor
namespace Go.Proofs.YtgbihmafmmeicaaGreatDoor
open Go.RowKit Mg Go.Shelf

theorem vals_of {mem : Addr → Option Value} : ∀ (l : List Blk) (b o : Nat), BlksAt mem l b o → ∃ vs, BVals mem l vs ∧ vs.length = l.length * 9 ∧ (∀ u ∈ vs, u.oneCell' = true) ∧ ∀ j u, vs[j]? = some u → mem ⟨b, o + j, none⟩ = some u
  | [], b, o, _ => ⟨[], rfl, rfl, fun u h => by (cases h), fun j u h => by simp at h⟩
  | x :: l, b, o, h => by
    obtain ⟨vs, h1, h2, h4, h3⟩ := vals_of l b (o + 9) (fun j hj => by
      have := h (j + 1) (by simpa using hj)
      rw [show o + (j + 1) * 9 = o + 9 + j * 9 by omega] at this
      simpa using this)
    obtain ⟨⟨m0, m1, m2, m3, m4⟩, ⟨m5, m7, m8⟩, _, av, m6, hints⟩ := h 0 (by simp)
    obtain ⟨ao, cap, rfl⟩ := hints.slice
    simp only [List.getElem_cons_zero, Nat.zero_mul, Nat.add_zero] at m0 m1 m2 m3 m4 m5 m6 m7 m8 hints
    refine ⟨blkVals x (.slice ao x.lab.after.length cap) ++ vs, ⟨ao, cap, vs, hints, rfl, h1⟩, by rw [List.length_append, h2]; simp; omega, fun u hu => ?_, fun j u hu => ?_⟩
    · rcases List.mem_append.1 hu with hu | hu
      · simp only [blkVals, List.mem_cons, List.not_mem_nil, or_false] at hu
        rcases hu with rfl | rfl | rfl | rfl | rfl | rfl | rfl | rfl | rfl <;> rfl
      · exact h4 u hu
    · by_cases hj : j < 9
      · rw [List.getElem?_append_left (by simpa using hj)] at hu
        match j, hj with
        | 0, _ => exact m0.trans hu
        | 1, _ => exact m1.trans hu
        | 2, _ => exact m2.trans hu
        | 3, _ => exact m3.trans hu
        | 4, _ => exact m4.trans hu
        | 5, _ => exact m5.trans hu
        | 6, _ => exact m6.trans hu
        | 7, _ => exact m7.trans hu
        | 8, _ => exact m8.trans hu
      · rw [List.getElem?_append_right (by simp; omega)] at hu
        have := h3 _ _ hu
        simp only [blkVals, List.length_cons, List.length_nil] at this
        rw [show o + 9 + (j - (0 + 1 + 1 + 1 + 1 + 1 + 1 + 1 + 1 + 1)) = o + j by omega] at this
        exact this
def BlkC (mem : Addr → Option Value) (cur : Array Value) (l : List Blk) : Prop :=
  ∀ j (h : j < l.length), (l[j].text.size ≤ maxLen ∧ okI l[j].kind ∧ okI l[j].id) ∧ ∃ ao cap, IntsM mem (.slice ao l[j].lab.after.length cap) l[j].lab.after ∧ ∀ t u, (blkVals l[j] (.slice ao l[j].lab.after.length cap))[t]? = some u → cur[j * 9 + t]? = some u
theorem BlkC.of {mem : Addr → Option Value} {l : List Blk} {vs : List Value} {cur : Array Value} (h : BVals mem l vs) (hs : ∀ x ∈ l, x.text.size ≤ maxLen ∧ okI x.kind ∧ okI x.id) (ht : cur.toList.take (l.length * 9) = vs) : BlkC mem cur l := fun j hj => by
  obtain ⟨ao, cap, h1, h2⟩ := h.get j hj
  refine ⟨hs _ (List.getElem_mem hj), ao, cap, h1, fun t u hu => ?_⟩
  have ht9 : t < 9 := by
    have := (List.getElem?_eq_some_iff.1 hu).1
    simpa using this
  have h3 := h2 t ht9
  rw [hu, ← ht, List.getElem?_take_of_lt (by omega)] at h3
  rw [← Array.getElem?_toList]; exact h3
theorem BlkC.set {mem : Addr → Option Value} {l : List Blk} {cur : Array Value} (h : BlkC mem cur l) {k : Nat} (hk : k < l.length) (t : ByteArray) (ht : t.size ≤ maxLen) : BlkC mem (cur.setIfInBounds (k * 9 + 2) (.string t)) (l.set k { l[k] with text := t }) := fun j hj => by
  rw [List.length_set] at hj
  obtain ⟨h1, ao, cap, h2, h3⟩ := h j hj
  by_cases e : k = j
  · subst e
    have hin : k * 9 + 2 < cur.size := by
      have := h3 2 _ rfl
      exact (Array.getElem?_eq_some_iff.1 this).1
    rw [List.getElem_set_self]
    refine ⟨⟨ht, h1.2⟩, ao, cap, h2, fun s u hu => ?_⟩
    by_cases e2 : s = 2
    · subst e2
      rw [Array.getElem?_setIfInBounds_self_of_lt hin]
      simpa [blkVals] using hu
    · rw [Array.getElem?_setIfInBounds_ne (by omega)]
      refine h3 s u ?_
      match s, e2, hu with
      | 0, _, hu => exact hu
      | 1, _, hu => exact hu
      | 3, _, hu => exact hu
      | 4, _, hu => exact hu
      | 5, _, hu => exact hu
      | 6, _, hu => exact hu
      | 7, _, hu => exact hu
      | 8, _, hu => exact hu
      | (n + 9), _, hu => simp [blkVals] at hu
  · rw [List.getElem_set_ne (by simpa using e)]
    refine ⟨h1, ao, cap, h2, fun s u hu => ?_⟩
    have hs : s < 9 := by
      have := (List.getElem?_eq_some_iff.1 hu).1
      simpa using this
    rw [Array.getElem?_setIfInBounds_ne (by omega)]
    exact h3 s u hu
def hideTo (c : Scn) (op : Bool) (s n : Int) (l : List Blk) (j : Nat) : List Blk := l.mapIdx fun k b => if k < j then hideB c op s n b k else b
section
variable {c : Scn} {op : Bool} {s n : Int} {l : List Blk} {j : Nat}
theorem hideTo_len : (hideTo c op s n l j).length = l.length := by unfold hideTo; simp
theorem hideTo_get {k : Nat} (h : k < l.length) : (hideTo c op s n l j)[k]'(by rw [hideTo_len]; exact h) = if k < j then hideB c op s n l[k] k else l[k] := by unfold hideTo; simp
theorem hideTo_zero : hideTo c op s n l 0 = l := by
  refine List.ext_getElem (by rw [hideTo_len]) fun k h1 h2 => ?_
  rw [hideTo_get h2, if_neg (by omega)]
theorem hideTo_all : hideTo c op s n l l.length = l.mapIdx fun k b => hideB c op s n b k := by
  refine List.ext_getElem (by rw [hideTo_len]; simp) fun k h1 h2 => ?_
  rw [hideTo_len] at h1
  rw [hideTo_get h1, if_pos h1]
  simp
theorem hideTo_succ (h : j < l.length) : hideTo c op s n l (j + 1) = (hideTo c op s n l j).set j (hideB c op s n l[j] j) := by
  refine List.ext_getElem (by rw [List.length_set, hideTo_len, hideTo_len]) fun k h1 h2 => ?_
  rw [hideTo_len] at h1
  rw [hideTo_get h1]
  by_cases e : j = k
  · subst e
    rw [if_pos (by omega), List.getElem_set_self]
  · rw [List.getElem_set_ne (by simpa using e), hideTo_get h1]
    by_cases h3 : k < j
    · rw [if_pos h3, if_pos (by omega)]
    · rw [if_neg h3, if_neg (by omega)]
theorem hideTo_at (h : j < l.length) : (hideTo c op s n l j)[j]'(by rw [hideTo_len]; exact h) = l[j] := by rw [hideTo_get h, if_neg (by omega)]
theorem hideTo_same (h : j < l.length) (hb : hideB c op s n l[j] j = l[j]) : hideTo c op s n l (j + 1) = hideTo c op s n l j := by
  rw [hideTo_succ h, hb]
  refine List.ext_getElem (by rw [List.length_set]) fun k h1 h2 => ?_
  by_cases e : j = k
  · subst e
    rw [List.getElem_set_self, hideTo_at h]
  · rw [List.getElem_set_ne (by simpa using e)]
end
noncomputable def madeB (n : Nat) : Array Value := madeCells (.agg #[.int .i64 0, .int .i64 0, .string .empty, .int .i64 0, .int .i64 0, .int .i64 0, .slice none 0 0, .int .i64 0, .int .i64 0] : Value).cells (n * 9)
theorem run_makeB (n : Nat) (hn : n ≤ 100000) (w : World) : (Instr.makeSlice 43 (.int .i64 0) (.int .i64 (n : Nat))).run Tryz.prog w = .ok (.slice (some ⟨w.heap.size, 0, none⟩) 0 n) (w.alloc (.cells (madeB n) 56)) := by
  obtain ⟨i0, hi0, hz0, hz1, hz2⟩ := info_parts blk_info
  have h := run_make (P := Tryz.prog) w 43 56 i0 _ Tryz.underlying43 hi0 hz0 .i64 .i64 0 (n : Nat) (by omega) (by omega) (by rw [hz2]; omega) (by omega)
  rw [hz1] at h
  simpa [madeB] using h
theorem made_row {w : World} {B g n : Nat} (hB : B ≤ g) (hn : n ≤ 100000) (hh : w.heap[g]? = some (.cells (madeB n) 56 (0, 0))) : w.ownsRow B 56 9 (.slice (some ⟨g, 0, none⟩) 0 n) 0 [] :=
  ⟨rfl, .inr ⟨g, n, _, rfl, hB, hh, by omega, by unfold maxLen; omega, by unfold madeB; rw [size_madeCells], rfl⟩⟩
section
variable {o : Oper} {a : Act} {w : World} {Q : Exit → Act → World → Prop} {K : Act → World → Prop}
theorem wp_app_blks (s x : Operand) (ho : o.op = .call { callee := .builtin .append, args := #[s, x], argTypes := #[43, 43] })
    (g n : Nat) (hs : a.eval s = .slice (some ⟨g, 0, none⟩) 0 n) (hg : w.heap[g]? = some (.cells (madeB n) 56 (0, 0))) {mem : Addr → Option Value} (ao : Option Addr) (cap : Nat) (l : List Blk) (hx : a.eval x = .slice ao l.length cap) (hl : BlksM mem (.slice ao l.length cap) l) (hsee : Sees mem w) (hn : n ≤ 100000) (hlen : l.length ≤ 100000)
    (h : ∀ (ao' : Option Addr) (cap' g' : Nat) (cur : Array Value) w', l.length ≤ cap' → cap' ≤ maxLen → (0 < l.length → ao' = some ⟨g', 0, none⟩ ∧ g ≤ g' ∧ w'.heap[g']? = some (.cells cur 56 (0, 0))) → BlkC mem cur l → Below g w w' → (∀ k, k < w.heap.size → k ≠ g → w'.heap[k]? = w.heap[k]?) → K (a.put o.dst (.slice ao' l.length cap')) w') : o.wp Tryz.prog a w K Q := by
  obtain ⟨i0, hi0, hz0, hz1, hz2⟩ := info_parts blk_info
  have hlt : g < w.heap.size := (Array.getElem?_eq_some_iff.1 hg).1
  obtain ⟨ao2, cap2, b, p, e, hc, hm, ha, hat⟩ := hl.open_
  injection e with e1 e2 e3
  subst e1 e3
  obtain ⟨vs, v1, v2, v4, v3⟩ := vals_of l b p hat
  have hr : Reads w w.heap.size 9 ao l.length vs := ⟨v2, fun h0 => ⟨_, ha h0, by
    obtain ⟨⟨m0, _⟩, _⟩ := hat 0 h0
    have := World.block_lt_of_cell? w _ (hsee _ _ m0)
    simpa using this, fun j u hu => by
    have := hsee _ _ (v3 j u hu)
    unfold Addr.add
    by_cases h0 : j = 0
    · subst h0; simpa using this
    · simp [h0]; simpa using this⟩⟩
  refine wp_append_any w s x 43 ho g 56 i0 _ 9 96 Tryz.underlying43 hi0 hz0 hz1 hz2 rfl (by decide) _ 0 [] hs (made_row (Nat.le_refl _) hn hg) w.heap.size ao l.length cap vs hx hr v4 (by unfold maxLen; omega) (by omega) (by omega) ?_
  intro v' w' h1 h2 h3
  rw [Nat.zero_add, List.nil_append] at h1
  have hszs : ∀ x ∈ l, x.text.size ≤ maxLen ∧ okI x.kind ∧ okI x.id := fun x hx => by
    obtain ⟨j, hj, rfl⟩ := List.getElem_of_mem hx
    obtain ⟨_, _, hs3, _⟩ := hat j hj
    exact hs3
  have hbel : Below g w w' := ⟨h2.os, h2.tape, h2.output, h2.size, fun k hk => h2.block k (by omega) (fun e => by injection e with e; have e2 : k = g := e; omega)⟩
  have hkeep : ∀ k, k < w.heap.size → k ≠ g → w'.heap[k]? = w.heap[k]? := fun k hk hne => h2.block k hk (fun e => by injection e with e; exact hne e)
  rcases h1.2 with ⟨rfl, hz⟩ | ⟨g', cap', cur, rfl, hb, hh, hn1, hc1, hs1, ht1⟩
  · have : l = [] := List.eq_nil_of_length_eq_zero hz
    subst this
    exact h none 0 0 #[] w' (Nat.le_refl _) (Nat.zero_le _) (fun h0 => absurd h0 (by simp)) (fun j hj => absurd hj (by simp)) hbel hkeep
  · exact h _ cap' g' cur w' hn1 hc1 (fun _ => ⟨rfl, hb, hh⟩) (BlkC.of v1 hszs ht1) hbel hkeep
end
end Go.Proofs.YtgbihmafmmeicaaGreatDoor
namespace Go.Proofs.YtgbihmafmmeicaaGreatDoor
open Go.RowKit Mg Go.Shelf

theorem fe_blocks (e : FctE) (ba : Option Addr) (bc : Nat) : (⟨e.f, e.ta, e.tc, ba, bc, e.aa, e.ac⟩ : FctE).cells = e.cells.setIfInBounds 10 (.slice ba e.f.blocks.length bc) := rfl
structure OthL (mem : Addr → Option Value) (w : World) (S A : Array Value) (g : Nat) (l : List Blk) (cur : Array Value) (W : World) : Prop where
  ow : OW w S A W
  row : 0 < l.length → W.heap[g]? = some (.cells cur 56 (0, 0))
  blk : BlkC mem cur l
theorem OthL.bel {mem : Addr → Option Value} {w : World} {S A : Array Value} {g : Nat} {l : List Blk} {cur : Array Value} {W W' : World} (h : OthL mem w S A g l cur W) (hb : Below W.heap.size W W') : OthL mem w S A g l cur W' :=
  ⟨h.ow.bel hb, fun h0 => (hb.block _ (Go.Proofs.YtgbihmafmmeicaaGreatDoor.hlt (h.row h0))).trans (h.row h0), h.blk⟩
theorem OthL.drew {mem : Addr → Option Value} {w : World} {S A : Array Value} {g : Nat} {l : List Blk} {cur : Array Value} {W : World} (h : OthL mem w S A g l cur W) : OthL mem w S A g l cur W.drew := ⟨h.ow.drew, h.row, h.blk⟩
theorem OthL.set {mem : Addr → Option Value} {w : World} {S A : Array Value} {g : Nat} {l : List Blk} {cur : Array Value} {W : World} (h : OthL mem w S A g l cur W) (hg : w.heap.size + 1 + 1 < g) {k : Nat} (hk : k < l.length) (t : ByteArray) (ht : t.size ≤ maxLen) (y : Blk) (hy : l[k] = y) :
    OthL mem w S A g (l.set k { y with text := t }) (cur.setIfInBounds (k * 9 + 2) (.string t)) (W.setCell ⟨g, k * 9 + 2, none⟩ (.string t)) :=
  ⟨h.ow.upd (upd_cell W g _ _) (fun b e => by omega), fun _ => blk_set (h.row (by omega)), by have := h.blk.set hk t ht; rw [← hy]; exact this⟩
theorem blkc_m {mem : Addr → Option Value} {W : World} {B g : Nat} {ba : Option Addr} {bc : Nat} {cur : Array Value} {l : List Blk} (h : BlkC mem cur l) (hsee : ∀ a u, mem a = some u → memN mem B W a = some u) (hc : l.length ≤ bc) (hm : bc ≤ maxLen) (hr : 0 < l.length → ba = some ⟨g, 0, none⟩ ∧ B ≤ g ∧ W.heap[g]? = some (.cells cur 56 (0, 0))) : BlksM (memN mem B W) (.slice ba l.length bc) l := by
  refine ⟨g, 0, ⟨by omega, ba, bc, rfl, hc, hm, fun h0 => (hr h0).1⟩, fun j hj => ?_⟩
  obtain ⟨_, hB, hh⟩ := hr (by omega)
  obtain ⟨hsz, ao, cap, hi, hcl⟩ := h j hj
  have cc : ∀ t u, (blkVals l[j] (.slice ao l[j].lab.after.length cap))[t]? = some u → memN mem B W ⟨g, 0 + j * 9 + t, none⟩ = some u := fun t u hu => memN_new hB (by rw [Nat.zero_add]; exact (blk_cell hh _).trans (hcl t u hu))
  exact ⟨⟨cc 0 _ rfl, cc 1 _ rfl, cc 2 _ rfl, cc 3 _ rfl, cc 4 _ rfl⟩, ⟨cc 5 _ rfl, cc 7 _ rfl, cc 8 _ rfl⟩, hsz, _, cc 6 _ rfl, hi.mono hsee⟩
theorem w64_in (v : Int) : okI (w64 v) := by
  unfold w64 okI
  rw [IntKind.wrap_i64]
  omega
theorem oth_len : (strL [111, 116, 104, 101, 114]).size ≤ maxLen := by unfold maxLen; decide
theorem sec_len : (strL [115, 101, 99, 114, 101, 116]).size ≤ maxLen := by unfold maxLen; decide
theorem hideB_yes {c : Scn} {op : Bool} {s n : Int} {b : Blk} {k : Nat} (h : op = false ∨ c.ok s b.lab = false) : hideB c op s n b k = { b with text := if b.kind = 5 then strL [111, 116, 104, 101, 114] else wordF (w64 (n + k)) } := by unfold hideB; rw [if_pos h]
theorem hideB_no {c : Scn} {s n : Int} {b : Blk} {k : Nat} (h : c.ok s b.lab = true) : hideB c true s n b k = b := by
  unfold hideB
  rw [if_neg (by rw [h]; simp)]
set_option maxRecDepth 100000 in
set_option maxHeartbeats 4000000 in
theorem other1_any {mem : Addr → Option Value} {v u : Value} {es : List FctE} {O : List Int} (h : EsM mem v es) (hO : IntsM mem u O) (cls now : Int) (i : Nat) (hi : i < es.length) (n : Int) (hn : okI n) (hk : es[i].f.kind = 1) (hbn : es[i].f.blocks.length ≤ 1000) (w : World) (hs : Sees mem w) :
    Calls Tryz.prog 22 #[.agg (sceneC v cls now u), .int .i64 (i : Nat), .int .i64 n] w (OthPost mem (otherF ⟨es.map FctE.f, cls, now, O⟩ (placesF ⟨es.map FctE.f, cls, now, O⟩ ((es.map FctE.f).take i)) n es[i].f) w) := by
  obtain ⟨za, zc, zb, zo, rfl, hzm, hza, hze⟩ := h.open_
  obtain rfl := hza (by omega)
  unfold maxLen at hzm
  have hnl : (es.length : Int) ≤ 9223372036854775807 := by omega
  have hil : (i : Int) < es.length := by omega
  obtain ⟨c, hc⟩ : ∃ c, c = (⟨es.map FctE.f, cls, now, O⟩ : Scn) := ⟨_, rfl⟩
  have cO := Lib.hid (fun W (hW : Sees mem W) => sceneOpen_any h.facts hO cls now es[i] (hze i hi).1 W hW)
  have cA := Lib.hid (fun (x : Lab) av (hx : IntsM mem av x.after) W (hW : Sees mem W) => sceneAllows_any h.facts hO cls now es[i].f.story x av hx W hW)
  have HCK : Hid (∀ x : Lab, allows x cls now O (apprF (es.map FctE.f) es[i].f.story) = c.ok es[i].f.story x) := Lib.hid (fun x => by rw [hc]; rfl)
  simp only [HCK.out] at cA
  rw [← hc]
  rw [← hc] at cO
  have HOF : Hid (otherF c (placesF c ((es.map FctE.f).take i)) n es[i].f = if c.isOpen es[i].f.story es[i].f.lab = true then { es[i].f with blocks := hideTo c true es[i].f.story n es[i].f.blocks es[i].f.blocks.length } else { es[i].f with blocks := hideTo c false es[i].f.story n es[i].f.blocks es[i].f.blocks.length, title := wordF n, author := strL [111, 116, 104, 101, 114], topics := [strL [115, 101, 99, 114, 101, 116]] }) := Lib.hid (by
    unfold otherF
    rw [if_pos hk, hideTo_all, hideTo_all]
    by_cases ho : c.isOpen es[i].f.story es[i].f.lab = true
    · rw [if_pos ho, if_neg (by rw [ho]; decide)]
    · rw [if_neg ho, if_pos (by simpa using ho)])
  rw [HOF.out]
  obtain ⟨op, hop⟩ : ∃ op, op = c.isOpen es[i].f.story es[i].f.lab := ⟨_, rfl⟩
  rw [← hop] at cO ⊢
  obtain ⟨F', hF'⟩ : ∃ F', F' = if op = true then { es[i].f with blocks := hideTo c true es[i].f.story n es[i].f.blocks es[i].f.blocks.length } else { es[i].f with blocks := hideTo c false es[i].f.story n es[i].f.blocks es[i].f.blocks.length, title := wordF n, author := strL [111, 116, 104, 101, 114], topics := [strL [115, 101, 99, 114, 101, 116]] } := ⟨_, rfl⟩
  rw [← hF']
  have HF' := Lib.hid hF'
  clear hF' HOF hop hc HCK
  have cW := Lib.hid (fun W => word_any n hn W)
  obtain ⟨hok, hat⟩ := hze i hi
  have HOK := Lib.hid hok
  generalize hee : es[i] = e at *
  clear hee
  obtain ⟨ua, uc, rfl⟩ := hO.slice
  have HS := Lib.hid hs
  have HATA : Hid (e.at (fun p => ((w.alloc (.cells (sceneC (.slice (some ⟨zb, zo, none⟩) es.length zc) cls now (.slice ua O.length uc)) 48)).alloc (.cells zeroFct 45)).cell? p) zb (zo + i * 23)) := Lib.hid (fun j u hj => ((hs.alloc _).alloc _) _ _ (hat j u hj))
  have hsz : Hid (e.cells.size = 23) := Lib.hid rfl
  have hone := Lib.hid e.one
  clear h hO hs hza hze hzm hok hat
  go_enter Tryz.func22, Tryz.ntmps22
  go_upto_region 2 with (first
    | ((with_reducible refine at_fload _ rfl ?_); go_must (refine wpList_fct_mid rfl _ rfl (by simp [Act.eval]) HATA.out ?_))
    | ((with_reducible refine at_fstore _ _ rfl ?_); go_must (refine wpList_fct_new rfl _ _ rfl rfl _ _ _ (by simp [Act.eval]) (by simp [Act.eval]) (by rfl) hsz.out hone.out ?_)))
  generalize hW : World.alloc (World.alloc (World.alloc w _) _) _ = W1
  have H1 : Hid (OW w (sceneC (.slice (some ⟨zb, zo, none⟩) es.length zc) cls now (.slice ua O.length uc)) e.cells W1) := Lib.hid (by rw [← hW]; exact OW.new w _ _)
  clear hW HATA
  have d2 : W1.cell? ⟨w.heap.size + 1 + 1, 2, none⟩ = some (.int .i64 e.f.kind) := H1.out.c2 2
  rw [hk] at d2
  clear hk
  have k0 : W1.cell? ⟨w.heap.size, 0, none⟩ = some (.slice (some ⟨zb, zo, none⟩) es.length zc) := H1.out.c0 0
  have k1 : W1.cell? ⟨w.heap.size, 1, none⟩ = some (.int .i64 cls) := H1.out.c0 1
  have k2 : W1.cell? ⟨w.heap.size, 2, none⟩ = some (.int .i64 now) := H1.out.c0 2
  have k3 : W1.cell? ⟨w.heap.size, 3, none⟩ = some (.slice ua O.length uc) := H1.out.c0 3
  go_wp2_with ((with_reducible refine at_fload _ rfl ?_); go_must (refine wpList_fct_load rfl _ rfl (w.heap.size + 1 + 1) (by simp [Act.eval]) _ H1.out.h2 hsz.out ?_))
  refine (cO.out W1 (HS.out.bel H1.out.b)).mono ?_
  rintro e1 W2 ⟨rfl, hb⟩
  have H2 := Lib.hid (H1.out.bel hb)
  clear hb k0 k1 k2 k3 d2 cO H1
  go_upto_region 5 with fail
  have HBM := Lib.hid HOK.out.parts.2.1
  have HMK := Lib.hid (fun w => run_makeB e.f.blocks.length (by omega) w)
  have HSD : Hid (W2.drew.heap[w.heap.size + 1 + 1]? = some (.cells e.cells 45 (0, 0))) := Lib.hid H2.out.drew.h2
  obtain ⟨Wd, hWd⟩ : ∃ Wd, Wd = W2.drew := ⟨_, rfl⟩
  have H2d : Hid (OW w (sceneC (.slice (some ⟨zb, zo, none⟩) es.length zc) cls now (.slice ua O.length uc)) e.cells Wd) := Lib.hid (by rw [hWd]; exact H2.out.drew)
  refine wp_sch (.take 0 (.take 1 (.take 2 (.take 4 (.take 5 (.only 3 (.only 6 (.only 7 (.last 8 .done))))))))) 8 (fun W2 => W2.heap[w.heap.size + 1 + 1]? = some (.cells e.cells 45 (0, 0))) (by kernel_rfl) (by kernel_rfl) HSD.out ?_
  rw [← hWd] at HSD ⊢
  clear hWd H2
  have hbn2 : (e.f.blocks.length : Int) ≤ 1000 := by omega
  refine wpSch_take rfl (.pointer (some ⟨w.heap.size + 1 + 1, 10, none⟩)) (fun _ _ _ _ h => h) HSD.out (by rfl) (fun W2 hW => by go_simp) ?_
  simp only [Act.put, List.setIfInBounds_toArray, List.set_cons_zero, List.set_cons_succ]
  refine wpSch_take rfl (.slice e.ba e.f.blocks.length e.bc) (fun _ _ _ _ h => h) HSD.out (by rfl) (fun W2 hW => by have q0 : W2.cell? ⟨w.heap.size + 1 + 1, 10, none⟩ = some (.slice e.ba e.f.blocks.length e.bc) := blk_cell hW 10; go_simp) ?_
  simp only [Act.put, List.setIfInBounds_toArray, List.set_cons_zero, List.set_cons_succ]
  refine wpSch_take rfl (.int .i64 (e.f.blocks.length : Nat)) (fun _ _ _ _ h => h) HSD.out (by rfl) (fun W2 hW => by go_simp) ?_
  simp only [Act.put, List.setIfInBounds_toArray, List.set_cons_zero, List.set_cons_succ]
  refine wpSch_take rfl (.pointer (some ⟨w.heap.size + 1 + 1, 10, none⟩)) (fun _ _ _ _ h => h) HSD.out (by rfl) (fun W2 hW => by go_simp) ?_
  simp only [Act.put, List.setIfInBounds_toArray, List.set_cons_zero, List.set_cons_succ]
  refine wpSch_take rfl (.slice e.ba e.f.blocks.length e.bc) (fun _ _ _ _ h => h) HSD.out (by rfl) (fun W2 hW => by have q0 : W2.cell? ⟨w.heap.size + 1 + 1, 10, none⟩ = some (.slice e.ba e.f.blocks.length e.bc) := blk_cell hW 10; go_simp) ?_
  simp only [Act.put, List.setIfInBounds_toArray, List.set_cons_zero, List.set_cons_succ]
  refine wpSch_only rfl (fun K hK => ?_)
  have hmk := HMK.out
  go_simp
  clear hmk
  have HNm := Lib.hid (World.alloc_heap_new Wd (.cells (madeB e.f.blocks.length) 56))
  have HBm : Hid (Below Wd.heap.size Wd (Wd.alloc (.cells (madeB e.f.blocks.length) 56))) := Lib.hid ((Below.refl _ Wd).alloc (Nat.le_refl _) _)
  have HSm : Hid ((Wd.alloc (.cells (madeB e.f.blocks.length) 56)).heap[w.heap.size + 1 + 1]? = some (.cells e.cells 45 (0, 0))) := Lib.hid ((HBm.out.block _ (Go.Proofs.YtgbihmafmmeicaaGreatDoor.hlt HSD.out)).trans HSD.out)
  have hgz : w.heap.size + 1 + 1 < Wd.heap.size := Go.Proofs.YtgbihmafmmeicaaGreatDoor.hlt HSD.out
  generalize Wd.alloc (.cells (madeB e.f.blocks.length) 56) = Wm at *
  refine hK _ _ HSm.out ?_
  clear hK K
  refine wpSch_only rfl (fun K hK => ?_)
  rw [if_pos (by rfl)]
  refine wp_app_blks _ _ rfl Wd.heap.size e.f.blocks.length (by simp [Act.eval]) HNm.out e.ba e.bc e.f.blocks (by simp [Act.eval]) HBM.out (HS.out.bel (H2d.out.b.trans (HBm.out.mono H2d.out.b.size))) (by omega) (by omega) ?_
  intro ba bc g cur W5 hc1 hc2 hrow hblk hb5 hkp
  have hbel : Below Wd.heap.size Wd W5 := HBm.out.trans hb5
  have HB5 := Lib.hid hbel
  have HROW := Lib.hid hrow
  have HBL := Lib.hid hblk
  have HC2 := Lib.hid (And.intro hc1 hc2)
  have HS5 : Hid (W5.heap[w.heap.size + 1 + 1]? = some (.cells e.cells 45 (0, 0))) := Lib.hid ((hbel.block _ hgz).trans HSD.out)
  refine hK _ _ HS5.out ?_
  clear hK K hb5 hkp hbel hrow hblk hc1 hc2
  simp only [Act.put, List.setIfInBounds_toArray, List.set_cons_zero, List.set_cons_succ]
  refine wpSch_only rfl (fun K hK => ?_)
  go_simp
  refine hK _ _ HS5.out ?_
  clear hK K
  refine wpSch_last rfl (fun K hK => ?_)
  have q10 : W5.cell? ⟨w.heap.size + 1 + 1, 10, none⟩ = some (.slice e.ba e.f.blocks.length e.bc) := blk_cell HS5.out 10
  have r10 := blk_free HS5.out 10
  go_simp
  refine hK _ _ ?_
  clear hK K q10 r10
  refine wpSch_done ?_
  have h6 := (H2d.out.bel HB5.out).set2 10 (.slice ba e.f.blocks.length bc)
  rw [← fe_blocks] at h6
  obtain ⟨x, hx⟩ : ∃ x : FctE, x = ⟨e.f, e.ta, e.tc, ba, bc, e.aa, e.ac⟩ := ⟨_, rfl⟩
  rw [← hx] at h6
  have HX := Lib.hid hx
  have HL0 : Hid (OthL mem w (sceneC (.slice (some ⟨zb, zo, none⟩) es.length zc) cls now (.slice ua O.length uc)) x.cells g (hideTo c op e.f.story n e.f.blocks 0) cur (W5.setCell ⟨w.heap.size + 1 + 1, 10, none⟩ (.slice ba e.f.blocks.length bc))) := Lib.hid (by
    rw [hideTo_zero]
    exact ⟨h6, fun h0 => by
      obtain ⟨_, h2, h3⟩ := HROW.out h0
      exact ((upd_cell W5 (w.heap.size + 1 + 1) 10 _).block _ (Go.Proofs.YtgbihmafmmeicaaGreatDoor.hlt h3) (by omega)).trans h3, HBL.out⟩)
  have HGB : Hid (0 < e.f.blocks.length → ba = some ⟨g, 0, none⟩ ∧ w.heap.size + 1 + 1 < g) := Lib.hid (fun h0 => by
    obtain ⟨h1, h2, _⟩ := HROW.out h0
    exact ⟨h1, by omega⟩)
  have hxb : Hid (∀ W : World, W.heap[w.heap.size + 1 + 1]? = some (.cells x.cells 45 (0, 0)) → W.cell? ⟨w.heap.size + 1 + 1, 10, none⟩ = some (.slice ba e.f.blocks.length bc)) := Lib.hid (fun W hW => by rw [blk_cell hW 10, hx]; rfl)
  have hxs : Hid (∀ W : World, W.heap[w.heap.size + 1 + 1]? = some (.cells x.cells 45 (0, 0)) → W.cell? ⟨w.heap.size + 1 + 1, 3, none⟩ = some (.int .i64 e.f.story)) := Lib.hid (fun W hW => by rw [blk_cell hW 3, hx]; rfl)
  clear h6 hx HSm HBm HNm HSD H2d HS5 HROW HBL HB5 HMK
  generalize World.setCell W5 _ _ = W6 at *
  clear hgz
  go_wp2_with fail
  go_loopw [9] (fun i' wr => ∃ (j : Nat) (cur : Array Value), j ≤ e.f.blocks.length ∧ i' = .int .i64 j ∧ Hid (OthL mem w (sceneC (.slice (some ⟨zb, zo, none⟩) es.length zc) cls now (.slice ua O.length uc)) x.cells g (hideTo c op e.f.story n e.f.blocks j) cur wr)) (fun i' _ => e.f.blocks.length - (intOf i').toNat)
  case atStart => exact ⟨0, cur, Nat.zero_le _, rfl, HL0⟩
  case round =>
    obtain ⟨j, cu, hj, rfl, HL⟩ := hrel
    obtain ⟨wo, rfl⟩ : ∃ wo, wo = wr := ⟨_, rfl⟩
    have d10 := hxb.out _ HL.out.ow.h2
    by_cases hjl : j < e.f.blocks.length
    · obtain ⟨hba, hgz⟩ := HGB.out (by omega)
      rw [hba] at d10
      have hjl2 : j < (hideTo c op e.f.story n e.f.blocks j).length := by rw [hideTo_len]; exact hjl
      have hln : 0 < (hideTo c op e.f.story n e.f.blocks j).length := by omega
      have hrow := HL.out.row hln
      obtain ⟨hszs, ao, acap, hints, hcl⟩ := HL.out.blk j hjl2
      rw [hideTo_at hjl] at hszs hints hcl
      have HBT := Lib.hid hszs
      have HIN := Lib.hid hints
      have HCL := Lib.hid hcl
      have HROW := Lib.hid hrow
      have HXB : Hid (∀ W : World, W.heap[w.heap.size + 1 + 1]? = some (.cells x.cells 45 (0, 0)) → W.cell? ⟨w.heap.size + 1 + 1, 10, none⟩ = some (.slice (some ⟨g, 0, none⟩) e.f.blocks.length bc)) := Lib.hid (fun W hW => by rw [← hba]; exact hxb.out W hW)
      have HJ := Lib.hid hjl
      have HJ2 := Lib.hid hjl2
      have hji : (j : Int) < e.f.blocks.length := by omega
      have HSO := Lib.hid (HS.out.bel HL.out.ow.b)
      have HNX : Hid (hideTo c op e.f.story n e.f.blocks (j + 1) = (hideTo c op e.f.story n e.f.blocks j).set j (hideB c op e.f.story n e.f.blocks[j] j)) := Lib.hid (hideTo_succ hjl)
      have HNS : Hid (hideB c op e.f.story n e.f.blocks[j] j = e.f.blocks[j] → hideTo c op e.f.story n e.f.blocks (j + 1) = hideTo c op e.f.story n e.f.blocks j) := Lib.hid (hideTo_same hjl)
      have HAT : Hid ((hideTo c op e.f.story n e.f.blocks j)[j] = e.f.blocks[j]) := Lib.hid (hideTo_at hjl)
      generalize e.f.blocks[j] = y at *
      generalize hideTo c op e.f.story n e.f.blocks j = LJ at *
      clear hszs hints hcl hrow hba hjl2
      have HSS : Hid (wo.drew.heap[w.heap.size]? = some (.cells (sceneC (.slice (some ⟨zb, zo, none⟩) es.length zc) cls now (.slice ua O.length uc)) 48 (0, 0)) ∧ wo.drew.heap[w.heap.size + 1 + 1]? = some (.cells x.cells 45 (0, 0)) ∧ wo.drew.heap[g]? = some (.cells cu 56 (0, 0)) ∧ Sees mem wo.drew) := Lib.hid ⟨HL.out.ow.h0, HL.out.ow.h2, HROW.out, HSO.out⟩
      have cB := Lib.hid (cA.out y.lab _ HIN.out wo.drew HSS.out.2.2.2)
      go_upto_region 9 with fail
      refine wp_mix [mT, mT, mT, mT, mT, mT, mT, mT, mT, mF, mF] 1000 (fun W2 => W2.heap[w.heap.size]? = some (.cells (sceneC (.slice (some ⟨zb, zo, none⟩) es.length zc) cls now (.slice ua O.length uc)) 48 (0, 0)) ∧ W2.heap[w.heap.size + 1 + 1]? = some (.cells x.cells 45 (0, 0)) ∧ W2.heap[g]? = some (.cells cu 56 (0, 0)) ∧ Sees mem W2) (by kernel_rfl) (by kernel_rfl) HSS.out ?_
      clear d10
      refine wpMix_take (.agg (sceneC (.slice (some ⟨zb, zo, none⟩) es.length zc) cls now (.slice ua O.length uc))) (fun _ _ _ _ h => h) HSS.out (by rfl) (fun W2 hW => by have q0 : W2.cell? ⟨w.heap.size, 0, none⟩ = some (.slice (some ⟨zb, zo, none⟩) es.length zc) := blk_cell hW.1 0; have q1 : W2.cell? ⟨w.heap.size, 1, none⟩ = some (.int .i64 cls) := blk_cell hW.1 1; have q2 : W2.cell? ⟨w.heap.size, 2, none⟩ = some (.int .i64 now) := blk_cell hW.1 2; have q3 : W2.cell? ⟨w.heap.size, 3, none⟩ = some (.slice ua O.length uc) := blk_cell hW.1 3; go_simp) ?_
      simp only [Act.put, List.setIfInBounds_toArray, List.set_cons_zero, List.set_cons_succ]
      refine wpMix_take (.pointer (some ⟨w.heap.size + 1 + 1, 3, none⟩)) (fun _ _ _ _ h => h) HSS.out (by rfl) (fun W2 hW => by go_simp) ?_
      simp only [Act.put, List.setIfInBounds_toArray, List.set_cons_zero, List.set_cons_succ]
      refine wpMix_take (.int .i64 e.f.story) (fun _ _ _ _ h => h) HSS.out (by rfl) (fun W2 hW => by have q0 := hxs.out _ hW.2.1; go_simp) ?_
      simp only [Act.put, List.setIfInBounds_toArray, List.set_cons_zero, List.set_cons_succ]
      refine wpMix_take (.pointer (some ⟨w.heap.size + 1 + 1, 10, none⟩)) (fun _ _ _ _ h => h) HSS.out (by rfl) (fun W2 hW => by go_simp) ?_
      simp only [Act.put, List.setIfInBounds_toArray, List.set_cons_zero, List.set_cons_succ]
      refine wpMix_take (.slice (some ⟨g, 0, none⟩) e.f.blocks.length bc) (fun _ _ _ _ h => h) HSS.out (by rfl) (fun W2 hW => by have q0 := HXB.out _ hW.2.1; go_simp) ?_
      simp only [Act.put, List.setIfInBounds_toArray, List.set_cons_zero, List.set_cons_succ]
      refine wpMix_take (.int .i64 j) (fun _ _ _ _ h => h) HSS.out (by rfl) (fun W2 hW => by go_simp) ?_
      simp only [Act.put, List.setIfInBounds_toArray, List.set_cons_zero, List.set_cons_succ]
      refine wpMix_take (.pointer (some ⟨g, j * 9, none⟩)) (fun _ _ _ _ h => h) HSS.out (by rfl) (fun W2 hW => by go_simp) ?_
      simp only [Act.put, List.setIfInBounds_toArray, List.set_cons_zero, List.set_cons_succ]
      refine wpMix_take (.pointer (some ⟨g, j * 9 + 5, none⟩)) (fun _ _ _ _ h => h) HSS.out (by rfl) (fun W2 hW => by go_simp) ?_
      simp only [Act.put, List.setIfInBounds_toArray, List.set_cons_zero, List.set_cons_succ]
      refine wpMix_take (.agg (labCells y.lab (.slice ao y.lab.after.length acap))) (fun _ _ _ _ h => h) HSS.out (by rfl) (fun W2 hW => by have q5 := (blk_cell hW.2.2.1 (j * 9 + 5)).trans (HCL.out 5 _ rfl); have q6 := (blk_cell hW.2.2.1 (j * 9 + 6)).trans (HCL.out 6 _ rfl); have q7 := (blk_cell hW.2.2.1 (j * 9 + 7)).trans (HCL.out 7 _ rfl); have q8 := (blk_cell hW.2.2.1 (j * 9 + 8)).trans (HCL.out 8 _ rfl); go_simp) ?_
      simp only [Act.put, List.setIfInBounds_toArray, List.set_cons_zero, List.set_cons_succ]
      refine wpMix_step (fun K hK => ?_)
      go_simp
      refine cB.out.mono ?_
      rintro e1 w5 ⟨rfl, hb⟩
      dsimp only
      have HSS5 : Hid (w5.heap[w.heap.size]? = some (.cells (sceneC (.slice (some ⟨zb, zo, none⟩) es.length zc) cls now (.slice ua O.length uc)) 48 (0, 0)) ∧ w5.heap[w.heap.size + 1 + 1]? = some (.cells x.cells 45 (0, 0)) ∧ w5.heap[g]? = some (.cells cu 56 (0, 0)) ∧ Sees mem w5) := Lib.hid ⟨(hb.block _ (Go.Proofs.YtgbihmafmmeicaaGreatDoor.hlt HSS.out.1)).trans HSS.out.1, (hb.block _ (Go.Proofs.YtgbihmafmmeicaaGreatDoor.hlt HSS.out.2.1)).trans HSS.out.2.1, (hb.block _ (Go.Proofs.YtgbihmafmmeicaaGreatDoor.hlt HSS.out.2.2.1)).trans HSS.out.2.2.1, HSS.out.2.2.2.bel hb⟩
      have HL5 := Lib.hid (HL.out.drew.bel hb)
      refine hK _ _ HSS5.out ?_
      clear hK K hb cB
      refine wpMix_step (fun K hK => ?_); go_simp; refine hK _ _ HSS5.out ?_; clear hK K
      refine wpMix_nil ?_
      clear HSS HL HSO HROW
      have HHY : Hid (op = false ∨ c.ok e.f.story y.lab = false → hideB c op e.f.story n y j = { y with text := if y.kind = 5 then strL [111, 116, 104, 101, 114] else wordF (w64 (n + j)) }) := Lib.hid (fun h => hideB_yes h)
      have HHN : Hid (op = true → c.ok e.f.story y.lab = true → hideB c op e.f.story n y j = y) := Lib.hid (fun h1 h2 => by rw [h1]; exact hideB_no h2)
      generalize hideB c op e.f.story n y j = yh at *
      generalize c.ok e.f.story y.lab = al at *
      have HHID : Hid (op = false ∨ al = false → ∀ (t : ByteArray) wq, t = (if y.kind = 5 then strL [111, 116, 104, 101, 114] else wordF (w64 (n + j))) → ∀ cq, OthL mem w (sceneC (.slice (some ⟨zb, zo, none⟩) es.length zc) cls now (.slice ua O.length uc)) x.cells g (LJ.set j { y with text := t }) cq wq → OthL mem w (sceneC (.slice (some ⟨zb, zo, none⟩) es.length zc) cls now (.slice ua O.length uc)) x.cells g (hideTo c op e.f.story n e.f.blocks (j + 1)) cq wq) := Lib.hid (fun ho t wq ht cq h => by
        rw [HNX.out, HHY.out ho, ← ht]; exact h)
      cases op with
      | false =>
        go_upto_region 11 with fail
        have HS6 : Hid (w5.drew.heap[w.heap.size + 1 + 1]? = some (.cells x.cells 45 (0, 0)) ∧ w5.drew.heap[g]? = some (.cells cu 56 (0, 0))) := Lib.hid ⟨HSS5.out.2.1, HSS5.out.2.2.1⟩
        have cX := Lib.hid (word_any (w64 (n + j)) (w64_in _) w5.drew)
        refine wp_mix [mT, mT, mT, mT, mT, mT, mF, mF, mF, mL] 9 (fun W2 => W2.heap[w.heap.size + 1 + 1]? = some (.cells x.cells 45 (0, 0)) ∧ W2.heap[g]? = some (.cells cu 56 (0, 0))) (by kernel_rfl) (by kernel_rfl) HS6.out ?_
        refine wpMix_take (.pointer (some ⟨w.heap.size + 1 + 1, 10, none⟩)) (fun _ _ _ _ h => h) HS6.out (by rfl) (fun W2 hW => by go_simp) ?_
        simp only [Act.put, List.setIfInBounds_toArray, List.set_cons_zero, List.set_cons_succ]
        refine wpMix_take (.slice (some ⟨g, 0, none⟩) e.f.blocks.length bc) (fun _ _ _ _ h => h) HS6.out (by rfl) (fun W2 hW => by have q0 := HXB.out _ hW.1; go_simp) ?_
        simp only [Act.put, List.setIfInBounds_toArray, List.set_cons_zero, List.set_cons_succ]
        refine wpMix_take (.int .i64 j) (fun _ _ _ _ h => h) HS6.out (by rfl) (fun W2 hW => by go_simp) ?_
        simp only [Act.put, List.setIfInBounds_toArray, List.set_cons_zero, List.set_cons_succ]
        refine wpMix_take (.int .i64 n) (fun _ _ _ _ h => h) HS6.out (by rfl) (fun W2 hW => by go_simp) ?_
        simp only [Act.put, List.setIfInBounds_toArray, List.set_cons_zero, List.set_cons_succ]
        refine wpMix_take (.int .i64 j) (fun _ _ _ _ h => h) HS6.out (by rfl) (fun W2 hW => by go_simp) ?_
        simp only [Act.put, List.setIfInBounds_toArray, List.set_cons_zero, List.set_cons_succ]
        refine wpMix_take (.int .i64 (w64 (n + j))) (fun _ _ _ _ h => h) HS6.out (by rfl) (fun W2 hW => by unfold w64; go_simp) ?_
        simp only [Act.put, List.setIfInBounds_toArray, List.set_cons_zero, List.set_cons_succ]
        refine wpMix_step (fun K hK => ?_)
        go_simp
        refine cX.out.mono ?_
        rintro e1 w6 ⟨rfl, hb⟩
        dsimp only
        have HL6 := Lib.hid (HL5.out.drew.bel hb)
        have HS7 : Hid (w6.heap[w.heap.size + 1 + 1]? = some (.cells x.cells 45 (0, 0)) ∧ w6.heap[g]? = some (.cells cu 56 (0, 0))) := Lib.hid ⟨(hb.block _ (Go.Proofs.YtgbihmafmmeicaaGreatDoor.hlt HS6.out.1)).trans HS6.out.1, (hb.block _ (Go.Proofs.YtgbihmafmmeicaaGreatDoor.hlt HS6.out.2)).trans HS6.out.2⟩
        refine hK _ _ HS7.out ?_
        clear hK K hb cX
        refine wpMix_step (fun K hK => ?_); go_simp; refine hK _ _ HS7.out ?_; clear hK K
        refine wpMix_step (fun K hK => ?_); go_simp; refine hK _ _ HS7.out ?_; clear hK K
        refine wpMix_last (fun K hK => ?_)
        have q2 : w6.cell? ⟨g, j * 9 + 2, none⟩ = some (.string y.text) := (blk_cell HS7.out.2 (j * 9 + 2)).trans (HCL.out 2 _ rfl)
        have r2 := blk_free HS7.out.2 (j * 9 + 2)
        go_simp
        refine hK _ _ ?_
        clear hK K q2 r2
        refine wpMix_nil ?_
        have hset := HL6.out.set hgz HJ2.out (wordF (w64 (n + j))) (word_ok _) y HAT.out
        have HL7 := Lib.hid hset
        have hk7 : (cu.setIfInBounds (j * 9 + 2) (.string (wordF (w64 (n + j)))))[j * 9 + 1]? = some (.int .i64 y.kind) := by rw [Array.getElem?_setIfInBounds_ne (by omega)]; exact HCL.out 1 _ rfl
        have HK7 := Lib.hid hk7
        clear hset hk7 HL6 HS7 HS6 HSS5 HL5
        generalize World.setCell w6 _ _ = w7 at *
        have HJL : Hid (0 < (LJ.set j { y with text := wordF (w64 (n + j)) }).length) := Lib.hid (by rw [List.length_set]; have := HJ2.out; omega)
        have d10 := HXB.out _ HL7.out.ow.h2
        have e1 : w7.cell? ⟨g, j * 9 + 1, none⟩ = some (.int .i64 y.kind) := (blk_cell (HL7.out.row HJL.out) (j * 9 + 1)).trans HK7.out
        by_cases hk5 : y.kind = 5
        · have HEND := Lib.hid (HHID.out (.inl (by first | rfl | trivial)) (strL [111, 116, 104, 101, 114]))
          have HIF : Hid (strL [111, 116, 104, 101, 114] = (if y.kind = 5 then strL [111, 116, 104, 101, 114] else wordF (w64 (n + j)))) := Lib.hid (by rw [if_pos hk5])
          have hsz7 : (j : Nat) < (LJ.set j { y with text := wordF (w64 (n + j)) }).length := by rw [List.length_set]; exact HJ2.out
          have hset := HL7.out.set hgz hsz7 (strL [111, 116, 104, 101, 114]) oth_len { y with text := wordF (w64 (n + j)) } (List.getElem_set_self _)
          rw [List.set_set] at hset
          have HL8 := Lib.hid hset
          have e2 := (blk_cell (HL7.out.row HJL.out) (j * 9 + 2))
          have hc2 : (cu.setIfInBounds (j * 9 + 2) (.string (wordF (w64 (n + j)))))[j * 9 + 2]? = some (.string (wordF (w64 (n + j)))) := by
            rw [Array.getElem?_setIfInBounds_self_of_lt]
            exact (Array.getElem?_eq_some_iff.1 (HCL.out 2 _ rfl)).1
          rw [hc2] at e2
          have r2 := blk_free (HL7.out.row HJL.out) (j * 9 + 2)
          rw [hk5] at e1
          clear hset hc2 hsz7 hk5
          go_wp2_with fail
          go_roundw
          case rel => exact ⟨j + 1, _, by omega, by go_num, Lib.hid (HEND.out _ HIF.out _ HL8.out)⟩
          case measure => simp [intOf]; omega
        · have HEND := Lib.hid (HHID.out (.inl (by first | rfl | trivial)) (wordF (w64 (n + j))))
          have HIF : Hid (wordF (w64 (n + j)) = (if y.kind = 5 then strL [111, 116, 104, 101, 114] else wordF (w64 (n + j)))) := Lib.hid (by rw [if_neg hk5])
          have b5 : (y.kind == 5) = false := by simpa using hk5
          clear hk5
          go_wp2_with fail
          go_roundw
          case rel => exact ⟨j + 1, _, by omega, by go_num, Lib.hid (HEND.out _ HIF.out _ HL7.out)⟩
          case measure => simp [intOf]; omega
      | true =>
        cases al with
        | true =>
          have HNO : Hid (hideTo c true e.f.story n e.f.blocks (j + 1) = LJ) := Lib.hid (HNS.out (HHN.out (by first | rfl | trivial) (by first | rfl | trivial)))
          go_wp2_with fail
          go_roundw
          case rel => exact ⟨j + 1, cu, by omega, by go_num, by rw [HNO.out]; exact HL5⟩
          case measure => simp [intOf]; omega
        | false =>
          go_upto_region 11 with fail
          have HS6 : Hid (w5.drew.heap[w.heap.size + 1 + 1]? = some (.cells x.cells 45 (0, 0)) ∧ w5.drew.heap[g]? = some (.cells cu 56 (0, 0))) := Lib.hid ⟨HSS5.out.2.1, HSS5.out.2.2.1⟩
          have cX := Lib.hid (word_any (w64 (n + j)) (w64_in _) w5.drew)
          refine wp_mix [mT, mT, mT, mT, mT, mT, mF, mF, mF, mL] 9 (fun W2 => W2.heap[w.heap.size + 1 + 1]? = some (.cells x.cells 45 (0, 0)) ∧ W2.heap[g]? = some (.cells cu 56 (0, 0))) (by kernel_rfl) (by kernel_rfl) HS6.out ?_
          refine wpMix_take (.pointer (some ⟨w.heap.size + 1 + 1, 10, none⟩)) (fun _ _ _ _ h => h) HS6.out (by rfl) (fun W2 hW => by go_simp) ?_
          simp only [Act.put, List.setIfInBounds_toArray, List.set_cons_zero, List.set_cons_succ]
          refine wpMix_take (.slice (some ⟨g, 0, none⟩) e.f.blocks.length bc) (fun _ _ _ _ h => h) HS6.out (by rfl) (fun W2 hW => by have q0 := HXB.out _ hW.1; go_simp) ?_
          simp only [Act.put, List.setIfInBounds_toArray, List.set_cons_zero, List.set_cons_succ]
          refine wpMix_take (.int .i64 j) (fun _ _ _ _ h => h) HS6.out (by rfl) (fun W2 hW => by go_simp) ?_
          simp only [Act.put, List.setIfInBounds_toArray, List.set_cons_zero, List.set_cons_succ]
          refine wpMix_take (.int .i64 n) (fun _ _ _ _ h => h) HS6.out (by rfl) (fun W2 hW => by go_simp) ?_
          simp only [Act.put, List.setIfInBounds_toArray, List.set_cons_zero, List.set_cons_succ]
          refine wpMix_take (.int .i64 j) (fun _ _ _ _ h => h) HS6.out (by rfl) (fun W2 hW => by go_simp) ?_
          simp only [Act.put, List.setIfInBounds_toArray, List.set_cons_zero, List.set_cons_succ]
          refine wpMix_take (.int .i64 (w64 (n + j))) (fun _ _ _ _ h => h) HS6.out (by rfl) (fun W2 hW => by unfold w64; go_simp) ?_
          simp only [Act.put, List.setIfInBounds_toArray, List.set_cons_zero, List.set_cons_succ]
          refine wpMix_step (fun K hK => ?_)
          go_simp
          refine cX.out.mono ?_
          rintro e1 w6 ⟨rfl, hb⟩
          dsimp only
          have HL6 := Lib.hid (HL5.out.drew.bel hb)
          have HS7 : Hid (w6.heap[w.heap.size + 1 + 1]? = some (.cells x.cells 45 (0, 0)) ∧ w6.heap[g]? = some (.cells cu 56 (0, 0))) := Lib.hid ⟨(hb.block _ (Go.Proofs.YtgbihmafmmeicaaGreatDoor.hlt HS6.out.1)).trans HS6.out.1, (hb.block _ (Go.Proofs.YtgbihmafmmeicaaGreatDoor.hlt HS6.out.2)).trans HS6.out.2⟩
          refine hK _ _ HS7.out ?_
          clear hK K hb cX
          refine wpMix_step (fun K hK => ?_); go_simp; refine hK _ _ HS7.out ?_; clear hK K
          refine wpMix_step (fun K hK => ?_); go_simp; refine hK _ _ HS7.out ?_; clear hK K
          refine wpMix_last (fun K hK => ?_)
          have q2 : w6.cell? ⟨g, j * 9 + 2, none⟩ = some (.string y.text) := (blk_cell HS7.out.2 (j * 9 + 2)).trans (HCL.out 2 _ rfl)
          have r2 := blk_free HS7.out.2 (j * 9 + 2)
          go_simp
          refine hK _ _ ?_
          clear hK K q2 r2
          refine wpMix_nil ?_
          have hset := HL6.out.set hgz HJ2.out (wordF (w64 (n + j))) (word_ok _) y HAT.out
          have HL7 := Lib.hid hset
          have hk7 : (cu.setIfInBounds (j * 9 + 2) (.string (wordF (w64 (n + j)))))[j * 9 + 1]? = some (.int .i64 y.kind) := by rw [Array.getElem?_setIfInBounds_ne (by omega)]; exact HCL.out 1 _ rfl
          have HK7 := Lib.hid hk7
          clear hset hk7 HL6 HS7 HS6 HSS5 HL5
          generalize World.setCell w6 _ _ = w7 at *
          have HJL : Hid (0 < (LJ.set j { y with text := wordF (w64 (n + j)) }).length) := Lib.hid (by rw [List.length_set]; have := HJ2.out; omega)
          have d10 := HXB.out _ HL7.out.ow.h2
          have e1 : w7.cell? ⟨g, j * 9 + 1, none⟩ = some (.int .i64 y.kind) := (blk_cell (HL7.out.row HJL.out) (j * 9 + 1)).trans HK7.out
          by_cases hk5 : y.kind = 5
          · have HEND := Lib.hid (HHID.out (.inr (by first | rfl | trivial)) (strL [111, 116, 104, 101, 114]))
            have HIF : Hid (strL [111, 116, 104, 101, 114] = (if y.kind = 5 then strL [111, 116, 104, 101, 114] else wordF (w64 (n + j)))) := Lib.hid (by rw [if_pos hk5])
            have hsz7 : (j : Nat) < (LJ.set j { y with text := wordF (w64 (n + j)) }).length := by rw [List.length_set]; exact HJ2.out
            have hset := HL7.out.set hgz hsz7 (strL [111, 116, 104, 101, 114]) oth_len { y with text := wordF (w64 (n + j)) } (List.getElem_set_self _)
            rw [List.set_set] at hset
            have HL8 := Lib.hid hset
            have e2 := (blk_cell (HL7.out.row HJL.out) (j * 9 + 2))
            have hc2 : (cu.setIfInBounds (j * 9 + 2) (.string (wordF (w64 (n + j)))))[j * 9 + 2]? = some (.string (wordF (w64 (n + j)))) := by
              rw [Array.getElem?_setIfInBounds_self_of_lt]
              exact (Array.getElem?_eq_some_iff.1 (HCL.out 2 _ rfl)).1
            rw [hc2] at e2
            have r2 := blk_free (HL7.out.row HJL.out) (j * 9 + 2)
            rw [hk5] at e1
            clear hset hc2 hsz7 hk5
            go_wp2_with fail
            go_roundw
            case rel => exact ⟨j + 1, _, by omega, by go_num, Lib.hid (HEND.out _ HIF.out _ HL8.out)⟩
            case measure => simp [intOf]; omega
          · have HEND := Lib.hid (HHID.out (.inr (by first | rfl | trivial)) (wordF (w64 (n + j))))
            have HIF : Hid (wordF (w64 (n + j)) = (if y.kind = 5 then strL [111, 116, 104, 101, 114] else wordF (w64 (n + j)))) := Lib.hid (by rw [if_neg hk5])
            have b5 : (y.kind == 5) = false := by simpa using hk5
            clear hk5
            go_wp2_with fail
            go_roundw
            case rel => exact ⟨j + 1, _, by omega, by go_num, Lib.hid (HEND.out _ HIF.out _ HL7.out)⟩
            case measure => simp [intOf]; omega
    · obtain rfl : j = e.f.blocks.length := by omega
      have HBC := Lib.hid HL.out.blk
      have HRG : Hid (0 < e.f.blocks.length → wo.heap[g]? = some (.cells cu 56 (0, 0))) := Lib.hid (fun h0 => HL.out.row (by rw [hideTo_len]; exact h0))
      have HOW := Lib.hid HL.out.ow
      clear HL hjl hj
      cases op with
      | true =>
        obtain ⟨y, hy⟩ : ∃ y : FctE, y = ⟨{ e.f with blocks := hideTo c true e.f.story n e.f.blocks e.f.blocks.length }, e.ta, e.tc, ba, bc, e.aa, e.ac⟩ := ⟨_, rfl⟩
        have hcc : x.cells = y.cells := by
          rw [hy, HX.out]
          unfold FctE.cells FctE.bv
          simp only [hideTo_len]
        rw [hcc] at HOW
        have HY := Lib.hid hy
        have hsz2 : Hid (y.cells.size = 23) := Lib.hid rfl
        have hone2 := Lib.hid y.one
        clear hcc hy
        go_wp2_with (first
          | ((with_reducible refine at_fload _ rfl ?_); go_must (refine wpList_fct_load rfl _ rfl (w.heap.size + 1 + 1) (by simp [Act.eval]) _ HOW.out.h2 hsz2.out ?_))
          | ((with_reducible refine at_fstore _ _ rfl ?_); go_must (refine wpList_store_rowTo rfl 45 _ _ rfl rfl (w.heap.size + 1) _ (by simp [Act.eval, Act.put]) (by simp [Act.eval, Act.put]) 45 _ HOW.out.h1 (by rw [fct_size, hsz2.out]) (by rw [hsz2.out]; rfl) hone2.out ?_)))
        obtain ⟨fs, hun⟩ := fct_under
        refine bodyPost_ret (results_cell_row (p := 6) (ty := 45) (by kernel_rfl) _ _ (w.heap.size + 1) _ y.cells (0, 0) _ (by simp) (setRow_heap _ _ _ _ _ _ HOW.out.h1) hun rfl (by rw [fct_size, hsz2.out])) rfl ?_
        have hb : Below w.heap.size w (wo.setRow (w.heap.size + 1) y.cells) := below_setRow HOW.out.b (by omega) _
        refine ⟨y, rfl, by rw [HY.out, HF'.out]; rfl, ?_, hb⟩
        have hold := memN_old (W := wo.setRow (w.heap.size + 1) y.cells) HS.out
        have hk := HOK.out.fok
        have hpp := HOK.out.parts
        generalize hgen : memN mem w.heap.size (wo.setRow (w.heap.size + 1) y.cells) = MM at hold ⊢
        have hblk : BlksM MM (.slice ba (hideTo c true e.f.story n e.f.blocks e.f.blocks.length).length bc) (hideTo c true e.f.story n e.f.blocks e.f.blocks.length) := by
          rw [← hgen]
          refine blkc_m (g := g) HBC.out (by rw [hgen]; exact hold) (by rw [hideTo_len]; exact HC2.out.1) HC2.out.2 (fun h0 => ?_)
          rw [hideTo_len] at h0
          obtain ⟨h1, h2⟩ := HGB.out h0
          exact ⟨h1, by omega, (setRow_other _ _ _ _ (by omega)).trans (HRG.out h0)⟩
        rw [HY.out]
        exact ⟨⟨hk.i0, hk.i1, hk.i2, hk.i3, hk.s4, hk.i5, hk.i6, hk.s7, hk.s8, hk.i11, hk.i13, hk.i14, hk.i15, hk.i16, hk.i17, hk.s18, hk.s19, hk.i20, hk.i21, hk.i22, fun z hz => by obtain ⟨q, hq, rfl⟩ := List.getElem_of_mem hz; exact (HBC.out q hq).1⟩, hpp.1.mono hold, hblk, hpp.2.2.mono hold⟩
      | false =>
        have d7 : wo.cell? ⟨w.heap.size + 1 + 1, 7, none⟩ = some (.string e.f.title) := (HOW.out.c2 7).trans (by rw [HX.out]; rfl)
        go_wp2_with fail
        refine (cW.out wo).mono ?_
        rintro e1 w3 ⟨rfl, hb⟩
        have HO3 := Lib.hid (HOW.out.bel hb)
        have HRG3 : Hid (0 < e.f.blocks.length → w3.heap[g]? = some (.cells cu 56 (0, 0))) := Lib.hid (fun h0 => (hb.block _ (Go.Proofs.YtgbihmafmmeicaaGreatDoor.hlt (HRG.out h0))).trans (HRG.out h0))
        clear d7 hb
        have d7 : w3.cell? ⟨w.heap.size + 1 + 1, 7, none⟩ = some (.string e.f.title) := (HO3.out.c2 7).trans (by rw [HX.out]; rfl)
        have f7 := HO3.out.f2 7
        have HO4 := Lib.hid (HO3.out.set2 7 (.string (wordF n)))
        have HRG4 : Hid (0 < e.f.blocks.length → (w3.setCell ⟨w.heap.size + 1 + 1, 7, none⟩ (.string (wordF n))).heap[g]? = some (.cells cu 56 (0, 0))) := Lib.hid (fun h0 => ((upd_cell w3 (w.heap.size + 1 + 1) 7 _).block _ (Go.Proofs.YtgbihmafmmeicaaGreatDoor.hlt (HRG3.out h0)) (by have := (HGB.out h0).2; omega)).trans (HRG3.out h0))
        go_upto_region 16 with fail
        generalize World.setCell w3 _ _ = w4 at *
        clear d7 f7 HRG3 HO3
        have d8 : w4.cell? ⟨w.heap.size + 1 + 1, 8, none⟩ = some (.string e.f.author) := (HO4.out.c2 8).trans (by rw [HX.out]; rfl)
        have f8 := HO4.out.f2 8
        have HO5 := Lib.hid (HO4.out.set2 8 (.string ⟨#[111, 116, 104, 101, 114]⟩))
        have HRG5 : Hid (0 < e.f.blocks.length → (w4.setCell ⟨w.heap.size + 1 + 1, 8, none⟩ (.string ⟨#[111, 116, 104, 101, 114]⟩)).heap[g]? = some (.cells cu 56 (0, 0))) := Lib.hid (fun h0 => ((upd_cell w4 (w.heap.size + 1 + 1) 8 _).block _ (Go.Proofs.YtgbihmafmmeicaaGreatDoor.hlt (HRG4.out h0)) (by have := (HGB.out h0).2; omega)).trans (HRG4.out h0))
        go_upto_region 17 with fail
        generalize World.setCell w4 _ _ = w5 at *
        clear d8 f8 HRG4 HO4
        have hbl := (Below.refl _ w5).alloc (Nat.le_refl _) (.cells #[.string ⟨#[115, 101, 99, 114, 101, 116]⟩] 9)
        have d9 : (w5.alloc (.cells #[.string ⟨#[115, 101, 99, 114, 101, 116]⟩] 9)).cell? ⟨w.heap.size + 1 + 1, 9, none⟩ = some e.tv := ((HO5.out.bel hbl).c2 9).trans (by rw [HX.out]; rfl)
        have f9 := (HO5.out.bel hbl).f2 9
        have hwh : Hid (w.heap.size ≤ w5.heap.size) := Lib.hid HO5.out.b.size
        have HNZ : Hid (w.heap.size + 1 + 1 < w5.heap.size) := Lib.hid HO5.out.lt
        have HO7 := Lib.hid ((HO5.out.bel hbl).set2 9 (.slice (some ⟨w5.heap.size, 0, none⟩) 1 1))
        have HRG7 : Hid (0 < e.f.blocks.length → ((w5.alloc (.cells #[.string ⟨#[115, 101, 99, 114, 101, 116]⟩] 9)).setCell ⟨w.heap.size + 1 + 1, 9, none⟩ (.slice (some ⟨w5.heap.size, 0, none⟩) 1 1)).heap[g]? = some (.cells cu 56 (0, 0))) := Lib.hid (fun h0 => ((upd_cell _ (w.heap.size + 1 + 1) 9 _).block _ (by simp; exact Nat.lt_succ_of_lt (Go.Proofs.YtgbihmafmmeicaaGreatDoor.hlt (HRG5.out h0))) (by have := (HGB.out h0).2; omega)).trans ((hbl.block _ (Go.Proofs.YtgbihmafmmeicaaGreatDoor.hlt (HRG5.out h0))).trans (HRG5.out h0)))
        have HNS7 : Hid (((w5.alloc (.cells #[.string ⟨#[115, 101, 99, 114, 101, 116]⟩] 9)).setCell ⟨w.heap.size + 1 + 1, 9, none⟩ (.slice (some ⟨w5.heap.size, 0, none⟩) 1 1)).heap[w5.heap.size]? = some (.cells #[.string ⟨#[115, 101, 99, 114, 101, 116]⟩] 9 (0, 0))) := Lib.hid (((upd_cell _ (w.heap.size + 1 + 1) 9 _).block _ (by simp) (by have := HNZ.out; omega)).trans (World.alloc_heap_new w5 _))
        clear hbl
        go_upto_region 27 with fail
        obtain ⟨w7, hw7⟩ : ∃ w7, w7 = (w5.alloc (.cells #[.string ⟨#[115, 101, 99, 114, 101, 116]⟩] 9)).setCell ⟨w.heap.size + 1 + 1, 9, none⟩ (.slice (some ⟨w5.heap.size, 0, none⟩) 1 1) := ⟨_, rfl⟩
        rw [← hw7] at HO7 HRG7 HNS7
        rw [← hw7]
        clear hw7
        obtain ⟨y, hy⟩ : ∃ y : FctE, y = ⟨{ e.f with blocks := hideTo c false e.f.story n e.f.blocks e.f.blocks.length, title := wordF n, author := strL [111, 116, 104, 101, 114], topics := [strL [115, 101, 99, 114, 101, 116]] }, some ⟨w5.heap.size, 0, none⟩, 1, ba, bc, e.aa, e.ac⟩ := ⟨_, rfl⟩
        have hcc : ((x.cells.setIfInBounds 7 (.string (wordF n))).setIfInBounds 8 (.string ⟨#[111, 116, 104, 101, 114]⟩)).setIfInBounds 9 (.slice (some ⟨w5.heap.size, 0, none⟩) 1 1) = y.cells := by
          rw [hy, HX.out]
          unfold FctE.cells FctE.bv FctE.tv
          simp only [hideTo_len]
          rfl
        rw [hcc] at HO7
        have HY := Lib.hid hy
        have hsz2 : Hid (y.cells.size = 23) := Lib.hid rfl
        have hone2 := Lib.hid y.one
        have HRG := HRG7
        clear hcc hy d9 f9 HO5 HRG5 HRG7
        go_wp2_with (first
          | ((with_reducible refine at_fload _ rfl ?_); go_must (refine wpList_fct_load rfl _ rfl (w.heap.size + 1 + 1) (by simp [Act.eval]) _ HO7.out.h2 hsz2.out ?_))
          | ((with_reducible refine at_fstore _ _ rfl ?_); go_must (refine wpList_store_rowTo rfl 45 _ _ rfl rfl (w.heap.size + 1) _ (by simp [Act.eval, Act.put]) (by simp [Act.eval, Act.put]) 45 _ HO7.out.h1 (by rw [fct_size, hsz2.out]) (by rw [hsz2.out]; rfl) hone2.out ?_)))
        obtain ⟨fs, hun⟩ := fct_under
        refine bodyPost_ret (results_cell_row (p := 6) (ty := 45) (by kernel_rfl) _ _ (w.heap.size + 1) _ y.cells (0, 0) _ (by simp) (setRow_heap _ _ _ _ _ _ HO7.out.h1) hun rfl (by rw [fct_size, hsz2.out])) rfl ?_
        have hb : Below w.heap.size w (w7.setRow (w.heap.size + 1) y.cells) := below_setRow HO7.out.b (by omega) _
        refine ⟨y, rfl, by rw [HY.out, HF'.out]; rfl, ?_, hb⟩
        have hold := memN_old (W := w7.setRow (w.heap.size + 1) y.cells) HS.out
        have hk := HOK.out.fok
        have hpp := HOK.out.parts
        generalize hgen : memN mem w.heap.size (w7.setRow (w.heap.size + 1) y.cells) = MM at hold ⊢
        have hblk : BlksM MM (.slice ba (hideTo c false e.f.story n e.f.blocks e.f.blocks.length).length bc) (hideTo c false e.f.story n e.f.blocks e.f.blocks.length) := by
          rw [← hgen]
          refine blkc_m (g := g) HBC.out (by rw [hgen]; exact hold) (by rw [hideTo_len]; exact HC2.out.1) HC2.out.2 (fun h0 => ?_)
          rw [hideTo_len] at h0
          obtain ⟨h1, h2⟩ := HGB.out h0
          exact ⟨h1, by omega, (setRow_other _ _ _ _ (by omega)).trans (HRG.out h0)⟩
        rw [HY.out]
        have hts : StrsM MM (.slice (some ⟨w5.heap.size, 0, none⟩) 1 1) [strL [115, 101, 99, 114, 101, 116]] := by
          rw [← hgen]
          refine ⟨w5.heap.size, 0, ⟨by show 1 ≤ maxLen; unfold maxLen; omega, _, _, rfl, Nat.le_refl _, by unfold maxLen; omega, fun _ => rfl⟩, fun s hs => by rw [List.mem_singleton.1 hs]; exact sec_len, fun q hq => ?_⟩
          obtain rfl : q = 0 := by simp at hq; omega
          refine memN_new hwh.out ?_
          exact blk_cell ((setRow_other _ _ _ _ (by have := hwh.out; have := HO7.out.lt; have := HNZ.out; omega)).trans HNS7.out) 0
        exact ⟨⟨hk.i0, hk.i1, hk.i2, hk.i3, hk.s4, hk.i5, hk.i6, word_ok n, oth_len, hk.i11, hk.i13, hk.i14, hk.i15, hk.i16, hk.i17, hk.s18, hk.s19, hk.i20, hk.i21, hk.i22, fun z hz => by obtain ⟨q, hq, rfl⟩ := List.getElem_of_mem hz; exact (HBC.out q hq).1⟩, hts, hblk, hpp.2.2.mono hold⟩
end Go.Proofs.YtgbihmafmmeicaaGreatDoor
namespace Go.Proofs.YtgbihmafmmeicaaGreatDoor
open Go.RowKit Mg Go.Shelf

theorem word_text (n : Int) : textOK (wordF n) = true ∧ decide (1 ≤ (wordF n).size) = true := by
  obtain ⟨p0, p1⟩ := pickF_lt (c := n) (n := 26) (by omega)
  obtain ⟨q0, q1⟩ := pickF_lt (c := n.tdiv 26) (n := 26) (by omega)
  have e1 := byteOf_nat (x := 97 + pickF n 26) (by omega) (by omega)
  have e2 := byteOf_nat (x := 97 + pickF (n.tdiv 26) 26) (by omega) (by omega)
  constructor
  · unfold textOK
    rw [word_size]
    simp only [wordF, wordL, List.all_append, List.all_cons, List.all_nil, Bool.and_true, Bool.and_eq_true, decide_eq_true_eq]
    refine ⟨by omega, ⟨⟨by decide, ⟨⟨by omega, by omega⟩, ⟨by omega, by omega⟩⟩⟩, by decide⟩⟩
  · rw [word_size]; rfl
theorem word_full (n : Int) : fullOK (wordF n) = true := by
  unfold fullOK
  rw [(word_text n).1, (word_text n).2]; rfl
theorem hideB_valid {c : Scn} {op : Bool} {s n : Int} {b : Blk} {k : Nat} (h : validBlk b = true) : validBlk (hideB c op s n b k) = true := by
  unfold hideB
  split
  · unfold validBlk at h ⊢
    simp only [Bool.and_eq_true, decide_eq_true_eq] at h ⊢
    refine ⟨h.1, ?_⟩
    have h2 := h.2
    obtain ⟨w1, w2⟩ := word_text (w64 (n + k))
    unfold kindOK at h2 ⊢
    dsimp only
    by_cases h5 : b.kind = 5
    · rw [if_neg (by omega), if_pos h5] at h2 ⊢
      rw [if_pos h5]
      simp only [Bool.and_eq_true] at h2 ⊢
      exact ⟨⟨by decide, h2.1.2⟩, h2.2⟩
    · rw [if_neg h5]
      by_cases h1 : b.kind = 1 ∨ b.kind = 2 ∨ b.kind = 4
      · rw [if_pos h1] at h2 ⊢
        simp only [Bool.and_eq_true] at h2 ⊢
        exact ⟨⟨⟨w2, w1⟩, h2.1.2⟩, h2.2⟩
      · rw [if_neg h1, if_neg h5] at h2 ⊢
        by_cases h3 : b.kind = 3
        · rw [if_pos h3] at h2 ⊢
          simp only [Bool.and_eq_true] at h2 ⊢
          exact ⟨⟨⟨⟨w1, h2.1.1.1.2⟩, h2.1.1.2⟩, h2.1.2⟩, h2.2⟩
        · rw [if_neg h3] at h2; cases h2
  · exact h
theorem hideL_valid {c : Scn} {op : Bool} {s n : Int} {l : List Blk} (h : ValidL l) : ValidL (l.mapIdx fun k b => hideB c op s n b k) := by
  obtain ⟨h1, h2, h3⟩ := h
  refine ⟨by rw [List.length_mapIdx]; exact h1, fun b hb => ?_, ?_⟩
  · obtain ⟨j, hj, rfl⟩ := List.getElem_of_mem hb
    rw [List.getElem_mapIdx]
    exact hideB_valid (h2 _ (List.getElem_mem _))
  · have e : ids (l.mapIdx fun k b => hideB c op s n b k) = ids l := by
      unfold ids
      refine List.ext_getElem (by simp) fun j a1 a2 => ?_
      rw [List.getElem_map, List.getElem_map, List.getElem_mapIdx]
      exact (hideB_same _ _ _ _ _ _).1
    rw [e]; exact h3
theorem other_valid {c : Scn} {pl : Plc} {n : Int} {f : Fct} (h : validF f = true) : validF (otherF c pl n f) = true := by
  obtain ⟨h1, h2, h3, h4⟩ := valid_un h
  unfold otherF
  by_cases k1 : f.kind = 1
  · rw [if_pos k1]
    have hr := validF_revise h k1
    have hst := validF_story h (.inl k1)
    have hu : usedF f = { bare f with story := f.story, lang := f.lang, rev := f.rev, base := f.base, title := f.title, author := f.author, topics := f.topics, blocks := f.blocks, lab := f.lab } := by unfold usedF; rw [if_pos k1]
    unfold reviseOK at hr
    simp only [Bool.and_eq_true, decide_eq_true_eq] at hr
    obtain ⟨⟨⟨⟨⟨⟨⟨q1, q2⟩, q3⟩, q4⟩, q5⟩, q6⟩, q7⟩, q8⟩ := hr
    split
    · refine valid_mk h1 h2 ?_ ?_
      · unfold fieldsOK
        rw [if_pos (show f.kind = 1 from k1), Bool.and_eq_true]
        refine ⟨inR_iff.2 hst, ?_⟩
        unfold reviseOK
        simp only [Bool.and_eq_true, decide_eq_true_eq]
        exact ⟨⟨⟨⟨⟨⟨⟨q1, q2⟩, q3⟩, word_full n⟩, by decide⟩, by decide⟩, hideL_valid q7⟩, q8⟩
      · refine (congrArg (fun g : Fct => { g with blocks := f.blocks.mapIdx (fun k b => hideB c false f.story n b k), title := wordF n, author := strL [111, 116, 104, 101, 114], topics := [strL [115, 101, 99, 114, 101, 116]] }) (h4.trans hu)).trans ?_
        unfold usedF
        rw [if_pos (show f.kind = 1 from k1)]
        rfl
    · refine valid_mk h1 h2 ?_ ?_
      · unfold fieldsOK
        rw [if_pos (show f.kind = 1 from k1), Bool.and_eq_true]
        refine ⟨inR_iff.2 hst, ?_⟩
        unfold reviseOK
        simp only [Bool.and_eq_true, decide_eq_true_eq]
        exact ⟨⟨⟨⟨⟨⟨⟨q1, q2⟩, q3⟩, q4⟩, q5⟩, q6⟩, hideL_valid q7⟩, q8⟩
      · refine (congrArg (fun g : Fct => { g with blocks := f.blocks.mapIdx (fun k b => hideB c true f.story n b k) }) (h4.trans hu)).trans ?_
        unfold usedF
        rw [if_pos (show f.kind = 1 from k1)]
        rfl
  · rw [if_neg k1]
    by_cases k4 : f.kind = 4
    · rw [if_pos k4]
      split
      · exact h
      · obtain ⟨p0, p1⟩ := pickF_lt (c := n) (n := 4) (by omega)
        have hu : usedF f = { bare f with story := f.story, lang := f.lang, block := f.block, sentence := f.sentence, text := f.text } := by unfold usedF; rw [if_neg (by omega), if_neg (by omega), if_neg (by omega), if_pos k4]
        refine valid_mk h1 h2 ?_ ?_
        · unfold fieldsOK at h3 ⊢
          dsimp only
          rw [if_neg (by omega), if_neg (by omega), if_neg (by omega), if_pos k4] at h3 ⊢
          unfold storyOK correctOK at h3 ⊢
          simp only [Bool.and_eq_true] at h3 ⊢
          exact ⟨h3.1, ⟨⟨⟨h3.2.1.1.1, h3.2.1.1.2⟩, inR_iff.2 ⟨p0, by omega⟩⟩, word_full n⟩⟩
        · refine (congrArg (fun g : Fct => { g with text := wordF n, sentence := pickF n 4 }) (h4.trans hu)).trans ?_
          unfold usedF
          dsimp only
          rw [if_neg (by omega), if_neg (by omega), if_neg (by omega), if_pos k4]
          rfl
    · rw [if_neg k4]
      by_cases k5 : f.kind = 5
      · rw [if_pos k5]
        split
        · exact h
        · have hu : usedF f = { bare f with story := f.story, text := f.text } := by unfold usedF; rw [if_neg (by omega), if_neg (by omega), if_neg (by omega), if_neg (by omega), if_pos k5]
          refine valid_mk h1 h2 ?_ ?_
          · unfold fieldsOK at h3 ⊢
            dsimp only
            rw [if_neg (by omega), if_neg (by omega), if_neg (by omega), if_neg (by omega), if_pos k5] at h3 ⊢
            unfold storyOK at h3 ⊢
            simp only [Bool.and_eq_true] at h3 ⊢
            exact ⟨h3.1, word_full n⟩
          · refine (congrArg (fun g : Fct => { g with text := wordF n }) (h4.trans hu)).trans ?_
            unfold usedF
            dsimp only
            rw [if_neg (by omega), if_neg (by omega), if_neg (by omega), if_neg (by omega), if_pos k5]
            rfl
      · rw [if_neg k5]; exact h
theorem hidden_len (c : Scn) (n : Int) : (hidden c n).length = c.D.length := by
  have := congrArg List.length (hidePairs_fst c n c.D (fun _ _ _ => false) 0)
  rw [List.length_map] at this
  unfold hidden
  rw [List.length_map]; exact this
theorem hidden_get (c : Scn) (n : Int) (k : Nat) (hk : k < c.D.length) : (hidden c n)[k]'(by rw [hidden_len]; exact hk) = otherF c (placesF c (c.D.take k)) (w64 (n + k)) c.D[k] := by
  have hf := hidePairs_fst c n c.D (fun _ _ _ => false) 0
  have hl : (hidePairs c n (fun _ _ _ => false) 0 c.D).length = c.D.length := by have := congrArg List.length hf; rwa [List.length_map] at this
  have hk2 : k < (hidePairs c n (fun _ _ _ => false) 0 c.D).length := by omega
  have hsp : hidePairs c n (fun _ _ _ => false) 0 c.D = (hidePairs c n (fun _ _ _ => false) 0 c.D).take k ++ (hidePairs c n (fun _ _ _ => false) 0 c.D)[k] :: (hidePairs c n (fun _ _ _ => false) 0 c.D).drop (k + 1) := by
    rw [List.getElem_cons_drop, List.take_append_drop]
  have h := hidePairs_at c n c.D (fun _ _ _ => false) 0 _ _ _ hsp
  have h1 : (hidePairs c n (fun _ _ _ => false) 0 c.D)[k].1 = c.D[k] := by
    have : ((hidePairs c n (fun _ _ _ => false) 0 c.D).map Prod.fst)[k]'(by rw [List.length_map]; exact hk2) = c.D[k] := by simp only [hf]
    rwa [List.getElem_map] at this
  have h2 : ((hidePairs c n (fun _ _ _ => false) 0 c.D).take k).map Prod.fst = c.D.take k := by rw [List.map_take, hf]
  have h3 : ((hidePairs c n (fun _ _ _ => false) 0 c.D).take k).length = k := by rw [List.length_take]; omega
  unfold hidden
  rw [List.getElem_map, h, h1, h2, h3, Nat.zero_add]
  rfl
theorem hidden_succ (c : Scn) (n : Int) (k : Nat) (hk : k < c.D.length) : (hidden c n).take (k + 1) = (hidden c n).take k ++ [otherF c (placesF c (c.D.take k)) (w64 (n + k)) c.D[k]] := by
  rw [List.take_succ_eq_append_getElem (by rw [hidden_len]; exact hk), hidden_get c n k hk]
theorem hidden_mem (c : Scn) (n : Int) : ∀ f ∈ hidden c n, ∃ g ∈ c.D, ∃ pl m, f = otherF c pl m g := fun f hf => by
  obtain ⟨k, hk, rfl⟩ := List.getElem_of_mem hf
  rw [hidden_len] at hk
  rw [hidden_get c n k hk]
  exact ⟨_, List.getElem_mem hk, _, _, rfl⟩
noncomputable def memK (W0 wr : World) (row : Option Nat) (a : Addr) : Option Value := if a.block < W0.heap.size then W0.cell? a else if row = some a.block then none else wr.cell? a
structure ListO (W0 : World) (v : Value) (ys : List FctE) (wr : World) : Prop where
  bel : Below W0.heap.size W0 wr
  row : FRow wr W0.heap.size v ys
  ok : ∀ e ∈ ys, e.ok (memK W0 wr v.ownBlock)
section
variable {W0 wr w3 w' : World} {v v' : Value} {ys : List FctE}
theorem ListO.start : ListO W0 (.slice none 0 0) [] W0 := ⟨Below.refl _ _, FRow.nil _ _, fun e he => by cases he⟩
theorem memK_sees {row : Option Nat} (hb : Below W0.heap.size W0 wr) : Sees (memK W0 wr row) wr := fun a u h => by
  unfold memK at h
  split at h
  · exact sees_bel hb a u h
  · split at h
    · cases h
    · exact h
theorem ListO.es (h : ListO W0 v ys wr) : EsM (fun a => wr.cell? a) v ys := h.row.es (fun y hy => (h.ok y hy).mono (memK_sees h.bel))
theorem ListO.rowB (h : ListO W0 v ys wr) (hb : Below wr.heap.size wr w3) : FRow w3 W0.heap.size v ys := h.row.same fun k hk => hb.block k (h.row.ge k hk).2
theorem ListO.app {y : FctE} {ob : Obj} (h : ListO W0 v ys wr) (hb : Below wr.heap.size wr w3) (hy : y.ok (memN (fun a => W0.cell? a) wr.heap.size w3)) (hr : FRow w' W0.heap.size v' (ys ++ [y])) (hg : (w3.alloc ob).grownBy w' v.ownBlock)
    (hn : v'.ownBlock = v.ownBlock ∨ v'.ownBlock = some (w3.alloc ob).heap.size) : ListO W0 v' (ys ++ [y]) w' := by
  have hge := h.row.ge
  have hz : (w3.alloc ob).heap.size = w3.heap.size + 1 := by simp
  have hu : Upd (fun b => v.ownBlock = some b) w3 w' := ((Upd.refl _ w3).alloc ob).grown hg (fun b e => .inl e)
  have hb0 := h.bel.trans (hb.mono h.bel.size)
  have hbs := hb.size
  have hws := h.bel.size
  refine ⟨hb0.trans (hu.below (fun k e => (hge k e).1) hb0.size), hr, fun e he => ?_⟩
  have hown : ∀ b, b < w3.heap.size → v.ownBlock ≠ some b → v'.ownBlock ≠ some b := fun b h1 h2 e => by
    rcases hn with e2 | e2
    · exact h2 (e2 ▸ e)
    · rw [e2] at e; injection e with e; omega
  rcases List.mem_append.1 he with he | he
  · refine (h.ok e he).mono fun a u ha => ?_
    unfold memK at ha ⊢
    split at ha
    · next hlt => rw [if_pos hlt]; exact ha
    · next hlt =>
      split at ha
      · cases ha
      · next hne =>
        have hal := World.block_lt_of_cell? _ _ ha
        have h3 := sees_bel hb a u ha
        rw [if_neg hlt, if_neg (hown _ (by omega) hne)]
        exact hu.cell_some h3 hne
  · obtain rfl : e = y := by simpa using he
    refine hy.mono fun a u ha => ?_
    unfold memN at ha
    unfold memK
    split at ha
    · next hlt =>
      rw [if_pos (World.block_lt_of_cell? _ _ ha)]; exact ha
    · next hlt =>
      have hal := World.block_lt_of_cell? _ _ ha
      have hne : v.ownBlock ≠ some a.block := fun e => hlt (hge _ e).2
      rw [if_neg (by omega), if_neg (hown _ hal hne)]
      exact hu.cell_some ha hne
end
theorem other_any {mem : Addr → Option Value} {v u : Value} {es : List FctE} {O : List Int} (h : EsM mem v es) (hO : IntsM mem u O) (cls now : Int) (i : Nat) (hi : i < es.length) (n : Int) (hn : okI n) (hbn : es[i].f.blocks.length ≤ 1000) (w : World) (hs : Sees mem w) :
    Calls Tryz.prog 22 #[.agg (sceneC v cls now u), .int .i64 (i : Nat), .int .i64 n] w (OthPost mem (otherF ⟨es.map FctE.f, cls, now, O⟩ (placesF ⟨es.map FctE.f, cls, now, O⟩ ((es.map FctE.f).take i)) n es[i].f) w) := by
  by_cases h1 : es[i].f.kind = 1
  · exact other1_any h hO cls now i hi n hn h1 hbn w hs
  by_cases h4 : es[i].f.kind = 4
  · exact other4_any h hO cls now i hi n hn h4 w hs
  by_cases h5 : es[i].f.kind = 5
  · exact other5_any h hO cls now i hi n hn h5 w hs
  exact other_same_any h hO cls now i hi n hn ⟨h1, h4, h5⟩ w hs
end Go.Proofs.YtgbihmafmmeicaaGreatDoor

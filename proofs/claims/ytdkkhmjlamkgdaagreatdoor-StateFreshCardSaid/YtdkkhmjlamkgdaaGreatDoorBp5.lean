/-
  WHAT IS PROVED HERE: 21 texts joined, each with its own head: what the walks of the program give. Conditions: each at its place.
-/
import Derived.Test.YtdkkhmjlamkgdaaGreatDoorBp4
import Derived.Test.YtdkkhmjlamkgdaaGreatDoorProg
import Derived.ProofKit
import Derived.OpenShut
import Derived.ChangeSame
import Derived.Deep.Fields
namespace Go.Proofs.YtdkkhmjlamkgdaaGreatDoor
open Go.RowKit Mg Go.Shelf Go.Maps

theorem results_cell_row2 {P : Program} {fn : Func} {p u : Tmp} {ty : TypeId} (h : fn.results = #[.cell p ty, .tmp u]) (tmps : Array Value) (w : World) (g : Nat) (t : TypeId) (cs : Array Value) (fr : Nat × Nat) (d : TypeDesc)
    (hp : tmps.getD p undef = .pointer (some ⟨g, 0, none⟩)) (hg : w.heap[g]? = some (.cells cs t fr))
    (hu : P.underlying ty = some d) (hd : (match d with | .struct _ | .array _ _ => true | _ => false) = true) (hi : (P.info? ty).map (·.size) = some cs.size) :
    (results fn tmps).run P w = .ok (.tuple #[.agg cs, tmps.getD u undef]) w := by
  have hp' : tmps[p]?.getD undef = .pointer (some ⟨g, 0, none⟩) := by simpa using hp
  simp [results, h, hp', asAddr, run_loadVar_row w g t ty cs fr d hg hu hd hi]
theorem find_at {α : Type} {p : α → Bool} : ∀ {l : List α} (k : Nat) (hk : k < l.length), p l[k] = true → (∀ j (hj : j < k), p (l[j]'(by omega)) = false) → l.find? p = some l[k]
  | [], _, hk, _, _ => absurd hk (by simp)
  | a :: l, 0, _, h, _ => List.find?_cons_of_pos h
  | a :: l, k + 1, hk, h, hb => by
    rw [List.find?_cons_of_neg (by have := hb 0 (by omega); simpa using this)]
    exact find_at k (by simpa using hk) h (fun j hj => hb (j + 1) (by omega))
theorem find_no {α : Type} {p : α → Bool} {l : List α} (h : ∀ j (hj : j < l.length), p l[j] = false) : l.find? p = none :=
  List.find?_eq_none.2 fun x hx => by
    obtain ⟨j, hj, rfl⟩ := List.getElem_of_mem hx
    simpa using h j hj
theorem cells_see {mem : Addr → Option Value} {w : World} (hs : Sees mem w) {b o sz : Nat} {cs : Array Value} (h : CellsAt mem b o cs) (hz : cs.size = sz) : ∀ t, t < sz → w.cell? ⟨b, o + t, none⟩ = cs[t]? := fun t ht => by
  have h1 := h t (by omega)
  rw [Array.getElem?_eq_getElem (by omega)] at h1 ⊢
  exact hs _ _ h1
theorem findS_at {s : StF} {id : Int} (k : Nat) (hk : k < s.stories.length) (h : s.stories[k].id = id) (hb : ∀ j (hj : j < k), (s.stories[j]'(by omega)).id ≠ id) : findS s id = some s.stories[k] :=
  find_at k hk (by simpa using h) (fun j hj => by simpa using hb j hj)
theorem findE_at {l : List EdnF} {lang : ByteArray} (k : Nat) (hk : k < l.length) (h : l[k].lang = lang) (hb : ∀ j (hj : j < k), (l[j]'(by omega)).lang ≠ lang) : findE l lang = some l[k] :=
  find_at k hk (by simpa using h) (fun j hj => by simpa using hb j hj)
theorem findS_no {s : StF} {id : Int} (h : ∀ j (hj : j < s.stories.length), s.stories[j].id ≠ id) : findS s id = none := find_no fun j hj => by simpa using h j hj
theorem findE_no {l : List EdnF} {lang : ByteArray} (h : ∀ j (hj : j < l.length), l[j].lang ≠ lang) : findE l lang = none := find_no fun j hj => by simpa using h j hj
theorem built_sty0 : Tryz.prog.built 34 [] = some (styCells sty0 (.slice none 0 0) (.slice none 0 0) (.slice none 0 0)) := by kernel_rfl
theorem built_edn0 : Tryz.prog.built 39 [] = some (ednCells edn0 (.slice none 0 0)) := by kernel_rfl
abbrev zStyC : Array Value := #[.int .i64 0, .string ⟨#[]⟩, .slice none 0 0, .slice none 0 0, .int .i64 0, .slice none 0 0, .bool false, .bool false]
def StoryAt (mem : Addr → Option Value) (s : StF) (id : Int) (w : World) (e : Ending) (w' : World) : Prop := ∃ u, e = .returned (.tuple #[u, .bool (findS s id).isSome]) ∧ StyV mem u (styOf s id) ∧ Below w.heap.size w w'
def EditionAt (mem : Addr → Option Value) (l : List EdnF) (lang : ByteArray) (w : World) (e : Ending) (w' : World) : Prop := ∃ u, e = .returned (.tuple #[u, .bool (findE l lang).isSome]) ∧ EdnV mem u ((findE l lang).getD edn0) ∧ Below w.heap.size w w'
set_option maxRecDepth 100000 in
set_option maxHeartbeats 4000000 in
theorem storyAt_any {mem : Addr → Option Value} {v : Value} {s : StF} (h : StateM mem v s) (id : Int) (w : World) (hs : Sees mem w) :
    Calls Tryz.prog 37 #[v, .int .i64 id] w (StoryAt mem s id w) := by
  obtain ⟨sv, tv, rfl, h1, h2⟩ := h
  obtain ⟨ta, tc, rfl⟩ := SlM.slice h2
  obtain ⟨sa, sc, sb, so, rfl, hcap, hm, hsa, hat⟩ := SlM.open_ h1
  have HSA := Lib.hid hsa
  have HAT := Lib.hid hat
  have HS := Lib.hid hs
  have hll : s.stories.length ≤ 9223372036854775807 := by unfold maxLen at hm; omega
  obtain ⟨W1, hW1⟩ : ∃ W1, W1 = (w.alloc (.cells #[.slice sa s.stories.length sc, .slice ta s.tpls.length tc] 27)).alloc (.cells zStyC 34) := ⟨_, rfl⟩
  have hb1 : Below w.heap.size w W1 := by rw [hW1]; exact (bel1 w _).alloc (by simp) _
  have hn0 : W1.heap[w.heap.size]? = some (.cells #[.slice sa s.stories.length sc, .slice ta s.tpls.length tc] 27 (0, 0)) := by rw [hW1]; exact heap_new1 w _ _
  have hn1 : W1.heap[w.heap.size + 1]? = some (.cells zStyC 34 (0, 0)) := by
    rw [hW1]
    have := World.alloc_heap_new (w.alloc (.cells #[.slice sa s.stories.length sc, .slice ta s.tpls.length tc] 27)) (.cells zStyC 34)
    simpa using this
  have k0 : W1.cell? ⟨w.heap.size, 0, none⟩ = some (.slice sa s.stories.length sc) := rowcell hn0
  have HN1 := Lib.hid hn1
  have HB1 := Lib.hid hb1
  have HW1 := Lib.hid hW1
  clear h1 h2 hsa hat hs hb1 hn0 hn1 hW1
  go_enter Tryz.func37, Tryz.ntmps37
  go_upto_region 1 with fail
  rw [← HW1.out]
  go_wp2_with fail
  clear k0
  go_loopw [11] (fun i wr => ∃ k : Nat, k ≤ s.stories.length ∧ i = .int .i64 k ∧ Hid (∀ j (hj : j < s.stories.length), j < k → s.stories[j].id ≠ id) ∧ Hid (Below W1.heap.size W1 wr)) (fun i _ => s.stories.length - (intOf i).toNat)
  case atStart => exact ⟨0, Nat.zero_le _, rfl, Lib.hid (fun j _ h => absurd h (by omega)), Lib.hid (Below.refl _ _)⟩
  case round =>
    obtain ⟨k, hk, rfl, HT, HB⟩ := hrel
    by_cases hlt : k < s.stories.length
    · obtain rfl := HSA.out (by omega)
      obtain ⟨hok, tv, ev, cv, hcells, hP⟩ := HAT.out k hlt
      have HVV : Hid (StyV mem (.agg (styCells s.stories[k] tv ev cv)) s.stories[k]) := Lib.hid ⟨hok, _, _, _, rfl, hP⟩
      have HCL := Lib.hid (cells_see (sz := 8) (HS.out.bel (HB1.out.trans (HB.out.mono HB1.out.size))) hcells rfl)
      have HYES : Hid (s.stories[k].id = id → findS s id = some s.stories[k]) := Lib.hid (fun e => findS_at k hlt e (fun j hj => HT.out j (by omega) hj))
      have HNO : Hid (s.stories[k].id ≠ id → ∀ j (hj : j < s.stories.length), j < k + 1 → s.stories[j].id ≠ id) := Lib.hid (fun e j hj hjk => by
        by_cases ej : j = k
        · subst ej; exact e
        · exact HT.out j hj (by omega))
      obtain ⟨t1, t2, e1, e2, c1, c2, rfl, rfl, rfl⟩ := hP.shape
      generalize s.stories[k].topics.length = n1 at *
      generalize s.stories[k].eds.length = n2 at *
      generalize s.stories[k].corr.length = n3 at *
      clear hok hcells hP
      generalize s.stories[k] = y at *
      go_upto_region 4 with (first
        | ((with_reducible refine at_sload 34 _ rfl ?_); go_must (refine wpList_smid rfl S_sty _ rfl (by simp [Act.eval]) (styCells y (.slice t1 n1 t2) (.slice e1 n2 e2) (.slice c1 n3 c2)) rfl HCL.out ?_))
        | ((with_reducible refine at_sstore 34 _ _ rfl ?_); go_must (refine wpList_snew rfl S_sty _ _ rfl rfl _ _ (styCells y (.slice t1 n1 t2) (.slice e1 n2 e2) (.slice c1 n3 c2)) (by simp [Act.eval]) (by simp [Act.eval]) rfl rfl (by simp [Value.oneCell']) ?_)))
      obtain ⟨W4, hW4⟩ : ∃ W4, W4 = wr.alloc (.cells (styCells y (.slice t1 n1 t2) (.slice e1 n2 e2) (.slice c1 n3 c2)) 34) := ⟨_, rfl⟩
      rw [← hW4]
      have hb4 : Below wr.heap.size wr W4 := by rw [hW4]; exact bel1 _ _
      have hn4 : W4.heap[wr.heap.size]? = some (.cells (styCells y (.slice t1 n1 t2) (.slice e1 n2 e2) (.slice c1 n3 c2)) 34 (0, 0)) := by rw [hW4]; exact World.alloc_heap_new _ _
      have q0 : W4.cell? ⟨wr.heap.size, 0, none⟩ = some (.int .i64 y.id) := rowcell hn4
      have HN4 := Lib.hid hn4
      have HB4 : Hid (Below W1.heap.size W1 W4) := Lib.hid (HB.out.trans (hb4.mono HB.out.size))
      clear hW4 hb4 hn4
      by_cases hy : y.id = id
      · have HFD := Lib.hid (HYES.out hy)
        rw [hy] at q0
        clear hy HYES HNO
        have HZ : Hid (W4.heap[w.heap.size + 1]? = some (.cells zStyC 34 (0, 0))) := Lib.hid ((HB4.out.block _ (Go.Proofs.YtdkkhmjlamkgdaaGreatDoor.hlt HN1.out)).trans HN1.out)
        go_wp2_with (first
          | ((with_reducible refine at_sload 34 _ rfl ?_); go_must (refine wpList_sload rfl S_sty _ rfl (by simp [Act.eval]) (styCells y (.slice t1 n1 t2) (.slice e1 n2 e2) (.slice c1 n3 c2)) rfl HN4.out ?_))
          | ((with_reducible refine at_sstore 34 _ _ rfl ?_); go_must (refine wpList_sstore (cs := (styCells y (.slice t1 n1 t2) (.slice e1 n2 e2) (.slice c1 n3 c2))) rfl S_sty _ _ rfl (by simp [Act.eval, Act.put]) (by simp [Act.eval, Act.put]) HZ.out rfl rfl (by simp [Value.oneCell']) ?_)))
        refine bodyPost_ret (results_cell_row2 (p := 4) (u := 5) (ty := 34) (by kernel_rfl) _ _ (w.heap.size + 1) _ _ (0, 0) _ (by simp) (setRow_heap _ _ _ _ _ _ HZ.out) Tryz.underlying34 rfl (by kernel_rfl)) rfl ?_
        refine ⟨_, by rw [HFD.out]; rfl, ?_, below_setRow (HB1.out.trans (HB4.out.mono HB1.out.size)) (by omega) _⟩
        unfold styOf; rw [HFD.out]
        exact HVV.out
      · have HNN := Lib.hid (HNO.out hy)
        have hne : (y.id == id) = false := by simpa using hy
        clear hy HYES HNO
        go_wp2_with fail
        go_roundw
        case rel => exact ⟨k + 1, by omega, by go_num, HNN, HB4⟩
        case measure => simp [intOf]; omega
    · have e' : k = s.stories.length := by omega
      subst e'
      have HFD : Hid (findS s id = none) := Lib.hid (findS_no (fun j hj => HT.out j hj hj))
      have HZ : Hid (wr.heap[w.heap.size + 1]? = some (.cells zStyC 34 (0, 0))) := Lib.hid ((HB.out.block _ (Go.Proofs.YtdkkhmjlamkgdaaGreatDoor.hlt HN1.out)).trans HN1.out)
      go_wp2_with (first
        | ((with_reducible refine at_sbuild 34 _ rfl ?_); go_must (refine wpList_buildTo rfl 34 _ rfl _ rfl _ (by simp [Act.eval]; with_reducible exact built_sty0) ?_))
        | ((with_reducible refine at_sstore 34 _ _ rfl ?_); go_must (refine wpList_sstore (cs := styCells sty0 (.slice none 0 0) (.slice none 0 0) (.slice none 0 0)) rfl S_sty _ _ rfl (by simp [Act.eval, Act.put]) (by simp [Act.eval, Act.put]) HZ.out rfl rfl (by simp [Value.oneCell']) ?_)))
      refine bodyPost_ret (results_cell_row2 (p := 4) (u := 5) (ty := 34) (by kernel_rfl) _ _ (w.heap.size + 1) _ _ (0, 0) _ (by simp) (setRow_heap _ _ _ _ _ _ HZ.out) Tryz.underlying34 rfl (by kernel_rfl)) rfl ?_
      refine ⟨_, by rw [HFD.out]; rfl, ?_, below_setRow (HB1.out.trans (HB.out.mono HB1.out.size)) (by omega) _⟩
      unfold styOf; rw [HFD.out]
      exact sty0_V
set_option maxRecDepth 100000 in
set_option maxHeartbeats 4000000 in
theorem editionAt_any {mem : Addr → Option Value} {v : Value} {x : StyF} (h : StyV mem v x) (lang : ByteArray) (w : World) (hs : Sees mem w) :
    Calls Tryz.prog 39 #[v, .string lang] w (EditionAt mem x.eds lang w) := by
  obtain ⟨hok0, tv, ev, cv, rfl, h1, h2, h3⟩ := h
  obtain ⟨ta, tc, rfl⟩ := h1.slice
  obtain ⟨ca, cc, rfl⟩ := SlM.slice h3
  obtain ⟨sa, sc, sb, so, rfl, hcap, hm, hsa, hat⟩ := SlM.open_ h2
  have HSA := Lib.hid hsa
  have HAT := Lib.hid hat
  have HS := Lib.hid hs
  have hll : x.eds.length ≤ 9223372036854775807 := by unfold maxLen at hm; omega
  obtain ⟨W1, hW1⟩ : ∃ W1, W1 = (w.alloc (.cells (styCells x (.slice ta x.topics.length tc) (.slice sa x.eds.length sc) (.slice ca x.corr.length cc)) 34)).alloc (.cells zEdn 39) := ⟨_, rfl⟩
  have hb1 : Below w.heap.size w W1 := by rw [hW1]; exact (bel1 w _).alloc (by simp) _
  have hn0 : W1.heap[w.heap.size]? = some (.cells (styCells x (.slice ta x.topics.length tc) (.slice sa x.eds.length sc) (.slice ca x.corr.length cc)) 34 (0, 0)) := by rw [hW1]; exact heap_new1 w _ _
  have hn1 : W1.heap[w.heap.size + 1]? = some (.cells zEdn 39 (0, 0)) := by
    rw [hW1]
    have := World.alloc_heap_new (w.alloc (.cells (styCells x (.slice ta x.topics.length tc) (.slice sa x.eds.length sc) (.slice ca x.corr.length cc)) 34)) (.cells zEdn 39)
    simpa using this
  have k0 : W1.cell? ⟨w.heap.size, 3, none⟩ = some (.slice sa x.eds.length sc) := rowcell hn0
  have HN1 := Lib.hid hn1
  have HB1 := Lib.hid hb1
  have HW1 := Lib.hid hW1
  clear h1 h2 h3 hok0 hsa hat hs hb1 hn0 hn1 hW1
  go_enter Tryz.func39, Tryz.ntmps39
  go_upto_region 1 with fail
  rw [← HW1.out]
  go_wp2_with fail
  clear k0
  go_loopw [11] (fun i wr => ∃ k : Nat, k ≤ x.eds.length ∧ i = .int .i64 k ∧ Hid (∀ j (hj : j < x.eds.length), j < k → x.eds[j].lang ≠ lang) ∧ Hid (Below W1.heap.size W1 wr)) (fun i _ => x.eds.length - (intOf i).toNat)
  case atStart => exact ⟨0, Nat.zero_le _, rfl, Lib.hid (fun j _ h => absurd h (by omega)), Lib.hid (Below.refl _ _)⟩
  case round =>
    obtain ⟨k, hk, rfl, HT, HB⟩ := hrel
    by_cases hlt : k < x.eds.length
    · obtain rfl := HSA.out (by omega)
      obtain ⟨hok, bv, hcells, hP⟩ := HAT.out k hlt
      have HVV : Hid (EdnV mem (.agg (ednCells x.eds[k] bv)) x.eds[k]) := Lib.hid ⟨hok, _, rfl, hP⟩
      have HCL := Lib.hid (cells_see (sz := 5) (HS.out.bel (HB1.out.trans (HB.out.mono HB1.out.size))) hcells rfl)
      have HYES : Hid (x.eds[k].lang = lang → findE x.eds lang = some x.eds[k]) := Lib.hid (fun e => findE_at k hlt e (fun j hj => HT.out j (by omega) hj))
      have HNO : Hid (x.eds[k].lang ≠ lang → ∀ j (hj : j < x.eds.length), j < k + 1 → x.eds[j].lang ≠ lang) := Lib.hid (fun e j hj hjk => by
        by_cases ej : j = k
        · subst ej; exact e
        · exact HT.out j hj (by omega))
      obtain ⟨b1, b2, rfl⟩ := hP.slice
      generalize x.eds[k].blocks.length = n1 at *
      clear hok hcells hP
      generalize x.eds[k] = y at *
      go_upto_region 4 with (first
        | ((with_reducible refine at_sload 39 _ rfl ?_); go_must (refine wpList_smid rfl S_edn _ rfl (by simp [Act.eval]) (ednCells y (.slice b1 n1 b2)) rfl HCL.out ?_))
        | ((with_reducible refine at_sstore 39 _ _ rfl ?_); go_must (refine wpList_snew rfl S_edn _ _ rfl rfl _ _ (ednCells y (.slice b1 n1 b2)) (by simp [Act.eval]) (by simp [Act.eval]) rfl rfl (by simp [Value.oneCell']) ?_)))
      obtain ⟨W4, hW4⟩ : ∃ W4, W4 = wr.alloc (.cells (ednCells y (.slice b1 n1 b2)) 39) := ⟨_, rfl⟩
      rw [← hW4]
      have hb4 : Below wr.heap.size wr W4 := by rw [hW4]; exact bel1 _ _
      have hn4 : W4.heap[wr.heap.size]? = some (.cells (ednCells y (.slice b1 n1 b2)) 39 (0, 0)) := by rw [hW4]; exact World.alloc_heap_new _ _
      have q0 : W4.cell? ⟨wr.heap.size, 0, none⟩ = some (.string y.lang) := rowcell hn4
      have HN4 := Lib.hid hn4
      have HB4 : Hid (Below W1.heap.size W1 W4) := Lib.hid (HB.out.trans (hb4.mono HB.out.size))
      clear hW4 hb4 hn4
      by_cases hy : y.lang = lang
      · have HFD := Lib.hid (HYES.out hy)
        rw [hy] at q0
        clear hy HYES HNO
        have HZ : Hid (W4.heap[w.heap.size + 1]? = some (.cells zEdn 39 (0, 0))) := Lib.hid ((HB4.out.block _ (Go.Proofs.YtdkkhmjlamkgdaaGreatDoor.hlt HN1.out)).trans HN1.out)
        go_wp2_with (first
          | ((with_reducible refine at_sload 39 _ rfl ?_); go_must (refine wpList_sload rfl S_edn _ rfl (by simp [Act.eval]) (ednCells y (.slice b1 n1 b2)) rfl HN4.out ?_))
          | ((with_reducible refine at_sstore 39 _ _ rfl ?_); go_must (refine wpList_sstore (cs := (ednCells y (.slice b1 n1 b2))) rfl S_edn _ _ rfl (by simp [Act.eval, Act.put]) (by simp [Act.eval, Act.put]) HZ.out rfl rfl (by simp [Value.oneCell']) ?_)))
        refine bodyPost_ret (results_cell_row2 (p := 4) (u := 5) (ty := 39) (by kernel_rfl) _ _ (w.heap.size + 1) _ _ (0, 0) _ (by simp) (setRow_heap _ _ _ _ _ _ HZ.out) Tryz.underlying39 rfl (by kernel_rfl)) rfl ?_
        refine ⟨_, by rw [HFD.out]; rfl, ?_, below_setRow (HB1.out.trans (HB4.out.mono HB1.out.size)) (by omega) _⟩
        rw [HFD.out]
        exact HVV.out
      · have HNN := Lib.hid (HNO.out hy)
        have hne : (y.lang.toList == lang.toList) = false := by
          have : y.lang.toList ≠ lang.toList := fun e => hy (str_ext (by rw [← ByteArray.toList_eq, ← ByteArray.toList_eq]; exact e))
          simpa using this
        clear hy HYES HNO
        go_wp2_with fail
        go_roundw
        case rel => exact ⟨k + 1, by omega, by go_num, HNN, HB4⟩
        case measure => simp [intOf]; omega
    · have e' : k = x.eds.length := by omega
      subst e'
      have HFD : Hid (findE x.eds lang = none) := Lib.hid (findE_no (fun j hj => HT.out j hj hj))
      have HZ : Hid (wr.heap[w.heap.size + 1]? = some (.cells zEdn 39 (0, 0))) := Lib.hid ((HB.out.block _ (Go.Proofs.YtdkkhmjlamkgdaaGreatDoor.hlt HN1.out)).trans HN1.out)
      go_wp2_with (first
        | ((with_reducible refine at_sbuild 39 _ rfl ?_); go_must (refine wpList_buildTo rfl 39 _ rfl _ rfl _ (by simp [Act.eval]; with_reducible exact built_edn0) ?_))
        | ((with_reducible refine at_sstore 39 _ _ rfl ?_); go_must (refine wpList_sstore (cs := ednCells edn0 (.slice none 0 0)) rfl S_edn _ _ rfl (by simp [Act.eval, Act.put]) (by simp [Act.eval, Act.put]) HZ.out rfl rfl (by simp [Value.oneCell']) ?_)))
      refine bodyPost_ret (results_cell_row2 (p := 4) (u := 5) (ty := 39) (by kernel_rfl) _ _ (w.heap.size + 1) _ _ (0, 0) _ (by simp) (setRow_heap _ _ _ _ _ _ HZ.out) Tryz.underlying39 rfl (by kernel_rfl)) rfl ?_
      refine ⟨_, by rw [HFD.out]; rfl, ?_, below_setRow (HB1.out.trans (HB.out.mono HB1.out.size)) (by omega) _⟩
      rw [HFD.out]
      exact edn0_V
end Go.Proofs.YtdkkhmjlamkgdaaGreatDoor
namespace Go.Proofs.YtdkkhmjlamkgdaaGreatDoor
open Go.RowKit Mg Go.Shelf Go.Maps

theorem containsS_has (l : List ByteArray) (x : ByteArray) : Lib.containsS l x = hasT l x := by
  rw [Bool.eq_iff_iff, Lib.containsS_iff]
  unfold hasT
  simp
theorem contains_any {mem : Addr → Option Value} {v : Value} {l : List ByteArray} (h : StrsM mem v l) (x : ByteArray) (w : World) (hs : Sees mem w) :
    Calls Tryz.prog 85 #[v, .string x] w fun e w' => e = .returned (.bool (hasT l x)) ∧ w' = w := by
  obtain ⟨ao, cap, b, o, rfl, hcap, hm, h1, h2, h3⟩ := h.open_ hs
  rcases Nat.eq_zero_or_pos l.length with hz | hp
  · obtain rfl : l = [] := List.eq_nil_of_length_eq_zero hz
    exact Tryz.slices_Contains_string_empty ao cap x w
  · obtain rfl := h1 hp
    have := Tryz.slices_Contains_string b o l.length cap l x w (Nat.le_refl _) (by unfold maxLen at hm; omega) (fun j hj => by
      rw [h3 j hj, List.getD_eq_getElem?_getD, List.getElem?_eq_getElem hj]; rfl)
    rw [List.take_length, containsS_has] at this
    exact this
def countK (s : StF) (topic : ByteArray) (k : Nat) : Nat := ((s.stories.take k).filter fun x => listedF x && hasT x.topics topic).length
theorem countK_step {s : StF} {topic : ByteArray} {k : Nat} (hk : k < s.stories.length) : countK s topic (k + 1) = countK s topic k + (if (listedF s.stories[k] && hasT s.stories[k].topics topic) = true then 1 else 0) := by
  unfold countK
  rw [List.take_succ_eq_append_getElem hk, List.filter_append, List.length_append]
  congr 1
  simp only [List.filter]
  cases hp : (listedF s.stories[k] && hasT s.stories[k].topics topic) <;> rfl
theorem countK_le (s : StF) (topic : ByteArray) (k : Nat) : countK s topic k ≤ k := by
  unfold countK
  refine Nat.le_trans (List.length_filter_le _ _) ?_
  rw [List.length_take]; omega
set_option maxRecDepth 100000 in
set_option maxHeartbeats 8000000 in
theorem count_any {mem : Addr → Option Value} {v : Value} {s : StF} (h : StateM mem v s) (topic : ByteArray) (w : World) (hs : Sees mem w) :
    Calls Tryz.prog 55 #[v, .string topic] w fun e w' => e = .returned (.int .i64 (countS s topic : Nat)) ∧ Below w.heap.size w w' := by
  obtain ⟨sv, tv, rfl, h1, h2⟩ := h
  obtain ⟨ta, tc, rfl⟩ := SlM.slice h2
  obtain ⟨sa, sc, sb, so, rfl, hcap, hm, hsa, hat⟩ := SlM.open_ h1
  have HSA := Lib.hid hsa
  have HAT := Lib.hid hat
  have HS := Lib.hid hs
  have hll : s.stories.length ≤ 9223372036854775807 := by unfold maxLen at hm; omega
  obtain ⟨W1, hW1⟩ : ∃ W1, W1 = w.alloc (.cells #[.slice sa s.stories.length sc, .slice ta s.tpls.length tc] 27) := ⟨_, rfl⟩
  have hb1 : Below w.heap.size w W1 := by rw [hW1]; exact bel1 w _
  have hn0 : W1.heap[w.heap.size]? = some (.cells #[.slice sa s.stories.length sc, .slice ta s.tpls.length tc] 27 (0, 0)) := by rw [hW1]; exact World.alloc_heap_new w _
  have k0 : W1.cell? ⟨w.heap.size, 0, none⟩ = some (.slice sa s.stories.length sc) := rowcell hn0
  have HB1 := Lib.hid hb1
  have HW1 := Lib.hid hW1
  clear h1 h2 hsa hat hs hb1 hW1 hn0
  go_enter Tryz.func55, Tryz.ntmps55
  go_upto_region 1 with fail
  rw [← HW1.out]
  go_wp2_with fail
  clear k0
  go_loopw [11, 5] (fun i c wr => ∃ k : Nat, k ≤ s.stories.length ∧ i = .int .i64 k ∧ c = .int .i64 (countK s topic k : Nat) ∧ Hid (Below W1.heap.size W1 wr)) (fun i _ _ => s.stories.length - (intOf i).toNat)
  case atStart => exact ⟨0, Nat.zero_le _, rfl, rfl, Lib.hid (Below.refl _ _)⟩
  case round =>
    obtain ⟨k, hk, rfl, rfl, HB⟩ := hrel
    by_cases hlt : k < s.stories.length
    · obtain rfl := HSA.out (by omega)
      obtain ⟨hok, tv, ev, cv, hcells, hP⟩ := HAT.out k hlt
      have HSW := Lib.hid (HS.out.bel (HB1.out.trans (HB.out.mono HB1.out.size)))
      have HCL := Lib.hid (cells_see (sz := 8) HSW.out hcells rfl)
      have HTOP := Lib.hid hP.1
      have hcs := countK_step (topic := topic) hlt
      have hck := countK_le s topic k
      obtain ⟨t1, t2, e1, e2, c1, c2, rfl, rfl, rfl⟩ := hP.shape
      have HLI : Hid (listedF s.stories[k] = (!s.stories[k].retr && !s.stories[k].taken && decide (0 < s.stories[k].eds.length))) := Lib.hid rfl
      have hel : s.stories[k].eds.length ≤ 9223372036854775807 := by
        obtain ⟨_, _, _, _, _, h1, h2, _⟩ := SlM.open_ hP.2.1
        unfold maxLen at h2; omega
      have HCS := Lib.hid hcs
      clear hok hcells hP hcs
      generalize s.stories[k] = y at *
      generalize hn1 : y.topics.length = n1 at *
      generalize hn2 : y.eds.length = n2 at *
      generalize hn3 : y.corr.length = n3 at *
      go_upto_region 5 with (first
        | ((with_reducible refine at_sload 34 _ rfl ?_); go_must (refine wpList_smid rfl S_sty _ rfl (by simp [Act.eval]) (styCells y (.slice t1 n1 t2) (.slice e1 n2 e2) (.slice c1 n3 c2)) rfl HCL.out ?_))
        | ((with_reducible refine at_sstore 34 _ _ rfl ?_); go_must (refine wpList_snew rfl S_sty _ _ rfl rfl _ _ (styCells y (.slice t1 n1 t2) (.slice e1 n2 e2) (.slice c1 n3 c2)) (by simp [Act.eval]) (by simp [Act.eval]) rfl rfl (by simp [Value.oneCell']) ?_)))
      obtain ⟨W4, hW4⟩ : ∃ W4, W4 = wr.alloc (.cells (styCells y (.slice t1 n1 t2) (.slice e1 n2 e2) (.slice c1 n3 c2)) 34) := ⟨_, rfl⟩
      rw [← hW4]
      have hb4 : Below wr.heap.size wr W4 := by rw [hW4]; exact bel1 _ _
      have hn4 : W4.heap[wr.heap.size]? = some (.cells (styCells y (.slice t1 n1 t2) (.slice e1 n2 e2) (.slice c1 n3 c2)) 34 (0, 0)) := by rw [hW4]; exact World.alloc_heap_new _ _
      have q6 : W4.cell? ⟨wr.heap.size, 6, none⟩ = some (.bool y.retr) := rowcell hn4
      have q7 : W4.cell? ⟨wr.heap.size, 7, none⟩ = some (.bool y.taken) := rowcell hn4
      have q3 : W4.cell? ⟨wr.heap.size, 3, none⟩ = some (.slice e1 n2 e2) := rowcell hn4
      have q2 : W4.cell? ⟨wr.heap.size, 2, none⟩ = some (.slice t1 n1 t2) := rowcell hn4
      have HB4 : Hid (Below W1.heap.size W1 W4) := Lib.hid (HB.out.trans (hb4.mono HB.out.size))
      have cC := Lib.hid (contains_any HTOP.out topic W4 (HSW.out.bel hb4))
      have hwrap : IntKind.i64.wrap ((countK s topic k : Int) + 1) = (countK s topic k : Int) + 1 := IntWalk.i64_in _ (by omega)
      clear hW4 hb4 hn4
      have HNO : Hid (listedF y = false → countK s topic (k + 1) = countK s topic k) := Lib.hid (fun e => by rw [HCS.out, e]; rfl)
      have HYES : Hid (listedF y = true → countK s topic (k + 1) = countK s topic k + (if hasT y.topics topic = true then 1 else 0)) := Lib.hid (fun e => by rw [HCS.out, e]; rfl)
      generalize y.retr = br at *
      generalize y.taken = bt at *
      cases br
      · cases bt
        · by_cases hz : n2 = 0
          · have HF := Lib.hid (HNO.out (by rw [HLI.out, hz]; rfl))
            subst hz
            clear HNO HYES HLI
            go_wp2_with fail
            go_roundw
            case rel => exact ⟨k + 1, by omega, by go_num, by rw [HF.out], HB4⟩
            case measure => simp [intOf]; omega
          · have HF := Lib.hid (HYES.out (by rw [HLI.out]; simp; omega))
            have hz2 : (0 : Int) < (n2 : Int) := by omega
            clear HNO HYES HLI hz
            go_wp2_with fail
            refine cC.out.mono ?_
            rintro e w5 ⟨rfl, rfl⟩
            cases hb : hasT y.topics topic with
            | false =>
              rw [hb] at HF
              clear hb
              go_wp2_with fail
              go_roundw
              case rel => exact ⟨k + 1, by omega, by go_num, by rw [HF.out]; rfl, HB4⟩
              case measure => simp [intOf]; omega
            | true =>
              rw [hb] at HF
              clear hb
              go_wp2_with fail
              go_roundw
              case rel => exact ⟨k + 1, by omega, by go_num, by rw [HF.out]; simp, HB4⟩
              case measure => simp [intOf]; omega
        · have HF := Lib.hid (HNO.out (by rw [HLI.out]; rfl))
          clear HNO HYES HLI
          go_wp2_with fail
          go_roundw
          case rel => exact ⟨k + 1, by omega, by go_num, by rw [HF.out], HB4⟩
          case measure => simp [intOf]; omega
      · have HF := Lib.hid (HNO.out (by rw [HLI.out]; rfl))
        clear HNO HYES HLI
        go_wp2_with fail
        go_roundw
        case rel => exact ⟨k + 1, by omega, by go_num, by rw [HF.out], HB4⟩
        case measure => simp [intOf]; omega
    · have e' : k = s.stories.length := by omega
      subst e'
      have HF : Hid (countK s topic s.stories.length = countS s topic) := Lib.hid (by unfold countK countS; rw [List.take_length])
      go_wp2_with fail
      go_ret
      rw [HF.out]
      exact ⟨rfl, HB1.out.trans (HB.out.mono HB1.out.size)⟩
end Go.Proofs.YtdkkhmjlamkgdaaGreatDoor
namespace Go.Proofs.YtdkkhmjlamkgdaaGreatDoor
open Go.RowKit Mg Go.Shelf Go.Maps

def BlkV (mem : Addr → Option Value) (v : Value) (x : Blk) : Prop := ∃ a c, v = .agg (blkCells x (.slice a x.lab.after.length c)) ∧ IntsM mem (.slice a x.lab.after.length c) x.lab.after ∧ x.text.size ≤ maxLen ∧ okI x.kind ∧ okI x.id
theorem BlkV.mono {mem mem' : Addr → Option Value} {v : Value} {x : Blk} (h : BlkV mem v x) (hm : ∀ a u, mem a = some u → mem' a = some u) : BlkV mem' v x := by
  obtain ⟨a, c, e, h1, h2⟩ := h
  exact ⟨a, c, e, h1.mono hm, h2⟩
theorem blk0_V {mem : Addr → Option Value} : BlkV mem (.agg (blkCells blk0 (.slice none 0 0))) blk0 := ⟨none, 0, rfl, IntsM.nil _, Nat.zero_le _, okI_zero, okI_zero⟩
theorem built_blk0 : Tryz.prog.built 58 [] = some (blkCells blk0 (.slice none 0 0)) := by kernel_rfl
abbrev zBlkC : Array Value := #[.int .i64 0, .int .i64 0, .string ⟨#[]⟩, .int .i64 0, .int .i64 0, .int .i64 0, .slice none 0 0, .int .i64 0, .int .i64 0]
theorem cells9_see {w : World} {b o : Nat} {x : Blk} {av : Value} (h : Cells9 w b o x av) : ∀ t, t < 9 → w.cell? ⟨b, o + t, none⟩ = (blkCells x av)[t]? := fun t ht => by
  match t, ht with
  | 0, _ => exact h.c0
  | 1, _ => exact h.c1
  | 2, _ => exact h.c2
  | 3, _ => exact h.c3
  | 4, _ => exact h.c4
  | 5, _ => exact h.c5
  | 6, _ => exact h.c6
  | 7, _ => exact h.c7
  | 8, _ => exact h.c8
theorem says_quoted {mem : Addr → Option Value} (b : Blk) (bv : Value) (cb : Nat) : Says 83 (.pointer (some ⟨cb, 0, none⟩)) (fun x => decide (x.id = b.ref)) mem (fun W => W.heap[cb]? = some (.cells (blkCells b bv) 58 (0, 0))) where
  enters := enters_of Tryz.func83 (by kernel_rfl) rfl
  keeps := fun W W' hq hb => (hb.block _ (hlt hq)).trans hq
  says := fun W x a cap hq _ _ => by
    obtain ⟨W1, hW1⟩ : ∃ W1, W1 = W.alloc (.cells (blkCells x (.slice a x.lab.after.length cap)) 58) := ⟨_, rfl⟩
    have hb1 : Below W.heap.size W W1 := by rw [hW1]; exact bel1 _ _
    have hx1 : W1.heap[W.heap.size]? = some (.cells (blkCells x (.slice a x.lab.after.length cap)) 58 (0, 0)) := by rw [hW1]; exact World.alloc_heap_new _ _
    have k0 : W1.cell? ⟨W.heap.size, 0, none⟩ = some (.int .i64 x.id) := rowcell hx1
    have k1 : W1.cell? ⟨cb, 4, none⟩ = some (.int .i64 b.ref) := rowcell ((hb1.block _ (hlt hq)).trans hq)
    have HW1 := Lib.hid hW1
    have HB1 := Lib.hid hb1
    clear hW1 hb1 hx1 hq
    go_enter Tryz.func83, Tryz.ntmps83
    go_upto_region 1 with fail
    rw [← HW1.out]
    go_wp2_with fail
    go_ret
    exact ⟨ret_bool (by rw [Bool.eq_iff_iff]; simp), HB1.out⟩
def QuoPost (mem : Addr → Option Value) (s : StF) (lang : ByteArray) (b : Blk) (w : World) (e : Ending) (w' : World) : Prop := ∃ u, e = .returned (.tuple #[u, .string (bs (quoS s lang b).2)]) ∧ BlkV mem u (quoS s lang b).1 ∧ Below w.heap.size w w'
section
variable {s : StF} {lang : ByteArray} {b : Blk} {X : StyF} {E : EdnF}
theorem quo_none (hX : styOf s b.story = X) (h : X.eds = []) : quoS s lang b = (blk0, tRemoved) := by unfold quoS; rw [hX, if_pos h]
theorem quo_no (hX : styOf s b.story = X) (hE : edFor X lang = E) (h : X.eds ≠ []) (h2 : ∀ x ∈ E.blocks, decide (x.id = b.ref) = false) : quoS s lang b = (blk0, tRemoved) := by
  unfold quoS
  rw [hX, hE, if_neg h, List.find?_eq_none.2 (fun x hx => by rw [h2 x hx]; decide)]
theorem quo_at (hX : styOf s b.story = X) (hE : edFor X lang = E) (h : X.eds ≠ []) (k : Nat) (hk : k < E.blocks.length) (h2 : decide ((E.blocks[k]).id = b.ref) = true) (h3 : ∀ j (hj : j < k), decide ((E.blocks[j]'(Nat.lt_trans hj hk)).id = b.ref) = false) :
    quoS s lang b = if X.retr then (blk0, tRetracted) else (E.blocks[k], []) := by
  unfold quoS
  rw [hX, hE, if_neg h, find_at k hk h2 h3]
end
set_option maxRecDepth 100000 in
set_option maxHeartbeats 8000000 in
theorem quoted_any {mem : Addr → Option Value} {v : Value} {s : StF} (h : StateM mem v s) (lang : ByteArray) {b : Blk} {bu : Value} (hb : BlkV mem bu b) (w : World) (hs : Sees mem w) :
    Calls Tryz.prog 53 #[v, .string lang, bu] w (QuoPost mem s lang b w) := by
  have HST := Lib.hid h
  obtain ⟨sv, tv, rfl, h1, h2⟩ := h
  obtain ⟨sa, sc, rfl⟩ := SlM.slice h1
  obtain ⟨ta, tc, rfl⟩ := SlM.slice h2
  obtain ⟨ba, bc, rfl, hbi, _, _, hbid⟩ := hb
  have HS := Lib.hid hs
  generalize hbn : b.lab.after.length = bn at *
  obtain ⟨W1, hW1⟩ : ∃ W1, W1 = ((w.alloc (.cells #[.slice sa s.stories.length sc, .slice ta s.tpls.length tc] 27)).alloc (.cells (blkCells b (.slice ba bn bc)) 58)).alloc (.cells zBlkC 58) := ⟨_, rfl⟩
  have hb1 : Below w.heap.size w W1 := by rw [hW1]; exact ((bel1 w _).alloc (by simp) _).alloc (by simp; omega) _
  have HN0 : Hid (W1.heap[w.heap.size]? = some (.cells #[.slice sa s.stories.length sc, .slice ta s.tpls.length tc] 27 (0, 0))) := Lib.hid (by rw [hW1]; exact (Below.heap_alloc _ _ _ (by simp; omega)).trans (heap_new1 w _ _))
  have HN1 : Hid (W1.heap[w.heap.size + 1]? = some (.cells (blkCells b (.slice ba bn bc)) 58 (0, 0))) := Lib.hid (by
    rw [hW1]
    refine (Below.heap_alloc _ _ _ (by simp)).trans ?_
    have := World.alloc_heap_new (w.alloc (.cells #[.slice sa s.stories.length sc, .slice ta s.tpls.length tc] 27)) (.cells (blkCells b (.slice ba bn bc)) 58)
    simpa using this)
  have HN2 : Hid (W1.heap[w.heap.size + 2]? = some (.cells zBlkC 58 (0, 0))) := Lib.hid (by
    rw [hW1]
    have := World.alloc_heap_new ((w.alloc (.cells #[.slice sa s.stories.length sc, .slice ta s.tpls.length tc] 27)).alloc (.cells (blkCells b (.slice ba bn bc)) 58)) (.cells zBlkC 58)
    simpa using this)
  have k3 : W1.cell? ⟨w.heap.size + 1, 3, none⟩ = some (.int .i64 b.story) := rowcell HN1.out
  have HB1 := Lib.hid hb1
  have HW1 := Lib.hid hW1
  have hw1 : w.heap.size + 2 < W1.heap.size := hlt HN2.out
  have cS := Lib.hid (storyAt_any HST.out b.story W1 (hs.bel hb1))
  clear h1 h2 hs hb1 hW1
  go_enter Tryz.func53, Tryz.ntmps53
  go_upto_region 1 with fail
  rw [← HW1.out]
  go_wp2_with ((with_reducible refine at_sload 27 _ rfl ?_); go_must (refine wpList_sload rfl S_state _ rfl (by simp [Act.eval]) #[.slice sa s.stories.length sc, .slice ta s.tpls.length tc] rfl HN0.out ?_))
  refine cS.out.mono ?_
  rintro e W2 ⟨u, rfl, hu, hb2⟩
  have HFS : Hid ((findS s b.story).isSome = false → styOf s b.story = sty0) := Lib.hid (fun e => by
    unfold styOf
    cases hf : findS s b.story with
    | none => rfl
    | some x => rw [hf] at e; cases e)
  have HU := Lib.hid hu
  obtain ⟨hok, t0, e0, c0, rfl, hP⟩ := hu
  have HE0 := Lib.hid hP.2.1
  obtain ⟨t1, t2, e1, e2, c1, c2, rfl, rfl, rfl⟩ := hP.shape
  have HB2 := Lib.hid hb2
  clear hok hP hb2 cS k3
  generalize hX : styOf s b.story = X at *
  have HX := Lib.hid hX
  clear hX
  generalize hn1 : X.topics.length = n1 at *
  generalize hn2 : X.eds.length = n2 at *
  generalize hn3 : X.corr.length = n3 at *
  go_upto_region 2 with ((with_reducible refine at_sstore 34 _ _ rfl ?_); go_must (refine wpList_snew rfl S_sty _ _ rfl rfl _ _ (styCells X (.slice t1 n1 t2) (.slice e1 n2 e2) (.slice c1 n3 c2)) (by simp [Act.eval]) (by simp [Act.eval]) rfl rfl (by simp [Value.oneCell']) ?_))
  obtain ⟨W3, hW3⟩ : ∃ W3, W3 = W2.alloc (.cells (styCells X (.slice t1 n1 t2) (.slice e1 n2 e2) (.slice c1 n3 c2)) 34) := ⟨_, rfl⟩
  rw [← hW3]
  have hb3 : Below W2.heap.size W2 W3 := by rw [hW3]; exact bel1 _ _
  have HN3 : Hid (W3.heap[W2.heap.size]? = some (.cells (styCells X (.slice t1 n1 t2) (.slice e1 n2 e2) (.slice c1 n3 c2)) 34 (0, 0))) := Lib.hid (by rw [hW3]; exact World.alloc_heap_new _ _)
  have HB3 : Hid (Below W1.heap.size W1 W3) := Lib.hid (HB2.out.trans (hb3.mono HB2.out.size))
  have q3 : W3.cell? ⟨W2.heap.size, 3, none⟩ = some (.slice e1 n2 e2) := rowcell HN3.out
  have HZ3 := Lib.hid ((HB3.out.block _ hw1).trans HN2.out)
  clear hW3 hb3
  generalize (findS s b.story).isSome = found at *
  by_cases hz : found = false ∨ n2 = 0
  · have HQ : Hid (quoS s lang b = (blk0, tRemoved)) := Lib.hid (quo_none HX.out (by
      rcases hz with hz | hz
      · rw [HFS.out hz]; rfl
      · exact List.eq_nil_of_length_eq_zero (hn2.trans hz)))
    rcases hz with hz | hz
    · subst hz
      have HFIN := Lib.hid (HQ.out)
      go_wp2_with (first
        | ((with_reducible refine at_sbuild 58 _ rfl ?_); go_must (refine wpList_buildTo rfl 58 _ rfl _ rfl _ (by simp [Act.eval]; with_reducible exact built_blk0) ?_))
        | ((with_reducible refine at_sstore 58 _ _ rfl ?_); go_must (refine wpList_sstore (cs := blkCells blk0 (.slice none 0 0)) rfl S_blk _ _ rfl (by simp [Act.eval, Act.put]) (by simp [Act.eval, Act.put]) HZ3.out rfl rfl (by simp [Value.oneCell']) ?_)))
      refine bodyPost_ret (results_cell_row2 (p := 6) (u := 7) (ty := 58) (by kernel_rfl) _ _ (w.heap.size + 2) _ _ (0, 0) _ (by simp) (setRow_heap _ _ _ _ _ _ HZ3.out) Tryz.underlying58 rfl (by kernel_rfl)) rfl ?_
      unfold QuoPost
      rw [HFIN.out]
      exact ⟨_, rfl, blk0_V, below_setRow (HB1.out.trans (HB3.out.mono HB1.out.size)) (by omega) _⟩
    · subst hz
      have hf0 : found = false ∨ found = true := by cases found <;> simp
      rcases hf0 with hf0 | hf0
      · subst hf0
        have HFIN := Lib.hid (HQ.out)
        go_wp2_with (first
          | ((with_reducible refine at_sbuild 58 _ rfl ?_); go_must (refine wpList_buildTo rfl 58 _ rfl _ rfl _ (by simp [Act.eval]; with_reducible exact built_blk0) ?_))
          | ((with_reducible refine at_sstore 58 _ _ rfl ?_); go_must (refine wpList_sstore (cs := blkCells blk0 (.slice none 0 0)) rfl S_blk _ _ rfl (by simp [Act.eval, Act.put]) (by simp [Act.eval, Act.put]) HZ3.out rfl rfl (by simp [Value.oneCell']) ?_)))
        refine bodyPost_ret (results_cell_row2 (p := 6) (u := 7) (ty := 58) (by kernel_rfl) _ _ (w.heap.size + 2) _ _ (0, 0) _ (by simp) (setRow_heap _ _ _ _ _ _ HZ3.out) Tryz.underlying58 rfl (by kernel_rfl)) rfl ?_
        unfold QuoPost
        rw [HFIN.out]
        exact ⟨_, rfl, blk0_V, below_setRow (HB1.out.trans (HB3.out.mono HB1.out.size)) (by omega) _⟩
      · subst hf0
        have HFIN := Lib.hid (HQ.out)
        go_wp2_with (first
          | ((with_reducible refine at_sbuild 58 _ rfl ?_); go_must (refine wpList_buildTo rfl 58 _ rfl _ rfl _ (by simp [Act.eval]; with_reducible exact built_blk0) ?_))
          | ((with_reducible refine at_sstore 58 _ _ rfl ?_); go_must (refine wpList_sstore (cs := blkCells blk0 (.slice none 0 0)) rfl S_blk _ _ rfl (by simp [Act.eval, Act.put]) (by simp [Act.eval, Act.put]) HZ3.out rfl rfl (by simp [Value.oneCell']) ?_)))
        refine bodyPost_ret (results_cell_row2 (p := 6) (u := 7) (ty := 58) (by kernel_rfl) _ _ (w.heap.size + 2) _ _ (0, 0) _ (by simp) (setRow_heap _ _ _ _ _ _ HZ3.out) Tryz.underlying58 rfl (by kernel_rfl)) rfl ?_
        unfold QuoPost
        rw [HFIN.out]
        exact ⟨_, rfl, blk0_V, below_setRow (HB1.out.trans (HB3.out.mono HB1.out.size)) (by omega) _⟩
  · have hft : found = true := by cases found <;> simp at hz ⊢
    have hnz : n2 ≠ 0 := fun e => hz (.inr e)
    subst hft
    have hel : n2 ≤ 9223372036854775807 := by
      obtain ⟨_, _, _, _, e, h1, h2, _⟩ := SlM.open_ HE0.out
      rw [hn2] at h1
      unfold maxLen at h2; omega
    have hnz2 : ((n2 : Int) == 0) = false := by simpa using hnz
    have HNE : Hid (X.eds ≠ []) := Lib.hid (fun e => hnz (by rw [← hn2, e]; rfl))
    have cE := Lib.hid (editionAt_any HU.out lang W3 (HS.out.bel (HB1.out.trans (HB3.out.mono HB1.out.size))))
    clear hz
    go_wp2_with ((with_reducible refine at_sload 34 _ rfl ?_); go_must (refine wpList_sload rfl S_sty _ rfl (by simp [Act.eval]) (styCells X (.slice t1 n1 t2) (.slice e1 n2 e2) (.slice c1 n3 c2)) rfl HN3.out ?_))
    refine cE.out.mono ?_
    rintro e W4 ⟨u, rfl, hu, hb4⟩
    have HEF : Hid (edFor X lang = (findE X.eds lang).getD (X.eds.headD edn0)) := Lib.hid rfl
    generalize findE X.eds lang = fe at *
    obtain ⟨hok, b0, rfl, hP⟩ := hu
    obtain ⟨b1, b2, rfl⟩ := hP.slice
    have HBM := Lib.hid hP
    have HB4 : Hid (Below W1.heap.size W1 W4) := Lib.hid (HB3.out.trans (hb4.mono HB3.out.size))
    have HN4 := Lib.hid ((hb4.block _ (hlt HN3.out)).trans HN3.out)
    clear hok hP hb4 cE q3
    generalize hE : fe.getD edn0 = E at *
    generalize hnb : E.blocks.length = nb at *
    go_upto_region 5 with ((with_reducible refine at_sstore 39 _ _ rfl ?_); go_must (refine wpList_snew rfl S_edn _ _ rfl rfl _ _ (ednCells E (.slice b1 nb b2)) (by simp [Act.eval]) (by simp [Act.eval]) rfl rfl (by simp [Value.oneCell']) ?_))
    obtain ⟨W5, hW5⟩ : ∃ W5, W5 = W4.alloc (.cells (ednCells E (.slice b1 nb b2)) 39) := ⟨_, rfl⟩
    rw [← hW5]
    have hb5 : Below W4.heap.size W4 W5 := by rw [hW5]; exact bel1 _ _
    have hn5 : W5.heap[W4.heap.size]? = some (.cells (ednCells E (.slice b1 nb b2)) 39 (0, 0)) := by rw [hW5]; exact World.alloc_heap_new _ _
    have HB5 : Hid (Below W1.heap.size W1 W5) := Lib.hid (HB4.out.trans (hb5.mono HB4.out.size))
    have HN5 := Lib.hid hn5
    have HM5 := Lib.hid ((hb5.block _ (hlt HN4.out)).trans HN4.out)
    clear hW5 hb5 hn5
    cases hfe : fe with
    | some E0 =>
      have hEF : edFor X lang = E := by rw [HEF.out, hfe, ← hE, hfe]; rfl
      have HEX := Lib.hid hEF
      obtain ⟨W6, hW6⟩ : ∃ W6, W6 = W5 := ⟨_, rfl⟩
      have HB6 : Hid (Below W1.heap.size W1 W6) := Lib.hid (by rw [hW6]; exact HB5.out)
      have HN6 : Hid (W6.heap[W4.heap.size]? = some (.cells (ednCells E (.slice b1 nb b2)) 39 (0, 0))) := Lib.hid (by rw [hW6]; exact HN5.out)
      have HM6 : Hid (W6.heap[W2.heap.size]? = some (.cells (styCells X (.slice t1 n1 t2) (.slice e1 n2 e2) (.slice c1 n3 c2)) 34 (0, 0))) := Lib.hid (by rw [hW6]; exact HM5.out)
      clear hEF hE
      rw [show (some E0 : Option EdnF).isSome = true from rfl]
      go_upto_region 7 with fail
      rw [← hW6]
      clear hW6
      have k63 : W6.cell? ⟨W4.heap.size, 3, none⟩ = some (.slice b1 nb b2) := rowcell HN6.out
      have HSW := Lib.hid (HS.out.bel (HB1.out.trans (HB6.out.mono HB1.out.size)))
      have hbm6 := HBM.out
      have cI := Lib.hid (indexFunc_any hbm6 (says_quoted b (.slice ba bn bc) (w.heap.size + 1)) W6 HSW.out ((HB6.out.block _ (by omega)).trans HN1.out))
      clear hbm6
      go_wp2_with fail
      refine cI.out.mono ?_
      rintro e W7 ⟨i, rfl, hi, hb7⟩
      have HB7 : Hid (Below W1.heap.size W1 W7) := Lib.hid (HB6.out.trans (hb7.mono HB6.out.size))
      have HN7 := Lib.hid ((hb7.block _ (hlt HN6.out)).trans HN6.out)
      have HM7 := Lib.hid ((hb7.block _ (hlt HM6.out)).trans HM6.out)
      have HZ7 := Lib.hid ((HB7.out.block _ hw1).trans HN2.out)
      clear hb7 cI k63
      rcases hi with ⟨rfl, hno⟩ | ⟨k, rfl, hk, hyes, hbef⟩
      · have HFIN := Lib.hid (quo_no HX.out HEX.out HNE.out hno)
        clear hno
        go_wp2_with (first
          | ((with_reducible refine at_sbuild 58 _ rfl ?_); go_must (refine wpList_buildTo rfl 58 _ rfl _ rfl _ (by simp [Act.eval]; with_reducible exact built_blk0) ?_))
          | ((with_reducible refine at_sstore 58 _ _ rfl ?_); go_must (refine wpList_sstore (cs := blkCells blk0 (.slice none 0 0)) rfl S_blk _ _ rfl (by simp [Act.eval, Act.put]) (by simp [Act.eval, Act.put]) HZ7.out rfl rfl (by simp [Value.oneCell']) ?_)))
        refine bodyPost_ret (results_cell_row2 (p := 6) (u := 7) (ty := 58) (by kernel_rfl) _ _ (w.heap.size + 2) _ _ (0, 0) _ (by simp) (setRow_heap _ _ _ _ _ _ HZ7.out) Tryz.underlying58 rfl (by kernel_rfl)) rfl ?_
        unfold QuoPost
        rw [HFIN.out]
        exact ⟨_, rfl, blk0_V, below_setRow (HB1.out.trans (HB7.out.mono HB1.out.size)) (by omega) _⟩
      · have HFIN := Lib.hid (quo_at HX.out HEX.out HNE.out k hk hyes hbef)
        have q6 : W7.cell? ⟨W2.heap.size, 6, none⟩ = some (.bool X.retr) := rowcell HM7.out
        have k73 : W7.cell? ⟨W4.heap.size, 3, none⟩ = some (.slice b1 nb b2) := rowcell HN7.out
        clear hyes hbef
        cases hr : X.retr with
        | true =>
          rw [hr] at q6 HFIN
          clear hr
          go_wp2_with (first
            | ((with_reducible refine at_sbuild 58 _ rfl ?_); go_must (refine wpList_buildTo rfl 58 _ rfl _ rfl _ (by simp [Act.eval]; with_reducible exact built_blk0) ?_))
            | ((with_reducible refine at_sstore 58 _ _ rfl ?_); go_must (refine wpList_sstore (cs := blkCells blk0 (.slice none 0 0)) rfl S_blk _ _ rfl (by simp [Act.eval, Act.put]) (by simp [Act.eval, Act.put]) HZ7.out rfl rfl (by simp [Value.oneCell']) ?_)))
          refine bodyPost_ret (results_cell_row2 (p := 6) (u := 7) (ty := 58) (by kernel_rfl) _ _ (w.heap.size + 2) _ _ (0, 0) _ (by simp) (setRow_heap _ _ _ _ _ _ HZ7.out) Tryz.underlying58 rfl (by kernel_rfl)) rfl ?_
          unfold QuoPost
          rw [HFIN.out]
          exact ⟨_, rfl, blk0_V, below_setRow (HB1.out.trans (HB7.out.mono HB1.out.size)) (by omega) _⟩
        | false =>
          rw [hr] at q6 HFIN
          have HFIN : Hid (quoS s lang b = (E.blocks[k], [])) := Lib.hid (HFIN.out.trans (if_neg (by decide)))
          clear hr
          obtain ⟨xa, xc, xb, xo, hxv, hx1, hx2, hxo, hxat⟩ := HBM.out.open_
          rw [hnb] at hxv hxo hx1
          injection hxv with hxv1 _ hxv3
          obtain rfl := hxo (by omega)
          subst hxv1 hxv3
          obtain ⟨⟨g1, g2, g3⟩, na, nc, hi9, hc9⟩ := (hxat k hk).nine (HS.out.bel (HB1.out.trans (HB7.out.mono HB1.out.size)))
          have HC9 := Lib.hid (cells9_see hc9)
          have HI9 := Lib.hid hi9
          have hkn : (k : Int) < (nb : Int) := by omega
          have hnbl : nb ≤ 9223372036854775807 := by unfold maxLen at hx2; omega
          clear hxo hxat hi9 hc9
          generalize E.blocks[k] = y at *
          generalize hny : y.lab.after.length = ny at *
          go_wp2_with (first
            | ((with_reducible refine at_sload 58 _ rfl ?_); go_must (refine wpList_smid rfl S_blk _ rfl (by simp [Act.eval]) (blkCells y (.slice na ny nc)) rfl HC9.out ?_))
            | ((with_reducible refine at_sstore 58 _ _ rfl ?_); go_must (refine wpList_sstore (cs := blkCells y (.slice na ny nc)) rfl S_blk _ _ rfl (by simp [Act.eval, Act.put]) (by simp [Act.eval, Act.put]) HZ7.out rfl rfl (by simp [Value.oneCell']) ?_)))
          refine bodyPost_ret (results_cell_row2 (p := 6) (u := 7) (ty := 58) (by kernel_rfl) _ _ (w.heap.size + 2) _ _ (0, 0) _ (by simp) (setRow_heap _ _ _ _ _ _ HZ7.out) Tryz.underlying58 rfl (by kernel_rfl)) rfl ?_
          unfold QuoPost
          rw [HFIN.out]
          refine ⟨_, rfl, ⟨na, nc, by rw [hny], by rw [hny]; exact HI9.out, g1, g2, g3⟩, below_setRow (HB1.out.trans (HB7.out.mono HB1.out.size)) (by omega) _⟩
    | none =>
      have hEn : E = edn0 := by rw [← hE, hfe]; rfl
      obtain ⟨ea, ec, eb, eo, hev, _, _, heo, hat⟩ := SlM.open_ HE0.out
      rw [hn2] at hev heo
      injection hev with hev1 hev2 hev3
      obtain rfl := heo (by omega)
      subst hev1 hev3
      have h0 : 0 < X.eds.length := by omega
      obtain ⟨hok2, bv2, hc2, hm2⟩ := hat 0 h0
      have hhead : X.eds.headD edn0 = X.eds[0] := by
        generalize X.eds = l at *
        cases l with
        | nil => simp at h0
        | cons a r => rfl
      have hEF : edFor X lang = X.eds[0] := by rw [HEF.out, hfe, ← hhead]; rfl
      obtain ⟨d1, d2, rfl⟩ := hm2.slice
      rw [Nat.zero_mul, Nat.add_zero] at hc2
      have HCL := Lib.hid (cells_see (sz := 5) (HS.out.bel (HB1.out.trans (HB5.out.mono HB1.out.size))) hc2 rfl)
      have HEX := Lib.hid hEF
      have q35 : W5.cell? ⟨W2.heap.size, 3, none⟩ = some (.slice (some ⟨eb, eo, none⟩) n2 e2) := rowcell HM5.out
      have hnz3 : (0 : Int) < (n2 : Int) := by omega
      have hnz4 : 0 < n2 := by omega
      clear hev2 heo hat hok2 hc2 hhead hEF HBM hnb hEn hE
      have HBM := Lib.hid hm2
      clear hm2
      generalize X.eds[0] = E2 at *
      generalize hnb : E2.blocks.length = nb2 at *
      clear h0
      rw [show (none : Option EdnF).isSome = false from rfl]
      go_upto_region 7 with (first
        | ((with_reducible refine at_sload 39 _ rfl ?_); go_must (refine wpList_smid rfl S_edn _ rfl (by simp [Act.eval]) (ednCells E2 (.slice d1 nb2 d2)) rfl HCL.out ?_))
        | ((with_reducible refine at_sstore 39 _ _ rfl ?_); go_must (refine wpList_sstore (cs := ednCells E2 (.slice d1 nb2 d2)) rfl S_edn _ _ rfl (by simp [Act.eval, Act.put]) (by simp [Act.eval, Act.put]) HN5.out rfl rfl (by simp [Value.oneCell']) ?_)))
      obtain ⟨W6, hW6⟩ : ∃ W6, W6 = W5.setRow W4.heap.size (ednCells E2 (.slice d1 nb2 d2)) := ⟨_, rfl⟩
      have hw24 : W2.heap.size < W4.heap.size := hlt HN4.out
      have HB6 : Hid (Below W1.heap.size W1 W6) := Lib.hid (by rw [hW6]; exact below_setRow HB5.out HB4.out.size _)
      have HN6 : Hid (W6.heap[W4.heap.size]? = some (.cells (ednCells E2 (.slice d1 nb2 d2)) 39 (0, 0))) := Lib.hid (by rw [hW6]; exact setRow_heap _ _ _ _ _ _ HN5.out)
      have HM6 : Hid (W6.heap[W2.heap.size]? = some (.cells (styCells X (.slice t1 n1 t2) (.slice (some ⟨eb, eo, none⟩) n2 e2) (.slice c1 n3 c2)) 34 (0, 0))) := Lib.hid (by rw [hW6]; exact (setRow_other _ _ _ _ (by omega)).trans HM5.out)
      rw [← hW6]
      clear q35 hW6
      have k63 : W6.cell? ⟨W4.heap.size, 3, none⟩ = some (.slice d1 nb2 d2) := rowcell HN6.out
      have HSW := Lib.hid (HS.out.bel (HB1.out.trans (HB6.out.mono HB1.out.size)))
      have hbm6 := HBM.out
      have cI := Lib.hid (indexFunc_any hbm6 (says_quoted b (.slice ba bn bc) (w.heap.size + 1)) W6 HSW.out ((HB6.out.block _ (by omega)).trans HN1.out))
      clear hbm6
      go_wp2_with fail
      refine cI.out.mono ?_
      rintro e W7 ⟨i, rfl, hi, hb7⟩
      have HB7 : Hid (Below W1.heap.size W1 W7) := Lib.hid (HB6.out.trans (hb7.mono HB6.out.size))
      have HN7 := Lib.hid ((hb7.block _ (hlt HN6.out)).trans HN6.out)
      have HM7 := Lib.hid ((hb7.block _ (hlt HM6.out)).trans HM6.out)
      have HZ7 := Lib.hid ((HB7.out.block _ hw1).trans HN2.out)
      clear hb7 cI k63
      rcases hi with ⟨rfl, hno⟩ | ⟨k, rfl, hk, hyes, hbef⟩
      · have HFIN := Lib.hid (quo_no HX.out HEX.out HNE.out hno)
        clear hno
        go_wp2_with (first
          | ((with_reducible refine at_sbuild 58 _ rfl ?_); go_must (refine wpList_buildTo rfl 58 _ rfl _ rfl _ (by simp [Act.eval]; with_reducible exact built_blk0) ?_))
          | ((with_reducible refine at_sstore 58 _ _ rfl ?_); go_must (refine wpList_sstore (cs := blkCells blk0 (.slice none 0 0)) rfl S_blk _ _ rfl (by simp [Act.eval, Act.put]) (by simp [Act.eval, Act.put]) HZ7.out rfl rfl (by simp [Value.oneCell']) ?_)))
        refine bodyPost_ret (results_cell_row2 (p := 6) (u := 7) (ty := 58) (by kernel_rfl) _ _ (w.heap.size + 2) _ _ (0, 0) _ (by simp) (setRow_heap _ _ _ _ _ _ HZ7.out) Tryz.underlying58 rfl (by kernel_rfl)) rfl ?_
        unfold QuoPost
        rw [HFIN.out]
        exact ⟨_, rfl, blk0_V, below_setRow (HB1.out.trans (HB7.out.mono HB1.out.size)) (by omega) _⟩
      · have HFIN := Lib.hid (quo_at HX.out HEX.out HNE.out k hk hyes hbef)
        have q6 : W7.cell? ⟨W2.heap.size, 6, none⟩ = some (.bool X.retr) := rowcell HM7.out
        have k73 : W7.cell? ⟨W4.heap.size, 3, none⟩ = some (.slice d1 nb2 d2) := rowcell HN7.out
        clear hyes hbef
        cases hr : X.retr with
        | true =>
          rw [hr] at q6 HFIN
          clear hr
          go_wp2_with (first
            | ((with_reducible refine at_sbuild 58 _ rfl ?_); go_must (refine wpList_buildTo rfl 58 _ rfl _ rfl _ (by simp [Act.eval]; with_reducible exact built_blk0) ?_))
            | ((with_reducible refine at_sstore 58 _ _ rfl ?_); go_must (refine wpList_sstore (cs := blkCells blk0 (.slice none 0 0)) rfl S_blk _ _ rfl (by simp [Act.eval, Act.put]) (by simp [Act.eval, Act.put]) HZ7.out rfl rfl (by simp [Value.oneCell']) ?_)))
          refine bodyPost_ret (results_cell_row2 (p := 6) (u := 7) (ty := 58) (by kernel_rfl) _ _ (w.heap.size + 2) _ _ (0, 0) _ (by simp) (setRow_heap _ _ _ _ _ _ HZ7.out) Tryz.underlying58 rfl (by kernel_rfl)) rfl ?_
          unfold QuoPost
          rw [HFIN.out]
          exact ⟨_, rfl, blk0_V, below_setRow (HB1.out.trans (HB7.out.mono HB1.out.size)) (by omega) _⟩
        | false =>
          rw [hr] at q6 HFIN
          have HFIN : Hid (quoS s lang b = (E2.blocks[k], [])) := Lib.hid (HFIN.out.trans (if_neg (by decide)))
          clear hr
          obtain ⟨xa, xc, xb, xo, hxv, hx1, hx2, hxo, hxat⟩ := HBM.out.open_
          rw [hnb] at hxv hxo hx1
          injection hxv with hxv1 _ hxv3
          obtain rfl := hxo (by omega)
          subst hxv1 hxv3
          obtain ⟨⟨g1, g2, g3⟩, na, nc, hi9, hc9⟩ := (hxat k hk).nine (HS.out.bel (HB1.out.trans (HB7.out.mono HB1.out.size)))
          have HC9 := Lib.hid (cells9_see hc9)
          have HI9 := Lib.hid hi9
          have hkn : (k : Int) < (nb2 : Int) := by omega
          have hnbl : nb2 ≤ 9223372036854775807 := by unfold maxLen at hx2; omega
          clear hxo hxat hi9 hc9
          generalize E2.blocks[k] = y at *
          generalize hny : y.lab.after.length = ny at *
          go_wp2_with (first
            | ((with_reducible refine at_sload 58 _ rfl ?_); go_must (refine wpList_smid rfl S_blk _ rfl (by simp [Act.eval]) (blkCells y (.slice na ny nc)) rfl HC9.out ?_))
            | ((with_reducible refine at_sstore 58 _ _ rfl ?_); go_must (refine wpList_sstore (cs := blkCells y (.slice na ny nc)) rfl S_blk _ _ rfl (by simp [Act.eval, Act.put]) (by simp [Act.eval, Act.put]) HZ7.out rfl rfl (by simp [Value.oneCell']) ?_)))
          refine bodyPost_ret (results_cell_row2 (p := 6) (u := 7) (ty := 58) (by kernel_rfl) _ _ (w.heap.size + 2) _ _ (0, 0) _ (by simp) (setRow_heap _ _ _ _ _ _ HZ7.out) Tryz.underlying58 rfl (by kernel_rfl)) rfl ?_
          unfold QuoPost
          rw [HFIN.out]
          refine ⟨_, rfl, ⟨na, nc, by rw [hny], by rw [hny]; exact HI9.out, g1, g2, g3⟩, below_setRow (HB1.out.trans (HB7.out.mono HB1.out.size)) (by omega) _⟩
end Go.Proofs.YtdkkhmjlamkgdaaGreatDoor
namespace Go.Proofs.YtdkkhmjlamkgdaaGreatDoor
open Go.RowKit Mg Go.Shelf Go.Maps

theorem bs_data (t : ByteArray) : bs t.data.toList = t := by cases t; simp [bs]
theorem digs_dec (i : Nat) (hi : i < 100) : Lib.decDigits i = digs i := by
  unfold Lib.decDigits digs
  split
  · rfl
  · unfold Lib.decDigits
    rw [dif_pos (by omega)]; rfl
theorem itoa_any (i : Nat) (hi : i < 100) (w : World) : Calls Tryz.prog 54 #[.int .i64 i] w fun e w' => e = .returned (.string (bs (digs i))) ∧ w' = w := by
  have := Tryz.strconv_Itoa_small i hi w
  rw [digs_dec i hi] at this
  exact this
theorem quo_two (s : StF) (lang : ByteArray) (b : Blk) : (quoS s lang b).2 = [] ∨ (quoS s lang b).2 = tRemoved ∨ (quoS s lang b).2 = tRetracted := by
  unfold quoS
  split
  · exact .inr (.inl rfl)
  · split
    · exact .inr (.inl rfl)
    · split
      · exact .inr (.inr rfl)
      · exact .inl rfl
set_option maxRecDepth 100000 in
set_option maxHeartbeats 8000000 in
theorem Resolve_any {mem : Addr → Option Value} {v : Value} {s : StF} (h : StateM mem v s) (hn : s.stories.length < 100) (lang : ByteArray) {b : Blk} {bu : Value} (hb : BlkV mem bu b) (w : World) (hs : Sees mem w) :
    Calls Tryz.prog 29 #[v, .string lang, bu] w fun e w' => e = .returned (.string (bs (resS s lang b))) ∧ Below w.heap.size w w' := by
  have HST := Lib.hid h
  obtain ⟨sv, tv, rfl, h1, h2⟩ := h
  obtain ⟨sa, sc, rfl⟩ := SlM.slice h1
  obtain ⟨ta, tc, rfl⟩ := SlM.slice h2
  obtain ⟨ba, bc, rfl, hbi, hb3⟩ := hb
  have HS := Lib.hid hs
  have HIB := Lib.hid (And.intro hbi hb3)
  obtain ⟨W1, hW1⟩ : ∃ W1, W1 = (w.alloc (.cells #[.slice sa s.stories.length sc, .slice ta s.tpls.length tc] 27)).alloc (.cells (blkCells b (.slice ba b.lab.after.length bc)) 58) := ⟨_, rfl⟩
  have hb1 : Below w.heap.size w W1 := by rw [hW1]; exact (bel1 w _).alloc (by simp) _
  have HN0 : Hid (W1.heap[w.heap.size]? = some (.cells #[.slice sa s.stories.length sc, .slice ta s.tpls.length tc] 27 (0, 0))) := Lib.hid (by rw [hW1]; exact heap_new1 w _ _)
  have HN1 : Hid (W1.heap[w.heap.size + 1]? = some (.cells (blkCells b (.slice ba b.lab.after.length bc)) 58 (0, 0))) := Lib.hid (by
    rw [hW1]
    have := World.alloc_heap_new (w.alloc (.cells #[.slice sa s.stories.length sc, .slice ta s.tpls.length tc] 27)) (.cells (blkCells b (.slice ba b.lab.after.length bc)) 58)
    simpa using this)
  have HB1 := Lib.hid hb1
  have HW1 := Lib.hid hW1
  clear h1 h2 hs hb1 hW1 hbi hb3
  go_enter Tryz.func29, Tryz.ntmps29
  go_upto_region 1 with fail
  rw [← HW1.out]
  go_wp2_with fail
  go_loopw [7] (fun i wr => ∃ (n : Nat) (c : Blk) (ca : Option Addr) (cc : Nat), n ≤ 8 ∧ i = .int .i64 n ∧ Hid (resGo s lang (8 - n) c = resS s lang b) ∧ Hid (IntsM mem (.slice ca c.lab.after.length cc) c.lab.after ∧ c.text.size ≤ maxLen ∧ okI c.kind ∧ okI c.id) ∧ Hid (wr.heap[w.heap.size]? = some (.cells #[.slice sa s.stories.length sc, .slice ta s.tpls.length tc] 27 (0, 0))) ∧ Hid (wr.heap[w.heap.size + 1]? = some (.cells (blkCells c (.slice ca c.lab.after.length cc)) 58 (0, 0))) ∧ Hid (Below w.heap.size w wr)) (fun i _ => 8 - (intOf i).toNat)
  case atStart => exact ⟨0, b, ba, bc, by omega, rfl, Lib.hid rfl, HIB, HN0, HN1, HB1⟩
  case round =>
    obtain ⟨n, c, ca, cc, hn8, rfl, HR, HI, HZ0, HZ1, HB⟩ := hrel
    have k1 : wr.cell? ⟨w.heap.size + 1, 1, none⟩ = some (.int .i64 c.kind) := rowcell HZ1.out
    have HBV : Hid (BlkV mem (.agg (blkCells c (.slice ca c.lab.after.length cc))) c) := Lib.hid ⟨ca, cc, rfl, HI.out⟩
    by_cases hk3 : c.kind = 3
    · have HK3 := Lib.hid hk3
      rw [hk3] at k1
      clear hk3
      by_cases h8 : n = 8
      · have HF := Lib.hid (HR.out.symm.trans (show resGo s lang (8 - n) c = tCircular by rw [h8]; exact resGo_circ s lang HK3.out))
        subst h8
        go_wp2_with fail
        go_ret
        exact ⟨by rw [HF.out]; rfl, HB.out⟩
      · have hn9 : ((n : Int) == 8) = false := by simp; omega
        have hn10 : n < 8 := by omega
        have cQ := Lib.hid (quoted_any HST.out lang HBV.out wr (HS.out.bel HB.out))
        generalize hcl : c.lab.after.length = cl at *
        go_wp2_with (first
          | ((with_reducible refine at_sload 27 _ rfl ?_); go_must (refine wpList_sload rfl S_state _ rfl (by simp [Act.eval]) #[.slice sa s.stories.length sc, .slice ta s.tpls.length tc] rfl HZ0.out ?_))
          | ((with_reducible refine at_sload 58 _ rfl ?_); go_must (refine wpList_sload rfl S_blk _ rfl (by simp [Act.eval]) (blkCells c (.slice ca cl cc)) rfl HZ1.out ?_)))
        refine cQ.out.mono ?_
        rintro e W2 ⟨u, rfl, hu, hb2⟩
        have HQT := Lib.hid (quo_two s lang c)
        have HQS := Lib.hid (resGo_step s lang (8 - n - 1) HK3.out)
        have HQX := Lib.hid (resGo_text s lang (8 - n - 1) HK3.out)
        have hne : 8 - n - 1 + 1 = 8 - n := by omega
        rw [hne] at HQS HQX
        clear hne
        generalize quoS s lang c = q at *
        obtain ⟨qb, qt⟩ := q
        dsimp only at hu HQT HQS HQX
        obtain ⟨xa, xc, rfl, hxi⟩ := hu
        have HXI := Lib.hid hxi
        have HB2 : Hid (Below w.heap.size w W2) := Lib.hid (HB.out.trans (hb2.mono HB.out.size))
        have HY0 := Lib.hid ((hb2.block _ (hlt HZ0.out)).trans HZ0.out)
        have HY1 := Lib.hid ((hb2.block _ (hlt HZ1.out)).trans HZ1.out)
        have hw2 : wr.heap.size ≤ W2.heap.size := hb2.size
        have hw1 : w.heap.size + 1 < wr.heap.size := hlt HZ1.out
        clear hxi hb2 cQ k1
        generalize hxl : qb.lab.after.length = xl at *
        go_upto_region 7 with ((with_reducible refine at_sstore 58 _ _ rfl ?_); go_must (refine wpList_snew rfl S_blk _ _ rfl rfl _ _ (blkCells qb (.slice xa xl xc)) (by simp [Act.eval]) (by simp [Act.eval]) rfl rfl (by simp [Value.oneCell']) ?_))
        obtain ⟨W3, hW3⟩ : ∃ W3, W3 = W2.alloc (.cells (blkCells qb (.slice xa xl xc)) 58) := ⟨_, rfl⟩
        rw [← hW3]
        have hb3 : Below W2.heap.size W2 W3 := by rw [hW3]; exact bel1 _ _
        have HN3 : Hid (W3.heap[W2.heap.size]? = some (.cells (blkCells qb (.slice xa xl xc)) 58 (0, 0))) := Lib.hid (by rw [hW3]; exact World.alloc_heap_new _ _)
        have HB3 : Hid (Below w.heap.size w W3) := Lib.hid (HB2.out.trans (hb3.mono HB2.out.size))
        have HX0 := Lib.hid ((hb3.block _ (hlt HY0.out)).trans HY0.out)
        have HX1 := Lib.hid ((hb3.block _ (hlt HY1.out)).trans HY1.out)
        clear hW3 hb3
        rcases HQT.out with h | h | h
        · subst h
          rw [show bs ([] : List UInt8) = ⟨#[]⟩ from rfl]
          have HNX : Hid (resGo s lang (8 - (n + 1)) qb = resS s lang b) := Lib.hid (by
            have h1 := HQS.out rfl
            have h2 := HR.out
            rw [h1] at h2
            rw [show 8 - (n + 1) = 8 - n - 1 by omega]
            exact h2)
          go_wp2_with (first
            | ((with_reducible refine at_sload 58 _ rfl ?_); go_must (refine wpList_sload rfl S_blk _ rfl (by simp [Act.eval]) (blkCells qb (.slice xa xl xc)) rfl HN3.out ?_))
            | ((with_reducible refine at_sstore 58 _ _ rfl ?_); go_must (refine wpList_sstore (cs := blkCells qb (.slice xa xl xc)) rfl S_blk _ _ rfl (by simp [Act.eval, Act.put]) (by simp [Act.eval, Act.put]) HX1.out rfl rfl (by simp [Value.oneCell']) ?_)))
          have hwr : IntKind.i64.wrap ((n : Int) + 1) = (n : Int) + 1 := IntWalk.i64_in _ (by omega)
          go_roundw
          case rel => exact ⟨n + 1, qb, xa, xc, by omega, by go_num, HNX, by rw [hxl]; exact HXI, Lib.hid ((setRow_other _ _ _ _ (by omega)).trans HX0.out), Lib.hid (by rw [hxl]; exact setRow_heap _ _ _ _ _ _ HX1.out), Lib.hid (below_setRow HB3.out (by omega) _)⟩
          case measure => simp [intOf]; omega
        · subst h
          have HF := Lib.hid (HR.out.symm.trans (HQX.out (by decide)))
          rw [show bs tRemoved = ⟨#[91, 114, 101, 109, 111, 118, 101, 100, 93]⟩ from rfl]
          go_wp2_with fail
          go_ret
          exact ⟨by rw [HF.out]; rfl, HB3.out⟩
        · subst h
          have HF := Lib.hid (HR.out.symm.trans (HQX.out (by decide)))
          rw [show bs tRetracted = ⟨#[91, 114, 101, 116, 114, 97, 99, 116, 101, 100, 93]⟩ from rfl]
          go_wp2_with fail
          go_ret
          exact ⟨by rw [HF.out]; rfl, HB3.out⟩
    · have HSH := Lib.hid (HR.out.symm.trans (resGo_done s lang _ hk3))
      have hk4 : (c.kind == 3) = false := by simpa using hk3
      have k2 : wr.cell? ⟨w.heap.size + 1, 2, none⟩ = some (.string c.text) := rowcell HZ1.out
      have HSD : Hid (shown s c = if c.kind = 5 then digs (countS s c.text) else c.text.data.toList) := Lib.hid rfl
      clear hk3
      by_cases hk5 : c.kind = 5
      · have hcn : countS s c.text < 100 := by
          have : countS s c.text ≤ s.stories.length := List.length_filter_le _ _
          omega
        have HF : Hid (resS s lang b = digs (countS s c.text)) := Lib.hid (by rw [HSH.out, HSD.out, if_pos hk5])
        rw [hk5] at k1 hk4
        have cC := Lib.hid (count_any HST.out c.text wr (HS.out.bel HB.out))
        clear hk5
        go_wp2_with ((with_reducible refine at_sload 27 _ rfl ?_); go_must (refine wpList_sload rfl S_state _ rfl (by simp [Act.eval]) #[.slice sa s.stories.length sc, .slice ta s.tpls.length tc] rfl HZ0.out ?_))
        refine cC.out.mono ?_
        rintro e W2 ⟨rfl, hb2⟩
        have HB2 : Hid (Below w.heap.size w W2) := Lib.hid (HB.out.trans (hb2.mono HB.out.size))
        have cI := Lib.hid (itoa_any (countS s c.text) hcn W2)
        clear hb2 cC
        go_wp2_with fail
        refine cI.out.mono ?_
        rintro e W3 ⟨rfl, rfl⟩
        go_wp2_with fail
        go_ret
        exact ⟨by rw [HF.out]; rfl, HB2.out⟩
      · have hk6 : (c.kind == 5) = false := by simpa using hk5
        have HF : Hid (resS s lang b = c.text.data.toList) := Lib.hid (by rw [HSH.out, HSD.out, if_neg hk5])
        clear hk5
        go_wp2_with fail
        go_ret
        exact ⟨by rw [HF.out, bs_data]; rfl, HB.out⟩
end Go.Proofs.YtdkkhmjlamkgdaaGreatDoor
namespace Go.Proofs.YtdkkhmjlamkgdaaGreatDoor
open Go.RowKit Mg Go.Shelf Go.Maps

theorem S_rule : StructT Tryz.prog 125 3 := ⟨⟨_, Tryz.underlying125⟩, by kernel_rfl, by decide⟩
theorem rule_for {k : Int} (h : 1 ≤ k ∧ k ≤ 5) : ∃ f q g, getL rulesL k = some (ruleV f q g) ∧ Enters Tryz.prog g ∧ ∀ t : ByteArray, t.size ≤ 1000000000000 → ∀ W, Calls Tryz.prog g #[.string t] W (LineOf k t W) := by
  have hk : k = 1 ∨ k = 2 ∨ k = 3 ∨ k = 4 ∨ k = 5 := by omega
  rcases hk with rfl | rfl | rfl | rfl | rfl
  · exact ⟨_, _, _, rfl, enters_of Tryz.func97 (by kernel_rfl) rfl, fun t _ W => line1_any t W⟩
  · exact ⟨_, _, _, rfl, enters_of Tryz.func98 (by kernel_rfl) rfl, fun t ht W => line2_any t ht W⟩
  · exact ⟨_, _, _, rfl, enters_of Tryz.func101 (by kernel_rfl) rfl, fun t ht W => line3_any t ht W⟩
  · exact ⟨_, _, _, rfl, enters_of Tryz.func102 (by kernel_rfl) rfl, fun t ht W => line4_any t ht W⟩
  · exact ⟨_, _, _, rfl, enters_of Tryz.func104 (by kernel_rfl) rfl, fun t ht W => line5_any t ht W⟩
theorem rule_no {k : Int} (h : ¬ (1 ≤ k ∧ k ≤ 5)) : getL rulesL k = none := getL_none (by simp [keysL, rulesL]; omega)
theorem lineOf_len (k : Int) (t : ByteArray) : (lineOf k t).length ≤ t.size + 3 := by
  unfold lineOf
  split
  · have := joinB_plain_len t
    have e := size_list t
    unfold lineF
    repeat' split
    all_goals simp only [List.length_append, List.length_cons, List.length_nil]; omega
  · exact Nat.zero_le _
theorem plainB_snoc (l : List Blk) (x : Blk) : plainB (l ++ [x]) = plainB l ++ lineOf x.kind x.text := by unfold plainB; rw [List.flatMap_append]; simp
theorem plainB_len : ∀ {l : List Blk}, (∀ x ∈ l, x.text.size ≤ 10000000000) → (plainB l).length ≤ l.length * 10000000003
  | [], _ => Nat.le_refl _
  | x :: l, h => by
    have h1 := plainB_len (fun y hy => h y (List.mem_cons_of_mem _ hy))
    have h2 := lineOf_len x.kind x.text
    have h3 := h x List.mem_cons_self
    show (lineOf x.kind x.text ++ plainB l).length ≤ _
    rw [List.length_append, List.length_cons, Nat.succ_mul]
    omega
set_option maxRecDepth 100000 in
set_option maxHeartbeats 8000000 in
theorem plain_any {mem : Addr → Option Value} {v : Value} {l : List Blk} (h : BlksM mem v l) (hl : l.length ≤ 1000) (ht : ∀ x ∈ l, x.text.size ≤ 10000000000) (w : World) (hs : Sees mem w) :
    Calls Tryz.prog 44 #[v] w fun e w' => e = .returned (.string (bs (plainB l))) ∧ Below w.heap.size w w' := by
  obtain ⟨xa, xc, xb, xo, rfl, hcap, hm, hxa, hat⟩ := h.open_
  have HXA := Lib.hid hxa
  have HAT := Lib.hid hat
  have HS := Lib.hid hs
  have HT := Lib.hid ht
  have hll : l.length ≤ 9223372036854775807 := by omega
  have cR := Lib.hid (rules_any w)
  clear h hxa hat hs ht
  go_enter Tryz.func44, Tryz.ntmps44
  go_wp2_with fail
  refine cR.out.mono ?_
  rintro e W1 ⟨rfl, hrm, hb1⟩
  have hrl := hrm.lt
  obtain ⟨W2, hW2⟩ : ∃ W2, W2 = W1.alloc (.cells #[.pointer none, .slice none 0 0] 82) := ⟨_, rfl⟩
  have HBL : Hid (Bld W2 W1.heap.size []) := Lib.hid (by rw [hW2]; exact Bld.new W1)
  have hb2 : Below W1.heap.size W1 W2 := by rw [hW2]; exact bel1 _ _
  have HRM := Lib.hid (hrm.of_block (hb2.block _ hrl))
  have HB2 : Hid (Below w.heap.size w W2) := Lib.hid (hb1.trans (hb2.mono hb1.size))
  have hb1s := hb1.size
  have hb2s := hb2.size
  have HW2 := Lib.hid hW2
  clear hrm hb1 hb2 hW2 cR
  go_upto_region 3 with fail
  rw [← HW2.out]
  go_wp2_with fail
  go_loopw [12] (fun i wr => ∃ k : Nat, k ≤ l.length ∧ i = .int .i64 k ∧ Hid (Bld wr W1.heap.size (plainB (l.take k))) ∧ Hid (Below W1.heap.size W2 wr)) (fun i _ => l.length - (intOf i).toNat)
  case atStart => exact ⟨0, Nat.zero_le _, rfl, Lib.hid (by rw [List.take_zero]; exact HBL.out), Lib.hid (Below.refl _ _)⟩
  case round =>
    obtain ⟨k, hk, rfl, HL, HB⟩ := hrel
    have HBW : Hid (Below w.heap.size w wr) := Lib.hid (HB2.out.trans (HB.out.mono hb1s))
    by_cases hlt : k < l.length
    · obtain rfl := HXA.out (by omega)
      obtain ⟨⟨g1, g2, g3⟩, na, nc, hi9, hc9⟩ := (HAT.out k hlt).nine (HS.out.bel HBW.out)
      have HC9 := Lib.hid (cells9_see hc9)
      have htx := HT.out _ (List.getElem_mem hlt)
      have HTK : Hid (plainB (l.take (k + 1)) = plainB (l.take k) ++ lineOf l[k].kind l[k].text) := Lib.hid (by rw [List.take_succ_eq_append_getElem hlt, plainB_snoc])
      have hpl : (plainB (l.take k)).length ≤ 1000 * 10000000003 := by
        have h1 := plainB_len (l := l.take k) (fun x hx => HT.out x (List.mem_of_mem_take hx))
        have h2 : (l.take k).length ≤ 1000 := by rw [List.length_take]; omega
        exact Nat.le_trans h1 (Nat.mul_le_mul_right _ h2)
      have hll2 := lineOf_len l[k].kind l[k].text
      clear hi9 hc9
      generalize l[k] = x at *
      generalize hnx : x.lab.after.length = nx at *
      go_upto_region 6 with (first
        | ((with_reducible refine at_sload 58 _ rfl ?_); go_must (refine wpList_smid rfl S_blk _ rfl (by simp [Act.eval]) (blkCells x (.slice na nx nc)) rfl HC9.out ?_))
        | ((with_reducible refine at_sstore 58 _ _ rfl ?_); go_must (refine wpList_snew rfl S_blk _ _ rfl rfl _ _ (blkCells x (.slice na nx nc)) (by simp [Act.eval]) (by simp [Act.eval]) rfl rfl (by simp [Value.oneCell']) ?_)))
      obtain ⟨W4, hW4⟩ : ∃ W4, W4 = wr.alloc (.cells (blkCells x (.slice na nx nc)) 58) := ⟨_, rfl⟩
      rw [← hW4]
      have hb4 : Below wr.heap.size wr W4 := by rw [hW4]; exact bel1 _ _
      have hn4 : W4.heap[wr.heap.size]? = some (.cells (blkCells x (.slice na nx nc)) 58 (0, 0)) := by rw [hW4]; exact World.alloc_heap_new _ _
      have q1 : W4.cell? ⟨wr.heap.size, 1, none⟩ = some (.int .i64 x.kind) := rowcell hn4
      have HN4 := Lib.hid hn4
      have HB4 : Hid (Below W1.heap.size W2 W4) := Lib.hid (HB.out.trans (hb4.mono (by have := HB.out.size; omega)))
      have HL4 := Lib.hid (HL.out.bel hb4)
      have HM4 : Hid (RMap W4 w.heap.size) := Lib.hid (HRM.out.of_block (HB4.out.block _ hrl))
      have hw4 : W1.heap.size ≤ W4.heap.size := by have := HB4.out.size; omega
      clear hW4 hb4 hn4
      by_cases hkn : 1 ≤ x.kind ∧ x.kind ≤ 5
      · obtain ⟨f, q, g, hg, hen0, hL⟩ := rule_for hkn
        have hen : ∀ args w, (callFunc g args).run Tryz.prog w = .ok (.enter g args) w := hen0
        have HG := Lib.hid hg
        have HLN := Lib.hid (hL x.text (by omega))
        have HLO : Hid (lineOf x.kind x.text = lineF x.kind x.text ++ [10]) := Lib.hid (by unfold lineOf; rw [if_pos hkn])
        clear hkn hg hL
        go_upto_region 7 with (first
          | (at_lookup; go_must (refine wpList_imap_lookOk _ rfl _ _ 120 rfl 3 125 Tryz.underlying3 Tryz.underlying120 (zero_rule _) w.heap.size rulesL rfl HM4.out x.kind rfl g2 (.agg #[.func (.func f) #[] #[], .bool q, .func (.func g) #[] #[]]) true (by rw [HG.out]; rfl) (by rw [HG.out]; rfl) ?_))
          | ((with_reducible refine at_sstore 125 _ _ rfl ?_); go_must (refine wpList_snew rfl S_rule _ _ rfl rfl _ _ #[.func (.func f) #[] #[], .bool q, .func (.func g) #[] #[]] (by simp [Act.eval]) (by simp [Act.eval]) rfl rfl (by simp [Value.oneCell']) ?_)))
        obtain ⟨W5, hW5⟩ : ∃ W5, W5 = W4.alloc (.cells #[.func (.func f) #[] #[], .bool q, .func (.func g) #[] #[]] 125) := ⟨_, rfl⟩
        rw [← hW5]
        have hb5 : Below W4.heap.size W4 W5 := by rw [hW5]; exact bel1 _ _
        have hn5 : W5.heap[W4.heap.size]? = some (.cells #[.func (.func f) #[] #[], .bool q, .func (.func g) #[] #[]] 125 (0, 0)) := by rw [hW5]; exact World.alloc_heap_new _ _
        have r2 : W5.cell? ⟨W4.heap.size, 2, none⟩ = some (.func (.func g) #[] #[]) := rowcell hn5
        have q2 : W5.cell? ⟨wr.heap.size, 2, none⟩ = some (.string x.text) := rowcell ((hb5.block _ (Go.Proofs.YtdkkhmjlamkgdaaGreatDoor.hlt HN4.out)).trans HN4.out)
        have HL5 := Lib.hid (HL4.out.bel hb5)
        have HB5 : Hid (Below W1.heap.size W2 W5) := Lib.hid (HB4.out.trans (hb5.mono hw4))
        have cL := Lib.hid (HLN.out W5)
        clear hW5 hb5 hn5 q1
        go_wp2_with fail
        refine cL.out.mono ?_
        rintro e W6 ⟨rfl, hb6⟩
        have HL6 := Lib.hid (HL5.out.bel hb6)
        have HB6 : Hid (Below W1.heap.size W2 W6) := Lib.hid (HB5.out.trans (hb6.mono (by have := HB5.out.size; omega)))
        have hll3 : (lineF x.kind x.text).length + 1 ≤ x.text.size + 3 := by rw [HLO.out, List.length_append] at hll2; exact hll2
        have cW := Lib.hid (write_str HL6.out (bs (lineF x.kind x.text)) (by rw [bs_size]; omega))
        clear hb6 cL r2 q2 hen
        go_wp2_with fail
        refine cW.out.mono ?_
        rintro e W7 ⟨rfl, hl7, hb7⟩
        rw [bs_list] at hl7
        have HB7 : Hid (Below W1.heap.size W2 W7) := Lib.hid (HB6.out.trans (hb7.mono (Nat.le_refl _)))
        have cB := Lib.hid (write_byte hl7 10 (by rw [List.length_append]; omega))
        clear hl7 hb7 cW
        go_wp2_with fail
        refine cB.out.mono ?_
        rintro e W8 ⟨rfl, hl8, hb8⟩
        have HL8 : Hid (Bld W8 W1.heap.size (plainB (l.take (k + 1)))) := Lib.hid (by rw [HTK.out, HLO.out, ← List.append_assoc]; exact hl8)
        have HB8 : Hid (Below W1.heap.size W2 W8) := Lib.hid (HB7.out.trans hb8)
        clear hl8 hb8 cB
        go_wp2_with fail
        go_roundw
        case rel => exact ⟨k + 1, by omega, by go_num, HL8, HB8⟩
        case measure => simp [intOf]; omega
      · have HG := Lib.hid (rule_no hkn)
        have HTK2 : Hid (plainB (l.take (k + 1)) = plainB (l.take k)) := Lib.hid (by
          rw [HTK.out]
          unfold lineOf
          rw [if_neg hkn, List.append_nil])
        clear hkn
        go_upto_region 7 with (first
          | (at_lookup; go_must (refine wpList_imap_lookOk _ rfl _ _ 120 rfl 3 125 Tryz.underlying3 Tryz.underlying120 (zero_rule _) w.heap.size rulesL rfl HM4.out x.kind rfl g2 (.agg #[.nilFunc, .bool false, .nilFunc]) false (by rw [HG.out]; rfl) (by rw [HG.out]; rfl) ?_))
          | ((with_reducible refine at_sstore 125 _ _ rfl ?_); go_must (refine wpList_snew rfl S_rule _ _ rfl rfl _ _ #[.nilFunc, .bool false, .nilFunc] (by simp [Act.eval]) (by simp [Act.eval]) rfl rfl (by simp [Value.oneCell']) ?_)))
        obtain ⟨W5, hW5⟩ : ∃ W5, W5 = W4.alloc (.cells #[.nilFunc, .bool false, .nilFunc] 125) := ⟨_, rfl⟩
        rw [← hW5]
        have hb5 : Below W4.heap.size W4 W5 := by rw [hW5]; exact bel1 _ _
        have HL5 : Hid (Bld W5 W1.heap.size (plainB (l.take (k + 1)))) := Lib.hid (by rw [HTK2.out]; exact HL4.out.bel hb5)
        have HB5 : Hid (Below W1.heap.size W2 W5) := Lib.hid (HB4.out.trans (hb5.mono hw4))
        clear hW5 hb5 q1
        go_wp2_with fail
        go_roundw
        case rel => exact ⟨k + 1, by omega, by go_num, HL5, HB5⟩
        case measure => simp [intOf]; omega
    · have e' : k = l.length := by omega
      subst e'
      have hf := HL.out
      rw [List.take_length] at hf
      have cS := Lib.hid (bld_string hf)
      clear hf
      go_wp2_with fail
      refine cS.out.mono ?_
      rintro e W9 ⟨rfl, hb9⟩
      have HB9 : Hid (Below w.heap.size w W9) := Lib.hid (HBW.out.trans (hb9.mono hb1s))
      clear hb9 cS
      go_wp2_with fail
      go_ret
      exact ⟨rfl, HB9.out⟩
end Go.Proofs.YtdkkhmjlamkgdaaGreatDoor
namespace Go.Proofs.YtdkkhmjlamkgdaaGreatDoor
open Go.RowKit Mg Go.Shelf Go.Maps

theorem upd_setCells (g : Nat) : ∀ (vs : List Value) (o : Nat) (w : World), Upd (fun k => k = g) w (w.setCells g o vs)
  | [], _, w => Upd.refl _ w
  | v :: r, o, w => (upd_cell w g o v).trans (upd_setCells g r (o + 1) _) (fun _ h => .inl h)
def setFrom (c : Array Value) : Nat → List Value → Array Value
  | _, [] => c
  | t, v :: r => setFrom (c.setIfInBounds t v) (t + 1) r
theorem setFrom_size : ∀ (vs : List Value) (t : Nat) (c : Array Value), (setFrom c t vs).size = c.size
  | [], _, _ => rfl
  | v :: r, t, c => by rw [setFrom, setFrom_size r, Array.size_setIfInBounds]
theorem GRow.setCells {B : Nat} {e : TypeId} {sz g n cap j : Nat} (vs : List Value) : ∀ (t : Nat) (w : World) (cs : List (Array Value)), GRow w B e sz (.slice (some ⟨g, 0, none⟩) n cap) cs → ∀ (hj : j < cs.length), t + vs.length ≤ sz → (∀ u ∈ vs, u.oneCell' = true) →
    GRow (w.setCells g (j * sz + t) vs) B e sz (.slice (some ⟨g, 0, none⟩) n cap) (cs.set j (setFrom (cs[j]'hj) t vs)) := by
  induction vs with
  | nil =>
    intro t w cs h hj _ _
    show GRow w B e sz _ (cs.set j cs[j])
    rw [List.set_getElem_self]; exact h
  | cons v r ih =>
    intro t w cs h hj ht ho
    rw [List.length_cons] at ht
    have h1 := h.set_ j t hj (by omega) (u := v) (ho v List.mem_cons_self)
    have h2 := ih (t + 1) _ _ h1 (by rw [List.length_set]; exact hj) (by omega) (fun u hu => ho u (List.mem_cons_of_mem _ hu))
    rw [List.getElem_set_self, List.set_set] at h2
    exact h2
theorem set9 {mem : Addr → Option Value} {x : Blk} {c : Array Value} (h : CellsOf mem x c) (a0 a1 a2 a3 a4 a5 a6 a7 a8 : Value) : setFrom c 0 [a0, a1, a2, a3, a4, a5, a6, a7, a8] = #[a0, a1, a2, a3, a4, a5, a6, a7, a8] := by
  obtain ⟨a, cap, rfl, _⟩ := h
  apply Array.ext'
  simp [setFrom]
def ShowI (mem : Addr → Option Value) (s : StF) (lang : ByteArray) (l : List Blk) (w : World) (B k : Nat) (v : Value) : Prop :=
  ∃ cs, GRow w B 58 9 v cs ∧ cs.length = l.length ∧ ∀ j (h : j < l.length) (h2 : j < cs.length), CellsOf mem (if j < k then shownB s lang l[j] else l[j]) cs[j]
theorem ShowI.bel {mem : Addr → Option Value} {s : StF} {lang : ByteArray} {l : List Blk} {w w' : World} {B k : Nat} {v : Value} (h : ShowI mem s lang l w B k v) (hb : Below w.heap.size w w') : ShowI mem s lang l w' B k v := by
  obtain ⟨cs, h1, h2⟩ := h
  exact ⟨cs, h1.bel hb, h2⟩
theorem ShowI.next {mem : Addr → Option Value} {s : StF} {lang : ByteArray} {l : List Blk} {w : World} {B k : Nat} {v : Value} {cs : List (Array Value)} {c : Array Value} (hk : k < l.length) (h2 : cs.length = l.length) (h3 : ∀ j (h : j < l.length) (h2 : j < cs.length), CellsOf mem (if j < k then shownB s lang l[j] else l[j]) cs[j])
    (hc : CellsOf mem (shownB s lang l[k]) c) (hr : GRow w B 58 9 v (cs.set k c)) : ShowI mem s lang l w B (k + 1) v := by
  refine ⟨_, hr, by rw [List.length_set]; exact h2, fun j hj hj2 => ?_⟩
  by_cases e : j = k
  · subst e
    rw [if_pos (by omega), List.getElem_set_self]; exact hc
  · rw [List.getElem_set_ne (Ne.symm e)]
    have := h3 j hj (by rw [List.length_set] at hj2; exact hj2)
    by_cases hjk : j < k
    · rw [if_pos hjk] at this; rw [if_pos (by omega)]; exact this
    · rw [if_neg hjk] at this; rw [if_neg (by omega)]; exact this
theorem ShowI.skip {mem : Addr → Option Value} {s : StF} {lang : ByteArray} {l : List Blk} {w : World} {B k : Nat} {v : Value} (h : ShowI mem s lang l w B k v) (hk : k < l.length) (he : shownB s lang l[k] = l[k]) : ShowI mem s lang l w B (k + 1) v := by
  obtain ⟨cs, h1, h2, h3⟩ := h
  refine ⟨cs, h1, h2, fun j hj hj2 => ?_⟩
  have := h3 j hj hj2
  by_cases e : j = k
  · subst e
    rw [if_neg (by omega)] at this
    rw [if_pos (by omega), he]; exact this
  · by_cases hjk : j < k
    · rw [if_pos hjk] at this; rw [if_pos (by omega)]; exact this
    · rw [if_neg hjk] at this; rw [if_neg (by omega)]; exact this
theorem shownB_ok {s : StF} {lang : ByteArray} {x : Blk} (h : okI x.kind ∧ okI x.id) : okI (shownB s lang x).kind ∧ okI (shownB s lang x).id := by
  unfold shownB
  split
  · exact h
  · split
    · exact ⟨(⟨by omega, by omega⟩ : okI 2), okI_zero⟩
    · exact h
theorem ShowI.done {mem : Addr → Option Value} {s : StF} {lang : ByteArray} {l : List Blk} {w : World} {B : Nat} {v : Value} (h : ShowI mem s lang l w B l.length v) (hs : Sees mem w) (hp : ∀ x ∈ l, okI x.kind ∧ okI x.id) (ht : ∀ x ∈ l, (shownB s lang x).text.size ≤ maxLen) : BlksM (fun a => w.cell? a) v (l.map (shownB s lang)) := by
  obtain ⟨cs, h1, h2, h3⟩ := h
  obtain ⟨b, q1, q2⟩ := h1.cellsFr (F := fun _ => False) (fun _ _ h => h)
  rw [h2] at q1
  refine ⟨b, 0, by rw [List.length_map]; exact q1, fun j hj => ?_⟩
  have hjl : j < l.length := by rw [List.length_map] at hj; exact hj
  have hjc : j < cs.length := by rw [h2]; exact hjl
  have hce := h3 j hjl hjc
  rw [if_pos hjl] at hce
  obtain ⟨a, cap, e, hi⟩ := hce
  have hq : ∀ t, t < 9 → w.cell? ⟨b, 0 + j * 9 + t, none⟩ = (blkCells (shownB s lang l[j]) (.slice a (shownB s lang l[j]).lab.after.length cap))[t]? := fun t ht => by
    have := q2 j hjc t ht
    rw [e] at this
    rw [Array.getElem?_eq_getElem (by simpa using ht)] at this ⊢
    exact memFr_sees w _ _ _ this
  rw [List.getElem_map]
  have hpj := shownB_ok (s := s) (lang := lang) (hp l[j] (List.getElem_mem hjl))
  exact ⟨⟨hq 0 (by omega), hq 1 (by omega), hq 2 (by omega), hq 3 (by omega), hq 4 (by omega)⟩, ⟨hq 5 (by omega), hq 7 (by omega), hq 8 (by omega)⟩, ⟨ht _ (List.getElem_mem hjl), hpj.1, hpj.2⟩, _, hq 6 (by omega), hi.mono (fun x u h => hs x u h)⟩
theorem Blf.upd {w w' : World} {b g : Nat} {l : List UInt8} {cells : Array Value} (h : Blf w b l) (hu : Upd (fun k => k = g) w w') (hg : w.heap[g]? = some (.cells cells 58 (0, 0))) : Blf w' b l := by
  refine ⟨?_, Nat.lt_of_lt_of_le h.2 hu.size⟩
  have key : ∀ {p : Value}, Lib.BuilderAtF 82 5 b b p (Lib.byteCells l) w → Lib.BuilderAtF 82 5 b b p (Lib.byteCells l) w' := fun {p} hp => by
    have hlt := hp.lt
    obtain ⟨hB, v, hv, hown, hne⟩ := hp
    have hbg : b ≠ g := rows_apart hv hg (by decide)
    refine ⟨hB, v, (hu.block b hlt hbg).trans hv, ⟨hown.1, ?_⟩, hne⟩
    rcases hown.2 with hq | ⟨g', cap, cur, fz, rfl, h1, h2, rest⟩
    · exact .inl hq
    · exact .inr ⟨g', cap, cur, fz, rfl, h1, (hu.block g' (Array.getElem?_eq_some_iff.1 h2).1 (fun e => by
        subst e
        rw [hg] at h2
        injection h2 with h2
        injection h2 with _ h2
        exact absurd h2 (by decide))).trans h2, rest⟩
  exact h.1.elim (fun x => .inl (key x)) (fun x => .inr (key x))
end Go.Proofs.YtdkkhmjlamkgdaaGreatDoor
namespace Go.Proofs.YtdkkhmjlamkgdaaGreatDoor
open Go.RowKit Mg Go.Shelf Go.Maps

theorem results_tmp2 {P : Program} {fn : Func} {u v : Tmp} (h : fn.results = #[.tmp u, .tmp v]) (tmps : Array Value) (w : World) : (results fn tmps).run P w = .ok (.tuple #[tmps.getD u undef, tmps.getD v undef]) w := by
  simp [results, h]
theorem built_cnt (t : ByteArray) : Tryz.prog.built 58 [(1, .int .i64 2), (2, .string t)] = some (blkCells { blk0 with kind := 2, text := t } (.slice none 0 0)) := by kernel_rfl
theorem exec_sbuild2 {P : Program} {o : Oper} {a : Act} {W : World} (t : TypeId) (parts : Array (Nat × Operand)) (ho : o.op = .build t parts) (cells : Array Value) (hf : P.built t (parts.map fun (i, x) => (i, a.eval x)).toList = some cells) : (execOp a.eval o).run P W = .ok (.value (.agg cells)) W := by
  unfold execOp
  simp only [ho, Sem.run_bind, run_build W t _ cells hf, Result.andThen_ok]
  rfl
theorem fill2 (x y : ByteArray) : Instr.fill (fun i => some (i * 1, 1)) ((Array.range (2 * 1)).map ((Value.string .empty).cells[· % (Value.string .empty).cells.size]!)) [(0, .string x), (1, .string y)] = some #[.string x, .string y] := by kernel_rfl
theorem wpList_two_strs {ops : Array Oper} {rest : List Oper} {o : Oper} {a : Act} {w : World} {Q : Exit → Act → World → Prop} (hgd : o.guard = none) (parts : Array (Nat × Operand)) (ho : o.op = .buildSlice 30 2 parts) (x y : ByteArray) (hf : (parts.map fun (i, x) => (i, a.eval x)).toList = [(0, .string x), (1, .string y)])
    (hK : wpList Tryz.prog ops Q rest (a.put o.dst (.slice (some ⟨w.heap.size, 0, none⟩) 2 2)) (w.alloc (.cells #[.string x, .string y] 9))) : wpList Tryz.prog ops Q (o :: rest) a w :=
  wpList_plain hgd fun _ hK' => by
    obtain ⟨i0, hi0, hz0, hz1, hz2⟩ := info_parts E_str.inf
    refine wp_buildSlice 30 9 2 parts ho #[.string x, .string y] i0 (.string .empty) E_str.und hi0 hz0 (by rw [hz1]; omega) (by rw [hz1]; omega) ?_ (hK' _ _ hK)
    rw [hf, hz1]
    exact fill2 x y
abbrev cntCells (t : ByteArray) : Array Value := blkCells { blk0 with kind := 2, text := t } (.slice none 0 0)
theorem cnt_cells {mem : Addr → Option Value} {x : Blk} {c : Array Value} (t : ByteArray) (h : CellsOf mem x c) : CellsOf mem { blk0 with kind := 2, text := t } (setFrom c 0 (cntCells t).toList) := by
  have e : (cntCells t).toList = [.int .i64 blk0.id, .int .i64 2, .string t, .int .i64 blk0.story, .int .i64 blk0.ref, .int .i64 blk0.lab.till, .slice none 0 0, .int .i64 blk0.lab.appr, .int .i64 blk0.lab.denied] := rfl
  rw [e, set9 h]
  exact ⟨none, 0, rfl, IntsM.nil _⟩
theorem cnt_one (t : ByteArray) : ∀ u ∈ (cntCells t).toList, u.oneCell' = true := by
  intro u hu
  simp at hu
  rcases hu with rfl | rfl | rfl | rfl | rfl | rfl | rfl | rfl | rfl <;> rfl
theorem cnt_len (t : ByteArray) : 0 + (cntCells t).toList.length ≤ 9 := Nat.le_refl 9
theorem hlt_ {W : World} {g : Nat} {o : Obj} (h : W.heap[g]? = some o) : g < W.heap.size := hlt h
theorem blksOk {mem : Addr → Option Value} {v : Value} {l : List Blk} (h : BlksM mem v l) : ∀ x ∈ l, x.text.size ≤ maxLen ∧ okI x.kind ∧ okI x.id := fun x hx => by
  obtain ⟨_, _, _, _, _, _, _, _, hb⟩ := h.open_
  obtain ⟨j, hj, rfl⟩ := List.getElem_of_mem hx
  exact (hb j hj).2.2.1
def TxE (e : EdnF) : Prop := e.title.size ≤ 1000000000000 ∧ e.blocks.length ≤ 100
structure TxY (x : StyF) : Prop where
  eds : ∀ e ∈ x.eds, TxE e
  cor : ∀ c ∈ x.corr, c.text.size ≤ 1000
  ncor : x.corr.length ≤ 50000
theorem txy0 : TxY sty0 := ⟨(by intro e he; cases he), (by intro e he; cases he), Nat.zero_le _⟩
theorem txy_of {s : StF} (h : ∀ x ∈ s.stories, TxY x) (id : Int) : TxY (styOf s id) := by
  unfold styOf
  cases hf : findS s id with
  | none => exact txy0
  | some x => exact h x (List.mem_of_find?_eq_some hf)
def TextPost (s : StF) (id : Int) (lang : ByteArray) (w : World) (e : Ending) (w' : World) : Prop := e = .returned (.tuple #[.string (bs ((textS s id lang).getD [])), .bool (textS s id lang).isSome]) ∧ Below w.heap.size w w'
theorem textS_none {s : StF} {id : Int} {lang : ByteArray} (h : findE (styOf s id).eds lang = none) : textS s id lang = none := by unfold textS ednOf; rw [h]; rfl
theorem textS_some {s : StF} {id : Int} {lang : ByteArray} {e : EdnF} (h : findE (styOf s id).eds lang = some e) : textS s id lang = some (textE s (styOf s id) e lang) := by unfold textS ednOf; rw [h]; rfl
set_option maxRecDepth 100000 in
set_option maxHeartbeats 16000000 in
theorem Text_any {mem : Addr → Option Value} {v : Value} {s : StF} (h : StateM mem v s) (hn : s.stories.length < 100) (hx : ∀ x ∈ s.stories, TxY x) (htx : TxS s 1000000000) (id : Int) (lang : ByteArray) (w : World) (hs : Sees mem w) :
    Calls Tryz.prog 23 #[v, .int .i64 id, .string lang] w (TextPost s id lang w) := by
  have HST := Lib.hid h
  obtain ⟨sv, tv, rfl, h1, h2⟩ := h
  obtain ⟨sa, sc, rfl⟩ := SlM.slice h1
  obtain ⟨ta, tc, rfl⟩ := SlM.slice h2
  have HS := Lib.hid hs
  have HTXS := Lib.hid htx
  have HX := Lib.hid (txy_of hx id)
  have HTE := Lib.hid (htx.of id)
  obtain ⟨W1, hW1⟩ : ∃ W1, W1 = w.alloc (.cells #[.slice sa s.stories.length sc, .slice ta s.tpls.length tc] 27) := ⟨_, rfl⟩
  have hb1 : Below w.heap.size w W1 := by rw [hW1]; exact bel1 w _
  have HN0 : Hid (W1.heap[w.heap.size]? = some (.cells #[.slice sa s.stories.length sc, .slice ta s.tpls.length tc] 27 (0, 0))) := Lib.hid (by rw [hW1]; exact World.alloc_heap_new w _)
  have HB1 := Lib.hid hb1
  have HW1 := Lib.hid hW1
  have cS := Lib.hid (storyAt_any HST.out id W1 (hs.bel hb1))
  have HNO := Lib.hid (textS_none (s := s) (id := id) (lang := lang))
  have HYE := Lib.hid (fun e => textS_some (s := s) (id := id) (lang := lang) (e := e))
  clear h1 h2 hs hb1 hW1 hx htx
  go_enter Tryz.func23, Tryz.ntmps23
  go_upto_region 1 with fail
  rw [← HW1.out]
  go_wp2_with ((with_reducible refine at_sload 27 _ rfl ?_); go_must (refine wpList_sload rfl S_state _ rfl (by simp [Act.eval]) #[.slice sa s.stories.length sc, .slice ta s.tpls.length tc] rfl HN0.out ?_))
  refine cS.out.mono ?_
  rintro e W2 ⟨u, rfl, hu, hb2⟩
  generalize styOf s id = X at *
  have HU := Lib.hid hu
  obtain ⟨hok, t0, e0, c0, rfl, hP⟩ := hu
  have HCR := Lib.hid hP.2.2
  obtain ⟨t1, t2, e1, e2, c1, c2, rfl, rfl, rfl⟩ := hP.shape
  have HB2 := Lib.hid hb2
  clear hok hP hb2 cS
  generalize hn1 : X.topics.length = n1 at *
  generalize hn2 : X.eds.length = n2 at *
  generalize hn3 : X.corr.length = n3 at *
  go_upto_region 2 with ((with_reducible refine at_sstore 34 _ _ rfl ?_); go_must (refine wpList_snew rfl S_sty _ _ rfl rfl _ _ (styCells X (.slice t1 n1 t2) (.slice e1 n2 e2) (.slice c1 n3 c2)) (by simp [Act.eval]) (by simp [Act.eval]) rfl rfl (by simp [Value.oneCell']) ?_))
  obtain ⟨W3, hW3⟩ : ∃ W3, W3 = W2.alloc (.cells (styCells X (.slice t1 n1 t2) (.slice e1 n2 e2) (.slice c1 n3 c2)) 34) := ⟨_, rfl⟩
  rw [← hW3]
  have hb3 : Below W2.heap.size W2 W3 := by rw [hW3]; exact bel1 _ _
  have HN3 : Hid (W3.heap[W2.heap.size]? = some (.cells (styCells X (.slice t1 n1 t2) (.slice e1 n2 e2) (.slice c1 n3 c2)) 34 (0, 0))) := Lib.hid (by rw [hW3]; exact World.alloc_heap_new _ _)
  have HB3 : Hid (Below W1.heap.size W1 W3) := Lib.hid (HB2.out.trans (hb3.mono HB2.out.size))
  have cE := Lib.hid (editionAt_any HU.out lang W3 (HS.out.bel (HB1.out.trans (HB3.out.mono HB1.out.size))))
  clear hW3 hb3
  go_wp2_with ((with_reducible refine at_sload 34 _ rfl ?_); go_must (refine wpList_sload rfl S_sty _ rfl (by simp [Act.eval]) (styCells X (.slice t1 n1 t2) (.slice e1 n2 e2) (.slice c1 n3 c2)) rfl HN3.out ?_))
  refine cE.out.mono ?_
  rintro e W4 ⟨u, rfl, hu, hb4⟩
  have HTI : Hid (∀ E, findE X.eds lang = some E → TxE E ∧ ∀ y ∈ E.blocks, y.text.size ≤ 1000000000) := Lib.hid (fun E hE => ⟨HX.out.eds E (List.mem_of_find?_eq_some hE), HTE.out E (List.mem_of_find?_eq_some hE)⟩)
  generalize findE X.eds lang = fe at *
  obtain ⟨hok, b0, rfl, hP⟩ := hu
  obtain ⟨b1, b2, rfl⟩ := hP.slice
  have HBM := Lib.hid hP
  have HB4 : Hid (Below W1.heap.size W1 W4) := Lib.hid (HB3.out.trans (hb4.mono HB3.out.size))
  have HN4 := Lib.hid ((hb4.block _ (hlt HN3.out)).trans HN3.out)
  clear hok hP hb4 cE
  generalize hE : fe.getD edn0 = E at *
  generalize hnb : E.blocks.length = nb at *
  go_upto_region 3 with ((with_reducible refine at_sstore 39 _ _ rfl ?_); go_must (refine wpList_snew rfl S_edn _ _ rfl rfl _ _ (ednCells E (.slice b1 nb b2)) (by simp [Act.eval]) (by simp [Act.eval]) rfl rfl (by simp [Value.oneCell']) ?_))
  obtain ⟨W5, hW5⟩ : ∃ W5, W5 = W4.alloc (.cells (ednCells E (.slice b1 nb b2)) 39) := ⟨_, rfl⟩
  rw [← hW5]
  have hb5 : Below W4.heap.size W4 W5 := by rw [hW5]; exact bel1 _ _
  have hn5 : W5.heap[W4.heap.size]? = some (.cells (ednCells E (.slice b1 nb b2)) 39 (0, 0)) := by rw [hW5]; exact World.alloc_heap_new _ _
  have HB5 : Hid (Below W1.heap.size W1 W5) := Lib.hid (HB4.out.trans (hb5.mono HB4.out.size))
  have HN5 := Lib.hid hn5
  have HM5 := Lib.hid ((hb5.block _ (hlt HN4.out)).trans HN4.out)
  clear hW5 hb5 hn5
  cases hfe : fe with
  | none =>
    have HF := Lib.hid (HNO.out hfe)
    rw [show (none : Option EdnF).isSome = false from rfl]
    go_wp2_with fail
    refine bodyPost_ret (results_tmp2 (u := 6) (v := 7) (by kernel_rfl) _ _) rfl ?_
    unfold TextPost
    rw [HF.out]
    exact ⟨rfl, HB1.out.trans (HB5.out.mono HB1.out.size)⟩
  | some E0 =>
    have hE0 : E0 = E := by rw [← hE, hfe]; rfl
    subst hE0
    have HF := Lib.hid (HYE.out E0 hfe)
    obtain ⟨⟨hti, hbl⟩, htb⟩ := HTI.out E0 hfe
    have HTB := Lib.hid htb
    clear hE hfe htb
    rw [show (some E0 : Option EdnF).isSome = true from rfl]
    go_upto_region 6 with fail
    obtain ⟨W6, hW6⟩ : ∃ W6, W6 = W5.alloc (.cells #[.pointer none, .slice none 0 0] 82) := ⟨_, rfl⟩
    rw [← hW6]
    have hb6 : Below W5.heap.size W5 W6 := by rw [hW6]; exact bel1 _ _
    have HL6 : Hid (Blf W6 W5.heap.size []) := Lib.hid (by rw [hW6]; exact (Bld.new W5).f)
    have HB6 : Hid (Below W1.heap.size W1 W6) := Lib.hid (HB5.out.trans (hb6.mono HB5.out.size))
    have HN6 := Lib.hid ((hb6.block _ (hlt HN5.out)).trans HN5.out)
    have HM6 := Lib.hid ((hb6.block _ (hlt HM5.out)).trans HM5.out)
    have q2 : W6.cell? ⟨W4.heap.size, 2, none⟩ = some (.string E0.title) := rowcell HN6.out
    have hen : ∀ args w, (callFunc 40 args).run Tryz.prog w = .ok (.enter 40 args) w := enters_of Tryz.func40 (by kernel_rfl) rfl
    have HZ5 : Hid (W4.heap.size < W5.heap.size ∧ W2.heap.size < W4.heap.size) := Lib.hid ⟨hlt HN5.out, hlt HN4.out⟩
    have HB56 : Hid (Below W5.heap.size W5 W6) := Lib.hid hb6
    clear hW6 hb6
    have cL := Lib.hid (line_any (HL6.out.bel (bel1 W6 (.cells #[.string E0.title] 9))) [E0.title] W6.heap.size 1 #[.string E0.title] (World.alloc_heap_new _ _) (fun j hj => by
      obtain rfl : j = 0 := by simp at hj; omega
      rfl) (by have := HL6.out.2; omega) (by simp) (by show 0 + (E0.title.data.toList ++ []).length + 1 ≤ _; simp; omega))
    go_wp2_with ((with_reducible refine at_sslice 30 _ _ rfl ?_); go_must (refine wpList_one_slice rfl E_str _ rfl (.string E0.title) rfl (by simp [Act.eval]) ?_))
    refine cL.out.mono ?_
    rintro e W7 ⟨rfl, hl7, hb7, hk7⟩
    have hb57 : Below W5.heap.size W5 W7 := by
      have h1 := HB56.out
      exact (h1.trans ((bel1 W6 _).mono h1.size)).trans hb7
    have HL7 : Hid (Blf W7 W5.heap.size (E0.title.data.toList ++ [10])) := Lib.hid (by
      have e : [] ++ catF [E0.title] ++ [10] = E0.title.data.toList ++ [10] := by simp [catF]
      rw [e] at hl7; exact hl7)
    have HB57 := Lib.hid hb57
    have HN7 := Lib.hid ((hb57.block _ (hlt HN5.out)).trans HN5.out)
    have HM7 := Lib.hid ((hb57.block _ (hlt HM5.out)).trans HM5.out)
    have q6 : W7.cell? ⟨W2.heap.size, 6, none⟩ = some (.bool X.retr) := rowcell HM7.out
    clear hb57 hl7 hb7 hk7 cL q2
    cases hr : X.retr with
    | true =>
      rw [hr] at q6
      have HTX : Hid (textE s X E0 lang = E0.title.data.toList ++ [10] ++ (tWas ++ [10])) := Lib.hid (by unfold textE; rw [hr]; rfl)
      clear hr
      have cL := Lib.hid (line_any (HL7.out.bel (bel1 W7 (.cells #[.string (bs tWas)] 9))) [bs tWas] W7.heap.size 1 #[.string (bs tWas)] (World.alloc_heap_new _ _) (fun j hj => by
        obtain rfl : j = 0 := by simp at hj; omega
        rfl) (by have := HL7.out.2; omega) (by simp) (by
        show (E0.title.data.toList ++ [10]).length + 25 + 1 ≤ _
        simp; omega))
      go_wp2_with ((with_reducible refine at_sslice 30 _ _ rfl ?_); go_must (refine wpList_one_slice rfl E_str _ rfl (.string (bs tWas)) rfl (by simp [Act.eval]; rfl) ?_))
      refine cL.out.mono ?_
      rintro e W8 ⟨rfl, hl8, hb8, _⟩
      have HB58 : Hid (Below W5.heap.size W5 W8) := Lib.hid ((HB57.out.trans ((bel1 W7 _).mono HB57.out.size)).trans hb8)
      have cT := Lib.hid (blf_string hl8)
      clear hl8 hb8 cL q6
      go_wp2_with fail
      refine cT.out.mono ?_
      rintro e W9 ⟨rfl, hb9⟩
      have HB9 : Hid (Below W5.heap.size W5 W9) := Lib.hid (HB58.out.trans hb9)
      have HEQ : Hid (bs (E0.title.data.toList ++ [10] ++ catF [bs tWas] ++ [10]) = bs (textE s X E0 lang)) := Lib.hid (by
        rw [HTX.out, ← List.append_assoc]
        congr 3)
      clear hb9 cT
      rw [HEQ.out]
      go_wp2_with fail
      refine bodyPost_ret (results_tmp2 (u := 6) (v := 7) (by kernel_rfl) _ _) rfl ?_
      unfold TextPost
      rw [HF.out]
      exact ⟨rfl, HB1.out.trans ((HB5.out.trans (HB9.out.mono HB5.out.size)).mono HB1.out.size)⟩
    | false =>
      rw [hr] at q6
      have HTX : Hid (textE s X E0 lang = E0.title.data.toList ++ [10] ++ (plainB (E0.blocks.map (shownB s lang)) ++ corrLines lang X.corr)) := Lib.hid (by unfold textE; rw [hr]; rfl)
      clear hr
      have hbm := HBM.out
      rw [← hnb] at hbm
      have hs7 : Sees mem W7 := HS.out.bel (HB1.out.trans ((HB5.out.trans (HB57.out.mono HB5.out.size)).mono HB1.out.size))
      obtain ⟨cs, r1, r2, r3, r4⟩ := reads_blks hbm hs7
      obtain rfl : nb = cs.length := by rw [r1, hnb]
      have HR3 := Lib.hid r3
      have HR4 := Lib.hid r4
      have HOKB := Lib.hid (blksOk hbm)
      have q3 : W7.cell? ⟨W4.heap.size, 3, none⟩ = some (.slice b1 cs.length b2) := rowcell HN7.out
      have hcl : cs.length ≤ 100 := by omega
      have hcl2 : cs.length ≤ 9223372036854775807 := by omega
      have HR1 := Lib.hid r1
      have HR2 := Lib.hid r2
      clear hbm hs7 r2 r3 r4
      clear r1
      go_upto_region 12 with ((with_reducible refine at_sappend _ _ _ rfl ?_); go_must (refine wpList_app_row rfl E_blk _ _ rfl (by simp [Act.eval]) (GRow.nil W7 W7.heap.size _ _) b1 b2 cs HR3.out (by simp [Act.eval]) HR4.out (by show 0 + _ ≤ 100000; omega) (Nat.le_refl _) ?_); intro v8 w8 hr8 hg8 hob8; rw [List.nil_append] at hr8; obtain ⟨va, vc, rfl⟩ := hr8.shape)
      have hb8 : Below W7.heap.size W7 w8 := (Below.refl _ W7).grown hg8 (Nat.le_refl _) (fun k e => by cases e)
      have HSH : Hid (ShowI mem s lang E0.blocks w8 W7.heap.size 0 (.slice va cs.length vc)) := Lib.hid ⟨cs, hr8, HR1.out, fun j hj hj2 => by rw [if_neg (by omega)]; exact HR2.out j hj hj2⟩
      have HL8 := Lib.hid (HL7.out.bel hb8)
      have HB8 : Hid (Below W5.heap.size W5 w8) := Lib.hid (HB57.out.trans (hb8.mono HB57.out.size))
      have hw57 : W5.heap.size < W7.heap.size := HL7.out.2
      clear hb8 hr8 hg8 hob8 q3 q6
      go_wp2_with fail
      go_loopw [50] (fun i wr => ∃ k : Nat, k ≤ cs.length ∧ i = .int .i64 k ∧ Hid (ShowI mem s lang E0.blocks wr W7.heap.size k (.slice va cs.length vc)) ∧ Hid (Blf wr W5.heap.size (E0.title.data.toList ++ [10])) ∧ Hid (Below W5.heap.size W5 wr)) (fun i _ => cs.length - (intOf i).toNat)
      case atStart => exact ⟨0, Nat.zero_le _, rfl, HSH, HL8, HB8⟩
      case round =>
        obtain ⟨k, hk, rfl, HI, HL, HB⟩ := hrel
        have HBW : Hid (Below w.heap.size w wr) := Lib.hid (HB1.out.trans ((HB5.out.trans (HB.out.mono HB5.out.size)).mono HB1.out.size))
        have hwr : W5.heap.size < wr.heap.size := HL.out.2
        by_cases hlt : k < cs.length
        · obtain ⟨ds, d1, d2, d3⟩ := HI.out
          have hke : k < E0.blocks.length := by have := HR1.out; omega
          have hkd : k < ds.length := by rw [d2]; exact hke
          have hck := d3 k hke hkd
          rw [if_neg (by omega)] at hck
          have HCK := Lib.hid hck
          obtain ⟨a, c, hce, hci⟩ := hck
          obtain ⟨g, gc, hgv, hgB, hgl, hg1, hg2, hgc, hgf⟩ := d1.at_ k hkd
          injection hgv with hgv1 hgv2 hgv3
          subst hgv1 hgv3
          clear hgv2
          have HD := Lib.hid (And.intro d1 (And.intro d2 d3))
          rw [hce] at hgc
          have HC9 := Lib.hid hgc
          have HGF := Lib.hid hgf
          have htx := HTB.out _ (List.getElem_mem hke)
          have hok := HOKB.out _ (List.getElem_mem hke)
          have HBV : Hid (BlkV mem (.agg (blkCells E0.blocks[k] (.slice a E0.blocks[k].lab.after.length c))) E0.blocks[k]) := Lib.hid ⟨a, c, rfl, hci, hok⟩
          have HCI := Lib.hid hci
          have hrl := resS_len HTXS.out lang htx
          have HSB : Hid (shownB s lang E0.blocks[k] = if E0.blocks[k].kind = 3 then { E0.blocks[k] with text := bs (resS s lang E0.blocks[k]) } else if E0.blocks[k].kind = 5 then { blk0 with kind := 2, text := bs (E0.blocks[k].text.data.toList ++ [58, 32] ++ resS s lang E0.blocks[k]) } else E0.blocks[k]) := Lib.hid rfl
          obtain ⟨gcells, hgblk⟩ := d1.blk g rfl
          have HGB := Lib.hid hgblk
          have HSK : Hid (shownB s lang E0.blocks[k] = E0.blocks[k] → ShowI mem s lang E0.blocks wr W7.heap.size (k + 1) (.slice (some ⟨g, 0, none⟩) cs.length vc)) := Lib.hid (fun e => HI.out.skip hke e)
          have HNX : Hid (∀ (w' : World) (c' : Array Value), CellsOf mem (shownB s lang E0.blocks[k]) c' → GRow w' W7.heap.size 58 9 (.slice (some ⟨g, 0, none⟩) cs.length vc) (ds.set k c') → ShowI mem s lang E0.blocks w' W7.heap.size (k + 1) (.slice (some ⟨g, 0, none⟩) cs.length vc)) := Lib.hid (fun w' c' hc hr => ShowI.next hke d2 d3 hc hr)
          clear d1 d2 d3 hci hgc hgf hgblk
          generalize hx : E0.blocks[k] = x at *
          generalize hxl : x.lab.after.length = xl at *
          go_upto_region 15 with (first
            | ((with_reducible refine at_sload 58 _ rfl ?_); go_must (refine wpList_smid rfl S_blk _ rfl (by simp [Act.eval]) (blkCells x (.slice a xl c)) rfl HC9.out ?_))
            | ((with_reducible refine at_sstore 58 _ _ rfl ?_); go_must (refine wpList_snew rfl S_blk _ _ rfl rfl _ _ (blkCells x (.slice a xl c)) (by simp [Act.eval]) (by simp [Act.eval]) rfl rfl (by simp [Value.oneCell']) ?_)))
          obtain ⟨W9, hW9⟩ : ∃ W9, W9 = wr.alloc (.cells (blkCells x (.slice a xl c)) 58) := ⟨_, rfl⟩
          rw [← hW9]
          have hb9 : Below wr.heap.size wr W9 := by rw [hW9]; exact bel1 _ _
          have HN9 : Hid (W9.heap[wr.heap.size]? = some (.cells (blkCells x (.slice a xl c)) 58 (0, 0))) := Lib.hid (by rw [hW9]; exact World.alloc_heap_new _ _)
          have q1 : W9.cell? ⟨wr.heap.size, 1, none⟩ = some (.int .i64 x.kind) := rowcell HN9.out
          have HB9 := Lib.hid hb9
          have HBW9 : Hid (Below w.heap.size w W9) := Lib.hid (HBW.out.trans (hb9.mono HBW.out.size))
          have HST9 : Hid (W9.heap[w.heap.size]? = some (.cells #[.slice sa s.stories.length sc, .slice ta s.tpls.length tc] 27 (0, 0))) := Lib.hid (by
            have hw1 := hlt_ HN0.out
            exact (hb9.block _ (by have := HB1.out.size; have := HB5.out.size; omega)).trans ((HB.out.block _ (by have := HB5.out.size; omega)).trans ((HB5.out.block _ hw1).trans HN0.out)))
          clear hW9 hb9
          have cR := Lib.hid (fun W (hW : Below w.heap.size w W) => Resolve_any HST.out hn lang HBV.out W (HS.out.bel hW))
          by_cases hk3 : x.kind = 3
          · have HSB3 : Hid (shownB s lang x = { x with text := bs (resS s lang x) }) := Lib.hid (HSB.out.trans (if_pos hk3))
            rw [hk3] at q1
            clear hk3
            go_wp2_with (first
              | ((with_reducible refine at_sload 27 _ rfl ?_); go_must (refine wpList_sload rfl S_state _ rfl (by simp [Act.eval]) #[.slice sa s.stories.length sc, .slice ta s.tpls.length tc] rfl HST9.out ?_))
              | ((with_reducible refine at_sload 58 _ rfl ?_); go_must (refine wpList_sload rfl S_blk _ rfl (by simp [Act.eval]) (blkCells x (.slice a xl c)) rfl HN9.out ?_)))
            refine (cR.out W9 HBW9.out).mono ?_
            rintro e W10 ⟨rfl, hb10⟩
            have HB10 : Hid (Below wr.heap.size wr W10) := Lib.hid (HB9.out.trans (hb10.mono HB9.out.size))
            have p2 : W10.cell? ⟨g, k * 9 + 2, none⟩ = some (.string x.text) := (HB10.out.cell (p := ⟨g, k * 9 + 2, none⟩) hgl).trans (HC9.out 2 (by omega))
            have z2 : W10.frozen? ⟨g, k * 9 + 2, none⟩ = false := (HB10.out.frozen (p := ⟨g, k * 9 + 2, none⟩) hgl).trans (HGF.out _)
            clear hb10 q1
            go_wp2_with fail
            have HI2 : Hid (ShowI mem s lang E0.blocks (W10.setCell ⟨g, k * 9 + 2, none⟩ (.string (bs (resS s lang x)))) W7.heap.size (k + 1) (.slice (some ⟨g, 0, none⟩) cs.length vc)) := Lib.hid (by
              have h1 := (HD.out.1.bel HB10.out).set_ k 2 hkd (by omega) (u := .string (bs (resS s lang x))) rfl
              rw [hce] at h1
              refine HNX.out _ _ ?_ h1
              rw [HSB3.out]
              exact ⟨a, c, by dsimp only; rw [hxl]; rfl, by dsimp only; rw [hxl]; exact HCI.out⟩)
            have hu2 := upd_cell W10 g (k * 9 + 2) (.string (bs (resS s lang x)))
            have HL2 := Lib.hid ((HL.out.bel HB10.out).upd hu2 ((HB10.out.block g hgl).trans HGB.out))
            have HB2 : Hid (Below W5.heap.size W5 (W10.setCell ⟨g, k * 9 + 2, none⟩ (.string (bs (resS s lang x))))) := Lib.hid ((HB.out.trans (HB10.out.mono HB.out.size)).setCell (by show W5.heap.size ≤ g; omega) _)
            clear hu2
            go_roundw
            case rel => exact ⟨k + 1, by omega, by go_num, HI2, HL2, HB2⟩
            case measure => simp [intOf]; omega
          · by_cases hk5 : x.kind = 5
            · have hk3' : (x.kind == 3) = false := by simpa using hk3
              have HSB5 : Hid (shownB s lang x = { blk0 with kind := 2, text := bs (x.text.data.toList ++ [58, 32] ++ resS s lang x) }) := Lib.hid (HSB.out.trans ((if_neg hk3).trans (if_pos hk5)))
              rw [hk5] at q1 hk3'
              clear hk3 hk5
              have h2s : ByteArray.size ⟨#[58, 32]⟩ = 2 := rfl
              have hrs : (bs (resS s lang x)).size ≤ 1000000012 := by rw [bs_size]; exact hrl
              have HSS : Hid (W9.drew.cell? ⟨wr.heap.size, 2, none⟩ = some (.string x.text) ∧ W9.drew.heap[w.heap.size]? = some (.cells #[.slice sa s.stories.length sc, .slice ta s.tpls.length tc] 27 (0, 0)) ∧ W9.drew.heap[wr.heap.size]? = some (.cells (blkCells x (.slice a xl c)) 58 (0, 0))) := Lib.hid ⟨rowcell HN9.out, HST9.out, HN9.out⟩
              go_upto_region 19 with fail
              refine wp_mix [mT, mT, mT, mT, mT, mT, mT, mT, mF, mT, mT, mF, mL] 12 (fun W' => W'.cell? ⟨wr.heap.size, 2, none⟩ = some (.string x.text) ∧ W'.heap[w.heap.size]? = some (.cells #[.slice sa s.stories.length sc, .slice ta s.tpls.length tc] 27 (0, 0)) ∧ W'.heap[wr.heap.size]? = some (.cells (blkCells x (.slice a xl c)) 58 (0, 0))) (by kernel_rfl) (by kernel_rfl) HSS.out ?_
              refine wpMix_take (.slice (some ⟨g, 0, none⟩) cs.length vc) (fun _ _ _ _ h => h) HSS.out (by rfl) (fun W2 hW => by go_simp) ?_
              simp only [Act.put, List.setIfInBounds_toArray, List.set_cons_zero, List.set_cons_succ]
              refine wpMix_take (.int .i64 k) (fun _ _ _ _ h => h) HSS.out (by rfl) (fun W2 hW => by go_simp) ?_
              simp only [Act.put, List.setIfInBounds_toArray, List.set_cons_zero, List.set_cons_succ]
              refine wpMix_take (.pointer (some ⟨wr.heap.size, 2, none⟩)) (fun _ _ _ _ h => h) HSS.out (by rfl) (fun W2 hW => by go_simp) ?_
              simp only [Act.put, List.setIfInBounds_toArray, List.set_cons_zero, List.set_cons_succ]
              refine wpMix_take (.string x.text) (fun _ _ _ _ h => h) HSS.out (by rfl) (fun W2 hW => by have q0 := hW.1; go_simp) ?_
              simp only [Act.put, List.setIfInBounds_toArray, List.set_cons_zero, List.set_cons_succ]
              refine wpMix_take (.string (x.text ++ ⟨#[58, 32]⟩)) (fun _ _ _ _ h => h) HSS.out (by rfl) (fun W2 hW => by go_simp; omega) ?_
              simp only [Act.put, List.setIfInBounds_toArray, List.set_cons_zero, List.set_cons_succ]
              refine wpMix_take (.agg #[.slice sa s.stories.length sc, .slice ta s.tpls.length tc]) (fun _ _ _ _ h => h) HSS.out (by rfl) (fun W2 hW => by exact exec_smid S_state _ rfl (by simp [Act.eval]) _ rfl (whole_cells hW.2.1)) ?_
              simp only [Act.put, List.setIfInBounds_toArray, List.set_cons_zero, List.set_cons_succ]
              refine wpMix_take (.string lang) (fun _ _ _ _ h => h) HSS.out (by rfl) (fun W2 hW => by go_simp) ?_
              simp only [Act.put, List.setIfInBounds_toArray, List.set_cons_zero, List.set_cons_succ]
              refine wpMix_take (.agg (blkCells x (.slice a xl c))) (fun _ _ _ _ h => h) HSS.out (by rfl) (fun W2 hW => by exact exec_smid S_blk _ rfl (by simp [Act.eval]) _ rfl (whole_cells hW.2.2)) ?_
              simp only [Act.put, List.setIfInBounds_toArray, List.set_cons_zero, List.set_cons_succ]
              refine wpMix_step (fun K hK => ?_)
              go_simp
              refine (cR.out W9.drew HBW9.out.drew).mono ?_
              rintro e' W10 ⟨rfl, hb10⟩
              dsimp only
              have HB10 : Hid (Below wr.heap.size wr W10) := Lib.hid (HB9.out.drew.trans (hb10.mono HB9.out.size))
              have HSS2 : Hid (W10.cell? ⟨wr.heap.size, 2, none⟩ = some (.string x.text) ∧ W10.heap[w.heap.size]? = some (.cells #[.slice sa s.stories.length sc, .slice ta s.tpls.length tc] 27 (0, 0)) ∧ W10.heap[wr.heap.size]? = some (.cells (blkCells x (.slice a xl c)) 58 (0, 0))) := Lib.hid ⟨sees_bel hb10 _ _ HSS.out.1, (hb10.block _ (hlt_ HST9.out)).trans HST9.out, (hb10.block _ (hlt_ HN9.out)).trans HN9.out⟩
              clear hb10
              refine hK _ _ HSS2.out ?_
              clear hK K
              refine wpMix_take (.string (x.text ++ ⟨#[58, 32]⟩ ++ bs (resS s lang x))) (fun _ _ _ _ h => h) HSS2.out (by rfl) (fun W2 hW => by go_simp; omega) ?_
              simp only [Act.put, List.setIfInBounds_toArray, List.set_cons_zero, List.set_cons_succ]
              have hcat : x.text ++ ⟨#[58, 32]⟩ ++ bs (resS s lang x) = bs (x.text.data.toList ++ [58, 32] ++ resS s lang x) := str_ext (by simp)
              rw [hcat]
              clear hcat
              generalize bs (x.text.data.toList ++ [58, 32] ++ resS s lang x) = tt at *
              refine wpMix_take (.agg (cntCells tt)) (fun _ _ _ _ h => h) HSS2.out (by rfl) (fun W2 hW => exec_sbuild2 _ _ rfl _ (by simp [Act.eval]; with_reducible exact built_cnt _)) ?_
              simp only [Act.put, List.setIfInBounds_toArray, List.set_cons_zero, List.set_cons_succ]
              refine wpMix_step (fun K hK => ?_); go_simp; refine hK _ _ HSS2.out ?_; clear hK K
              refine wpMix_last (fun K hK => ?_)
              rw [if_pos (by rfl)]
              have hthere : ∀ W, Below W10.heap.size W10 W → W.there g (k * 9) 9 := fun W hW j hj => by
                have h1 := HC9.out j hj
                have hg10 : g < W10.heap.size := Nat.lt_of_lt_of_le hgl HB10.out.size
                refine ⟨?_, ((hW.frozen (p := ⟨g, k * 9 + j, none⟩) hg10).trans (HB10.out.frozen (p := ⟨g, k * 9 + j, none⟩) hgl)).trans (HGF.out _)⟩
                rw [((hW.cell (p := ⟨g, k * 9 + j, none⟩) hg10).trans (HB10.out.cell (p := ⟨g, k * 9 + j, none⟩) hgl)).trans h1, Array.getElem?_eq_getElem (by simpa using hj)]; rfl
              refine wp_store_mid 58 _ _ rfl g (k * 9) (cntCells tt) (by simp [Act.eval]) (by simp [Act.eval]) (hthere _ (Below.refl _ _)) S_blk.size (by simp [Value.oneCell']) ?_
              refine hK _ _ ?_
              clear hK K hthere
              refine wpMix_nil ?_
              have hu2 := upd_setCells g (cntCells tt).toList (k * 9) W10
              have HI2 : Hid (ShowI mem s lang E0.blocks (W10.setCells g (k * 9) (cntCells tt).toList) W7.heap.size (k + 1) (.slice (some ⟨g, 0, none⟩) cs.length vc)) := Lib.hid (by
                have h1 := GRow.setCells (cntCells tt).toList 0 W10 _ (HD.out.1.bel HB10.out) hkd (cnt_len tt) (cnt_one tt)
                rw [Nat.add_zero] at h1
                refine HNX.out _ _ ?_ h1
                rw [HSB5.out]
                exact cnt_cells tt HCK.out)
              have HL2 := Lib.hid ((HL.out.bel HB10.out).upd hu2 ((HB10.out.block g hgl).trans HGB.out))
              have HB2 : Hid (Below W5.heap.size W5 (W10.setCells g (k * 9) (cntCells tt).toList)) := Lib.hid ((HB.out.trans (HB10.out.mono HB.out.size)).trans (hu2.below (fun j e => by omega) (by have := HB.out.size; have := HB10.out.size; omega)))
              clear hu2
              go_wp2_with fail
              go_roundw
              case rel => exact ⟨k + 1, by omega, by go_num, HI2, HL2, HB2⟩
              case measure => simp [intOf]; omega
            · have hk3' : (x.kind == 3) = false := by simpa using hk3
              have hk5' : (x.kind == 5) = false := by simpa using hk5
              have HI2 := Lib.hid ((HSK.out (HSB.out.trans ((if_neg hk3).trans (if_neg hk5)))).bel HB9.out)
              have HL2 := Lib.hid (HL.out.bel HB9.out)
              have HB2 : Hid (Below W5.heap.size W5 W9) := Lib.hid (HB.out.trans (HB9.out.mono HB.out.size))
              clear hk3 hk5
              go_wp2_with fail
              go_roundw
              case rel => exact ⟨k + 1, by omega, by go_num, HI2, HL2, HB2⟩
              case measure => simp [intOf]; omega
        · have e' : k = cs.length := by omega
          subst e'
          obtain ⟨wo, rfl⟩ : ∃ wo, wo = wr := ⟨_, rfl⟩
          have hi := HI.out
          have hcE : cs.length = E0.blocks.length := HR1.out
          have hbm := ShowI.done (v := .slice va cs.length vc) (w := wo) (by rw [← hcE]; exact hi) (HS.out.bel HBW.out) (fun x hx => (HOKB.out x hx).2) (fun x hx => by
            have := shownB_len HTXS.out lang (HTB.out x hx)
            unfold maxLen; omega)
          have hlen : (E0.blocks.map (shownB s lang)).length ≤ 100 := by rw [List.length_map, ← hcE]; exact hcl
          have htt : ∀ y ∈ E0.blocks.map (shownB s lang), y.text.size ≤ 10000000000 := fun y hy => by
            obtain ⟨x, hx, rfl⟩ := List.mem_map.1 hy
            have := shownB_len HTXS.out lang (HTB.out x hx)
            omega
          have cP := Lib.hid (plain_any hbm (by omega) htt wo (Sees.self wo))
          have hpl : (plainB (E0.blocks.map (shownB s lang))).length ≤ 100 * 10000000003 := Nat.le_trans (plainB_len htt) (Nat.mul_le_mul_right _ hlen)
          generalize plainB (E0.blocks.map (shownB s lang)) = PL at *
          clear hi hcE hbm hlen htt
          go_wp2_with fail
          refine cP.out.mono ?_
          rintro e W11 ⟨rfl, hb11⟩
          have hl11 := HL.out.bel hb11
          have HB11 : Hid (Below W5.heap.size W5 W11) := Lib.hid (HB.out.trans (hb11.mono HB.out.size))
          have htl : (E0.title.data.toList ++ [10]).length ≤ 1000000000001 := by simp; omega
          have cW := Lib.hid (writeF_str hl11 (bs PL) (by rw [bs_size]; omega))
          clear hb11 hl11 cP
          go_wp2_with fail
          refine cW.out.mono ?_
          rintro e W12 ⟨rfl, hl12, hb12, _⟩
          rw [bs_list] at hl12
          have HB12 : Hid (Below W5.heap.size W5 W12) := Lib.hid (HB11.out.trans hb12)
          have HL12 : Hid (Blf W12 W5.heap.size (E0.title.data.toList ++ [10] ++ PL ++ corrLines lang (X.corr.take 0))) := Lib.hid (by rw [List.take_zero]; show Blf _ _ (_ ++ []); rw [List.append_nil]; exact hl12)
          have k5 : W12.cell? ⟨W2.heap.size, 5, none⟩ = some (.slice c1 n3 c2) := rowcell ((HB12.out.block _ (hlt_ HM5.out)).trans HM5.out)
          have hn3l : n3 ≤ 50000 := by rw [← hn3]; exact HX.out.ncor
          have hpre : (E0.title.data.toList ++ [10] ++ PL).length ≤ 1000000000001 + 1000000000300 := by rw [List.length_append]; omega
          obtain ⟨ca, ccap, cb, co, hcv, _, _, hca, hcat⟩ := SlM.open_ HCR.out
          rw [hn3] at hcv hca
          injection hcv with hcv1 _ hcv3
          subst hcv1 hcv3
          have HCA := Lib.hid hca
          have HCT := Lib.hid hcat
          clear hl12 hb12 cW hca hcat
          generalize hT0 : E0.title.data.toList ++ [10] ++ PL = T0 at *
          go_wp2_with fail
          clear k5
          go_loopw [88] (fun i wr => ∃ k : Nat, k ≤ n3 ∧ i = .int .i64 k ∧ Hid (Blf wr W5.heap.size (T0 ++ corrLines lang (X.corr.take k))) ∧ Hid (Below W5.heap.size W5 wr)) (fun i _ => n3 - (intOf i).toNat)
          case atStart => exact ⟨0, Nat.zero_le _, rfl, HL12, HB12⟩
          case round =>
            obtain ⟨k, hk, rfl, HL, HB⟩ := hrel
            by_cases hlt : k < n3
            · obtain rfl := HCA.out (by omega)
              have hkc : k < X.corr.length := by omega
              have hcells := HCT.out k hkc
              have HCL := Lib.hid (cells_see (sz := 5) (HS.out.bel (HB1.out.trans ((HB5.out.trans (HB.out.mono HB5.out.size)).mono HB1.out.size))) hcells.2 rfl)
              have hct := HX.out.cor _ (List.getElem_mem hkc)
              have HTK : Hid (corrLines lang (X.corr.take (k + 1)) = corrLines lang (X.corr.take k) ++ (if X.corr[k].lang = lang then tCorr ++ X.corr[k].text.data.toList ++ [10] else [])) := Lib.hid (by rw [List.take_succ_eq_append_getElem hkc, corrLines_snoc])
              have hcln : (corrLines lang (X.corr.take k)).length ≤ 50000 * 1013 := by
                refine Nat.le_trans (corrLines_len (fun c hc => HX.out.cor c (List.mem_of_mem_take hc))) (Nat.mul_le_mul_right _ ?_)
                rw [List.length_take]; omega
              clear hcells
              generalize X.corr[k] = c at *
              go_upto_region 25 with (first
                | ((with_reducible refine at_sload 69 _ rfl ?_); go_must (refine wpList_smid rfl S_corr _ rfl (by simp [Act.eval]) (corrCells c) rfl HCL.out ?_))
                | ((with_reducible refine at_sstore 69 _ _ rfl ?_); go_must (refine wpList_snew rfl S_corr _ _ rfl rfl _ _ (corrCells c) (by simp [Act.eval]) (by simp [Act.eval]) rfl rfl (by simp [Value.oneCell']) ?_)))
              obtain ⟨W13, hW13⟩ : ∃ W13, W13 = wr.alloc (.cells (corrCells c) 69) := ⟨_, rfl⟩
              rw [← hW13]
              have hb13 : Below wr.heap.size wr W13 := by rw [hW13]; exact bel1 _ _
              have hn13 : W13.heap[wr.heap.size]? = some (.cells (corrCells c) 69 (0, 0)) := by rw [hW13]; exact World.alloc_heap_new _ _
              have p0 : W13.cell? ⟨wr.heap.size, 0, none⟩ = some (.string c.lang) := rowcell hn13
              have p3 : W13.cell? ⟨wr.heap.size, 3, none⟩ = some (.string c.text) := rowcell hn13
              have HL13 := Lib.hid (HL.out.bel hb13)
              have HB13 : Hid (Below W5.heap.size W5 W13) := Lib.hid (HB.out.trans (hb13.mono HB.out.size))
              clear hW13 hb13 hn13
              by_cases hc : c.lang = lang
              · have HTK2 : Hid (corrLines lang (X.corr.take (k + 1)) = corrLines lang (X.corr.take k) ++ (tCorr ++ c.text.data.toList ++ [10])) := Lib.hid (HTK.out.trans (by rw [if_pos hc]))
                rw [hc] at p0
                clear hc HTK
                have cL := Lib.hid (line_any (HL13.out.bel (bel1 W13 (.cells #[.string (bs tCorr), .string c.text] 9))) [bs tCorr, c.text] W13.heap.size 2 #[.string (bs tCorr), .string c.text] (World.alloc_heap_new _ _) (fun j hj => by
                  have hj2 : j = 0 ∨ j = 1 := by simp at hj; omega
                  rcases hj2 with rfl | rfl <;> rfl) (by have := HL13.out.2; omega) (by simp) (by
                  have e : (catF [bs tCorr, c.text]).length = 12 + c.text.size := by
                    unfold catF
                    simp [tCorr]
                    omega
                  rw [e, List.length_append]; omega))
                go_wp2_with ((with_reducible refine at_sslice 30 _ _ rfl ?_); go_must (refine wpList_two_strs rfl _ rfl (bs tCorr) c.text (by simp [Act.eval]; rfl) ?_))
                refine cL.out.mono ?_
                rintro e W14 ⟨rfl, hl14, hb14, _⟩
                have HL14 : Hid (Blf W14 W5.heap.size (T0 ++ corrLines lang (X.corr.take (k + 1)))) := Lib.hid (by
                  have e : T0 ++ corrLines lang (X.corr.take k) ++ catF [bs tCorr, c.text] ++ [10] = T0 ++ corrLines lang (X.corr.take (k + 1)) := by
                    rw [HTK2.out]
                    unfold catF
                    simp
                  rw [e] at hl14; exact hl14)
                have HB14 : Hid (Below W5.heap.size W5 W14) := Lib.hid ((HB13.out.trans ((bel1 W13 _).mono HB13.out.size)).trans hb14)
                clear hl14 hb14 cL p0 p3
                go_wp2_with fail
                go_roundw
                case rel => exact ⟨k + 1, by omega, by go_num, HL14, HB14⟩
                case measure => simp [intOf]; omega
              · have HL14 : Hid (Blf W13 W5.heap.size (T0 ++ corrLines lang (X.corr.take (k + 1)))) := Lib.hid (by rw [HTK.out, if_neg hc, List.append_nil]; exact HL13.out)
                have hne : (c.lang.toList == lang.toList) = false := by
                  have : c.lang.toList ≠ lang.toList := fun e => hc (str_ext (by rw [← ByteArray.toList_eq, ← ByteArray.toList_eq]; exact e))
                  simpa using this
                clear hc HTK
                go_wp2_with fail
                go_roundw
                case rel => exact ⟨k + 1, by omega, by go_num, HL14, HB13⟩
                case measure => simp [intOf]; omega
            · have e' : k = n3 := by omega
              subst e'
              have hf := HL.out
              rw [← hn3, List.take_length] at hf
              have HEQ : Hid (T0 ++ corrLines lang X.corr = textE s X E0 lang) := Lib.hid (by rw [HTX.out, ← hT0, List.append_assoc])
              rw [HEQ.out] at hf
              have cT := Lib.hid (blf_string hf)
              clear hf
              go_wp2_with fail
              refine cT.out.mono ?_
              rintro e W15 ⟨rfl, hb15⟩
              have HB15 : Hid (Below W5.heap.size W5 W15) := Lib.hid (HB.out.trans hb15)
              clear hb15 cT
              go_wp2_with fail
              refine bodyPost_ret (results_tmp2 (u := 6) (v := 7) (by kernel_rfl) _ _) rfl ?_
              unfold TextPost
              rw [HF.out]
              exact ⟨rfl, HB1.out.trans ((HB5.out.trans (HB15.out.mono HB5.out.size)).mono HB1.out.size)⟩
end Go.Proofs.YtdkkhmjlamkgdaaGreatDoor
namespace Go.Proofs.YtdkkhmjlamkgdaaGreatDoor
open Go.RowKit Mg Go.Shelf Go.Maps

def GL (l : List Blk) : Prop := l.length ≤ 50000 ∧ ∀ x ∈ l, x.lab.after.length ≤ 50000
theorem GL.nil : GL [] := ⟨Nat.zero_le _, fun x h => by cases h⟩
theorem GD.gl {l : List Blk} (h : GD l) : GL l := ⟨by have := h.1; omega, fun x hx => by have := (h.2 x hx).2.2.2; omega⟩
def GSt (s : StF) : Prop := ∀ x ∈ s.stories, ∀ e ∈ x.eds, GL e.blocks
theorem GSt.of {s : StF} (h : GSt s) (id : Int) : ∀ e ∈ (styOf s id).eds, GL e.blocks := by
  unfold styOf
  cases hf : findS s id with
  | none => intro e he; cases he
  | some x => exact h x (List.mem_of_find?_eq_some hf)
theorem GSt.edn {s : StF} (h : GSt s) (id : Int) (lang : ByteArray) : GL ((findE (styOf s id).eds lang).getD edn0).blocks := by
  cases hf : findE (styOf s id).eds lang with
  | none => exact GL.nil
  | some x => exact h.of id x (List.mem_of_find?_eq_some hf)
def EditionPost (s : StF) (id : Int) (lang : ByteArray) (w : World) (e : Ending) (w' : World) : Prop :=
  ∃ bv, e = .returned (.tuple #[.agg (ednCells ((ednOf s id lang).getD edn0) bv), .bool (ednOf s id lang).isSome]) ∧ EdnOK ((ednOf s id lang).getD edn0) ∧ BRow w' w.heap.size bv ((ednOf s id lang).getD edn0).blocks ∧ Below w.heap.size w w'
set_option maxRecDepth 100000 in
set_option maxHeartbeats 4000000 in
theorem Edition_any {mem : Addr → Option Value} {v : Value} {s : StF} (h : StateM mem v s) (hg : GSt s) (id : Int) (lang : ByteArray) (w : World) (hs : Sees mem w) :
    Calls Tryz.prog 21 #[v, .int .i64 id, .string lang] w (EditionPost s id lang w) := by
  have HST := Lib.hid h
  obtain ⟨sv, tv, rfl, h1, h2⟩ := h
  obtain ⟨sa, sc, rfl⟩ := SlM.slice h1
  obtain ⟨ta, tc, rfl⟩ := SlM.slice h2
  have HS := Lib.hid hs
  have HG := Lib.hid hg
  obtain ⟨W1, hW1⟩ : ∃ W1, W1 = (w.alloc (.cells #[.slice sa s.stories.length sc, .slice ta s.tpls.length tc] 27)).alloc (.cells zEdn 39) := ⟨_, rfl⟩
  have hb1 : Below w.heap.size w W1 := by rw [hW1]; exact (bel1 w _).alloc (by simp) _
  have HN0 : Hid (W1.heap[w.heap.size]? = some (.cells #[.slice sa s.stories.length sc, .slice ta s.tpls.length tc] 27 (0, 0))) := Lib.hid (by rw [hW1]; exact heap_new1 w _ _)
  have HN1 : Hid (W1.heap[w.heap.size + 1]? = some (.cells zEdn 39 (0, 0))) := Lib.hid (by
    rw [hW1]
    have := World.alloc_heap_new (w.alloc (.cells #[.slice sa s.stories.length sc, .slice ta s.tpls.length tc] 27)) (.cells zEdn 39)
    simpa using this)
  have HB1 := Lib.hid hb1
  have HW1 := Lib.hid hW1
  have cS := Lib.hid (storyAt_any HST.out id W1 (hs.bel hb1))
  clear h1 h2 hs hg hb1 hW1
  go_enter Tryz.func21, Tryz.ntmps21
  go_upto_region 1 with fail
  rw [← HW1.out]
  go_wp2_with ((with_reducible refine at_sload 27 _ rfl ?_); go_must (refine wpList_sload rfl S_state _ rfl (by simp [Act.eval]) #[.slice sa s.stories.length sc, .slice ta s.tpls.length tc] rfl HN0.out ?_))
  refine cS.out.mono ?_
  rintro e W2 ⟨u, rfl, hu, hb2⟩
  have HU := Lib.hid hu
  obtain ⟨hok, t0, e0, c0, rfl, hP⟩ := hu
  obtain ⟨t1, t2, e1, e2, c1, c2, rfl, rfl, rfl⟩ := hP.shape
  have HB2 := Lib.hid hb2
  clear hok hP hb2 cS
  generalize hn1 : (styOf s id).topics.length = n1 at *
  generalize hn2 : (styOf s id).eds.length = n2 at *
  generalize hn3 : (styOf s id).corr.length = n3 at *
  go_upto_region 2 with ((with_reducible refine at_sstore 34 _ _ rfl ?_); go_must (refine wpList_snew rfl S_sty _ _ rfl rfl _ _ (styCells (styOf s id) (.slice t1 n1 t2) (.slice e1 n2 e2) (.slice c1 n3 c2)) (by simp [Act.eval]) (by simp [Act.eval]) rfl rfl (by simp [Value.oneCell']) ?_))
  obtain ⟨W3, hW3⟩ : ∃ W3, W3 = W2.alloc (.cells (styCells (styOf s id) (.slice t1 n1 t2) (.slice e1 n2 e2) (.slice c1 n3 c2)) 34) := ⟨_, rfl⟩
  rw [← hW3]
  have hb3 : Below W2.heap.size W2 W3 := by rw [hW3]; exact bel1 _ _
  have HN3 : Hid (W3.heap[W2.heap.size]? = some (.cells (styCells (styOf s id) (.slice t1 n1 t2) (.slice e1 n2 e2) (.slice c1 n3 c2)) 34 (0, 0))) := Lib.hid (by rw [hW3]; exact World.alloc_heap_new _ _)
  have HB3 : Hid (Below W1.heap.size W1 W3) := Lib.hid (HB2.out.trans (hb3.mono HB2.out.size))
  have cE := Lib.hid (editionAt_any HU.out lang W3 (HS.out.bel (HB1.out.trans (HB3.out.mono HB1.out.size))))
  clear hW3 hb3
  go_wp2_with ((with_reducible refine at_sload 34 _ rfl ?_); go_must (refine wpList_sload rfl S_sty _ rfl (by simp [Act.eval]) (styCells (styOf s id) (.slice t1 n1 t2) (.slice e1 n2 e2) (.slice c1 n3 c2)) rfl HN3.out ?_))
  refine cE.out.mono ?_
  rintro e W4 ⟨u, rfl, hu, hb4⟩
  have HGE := Lib.hid (HG.out.edn id lang)
  have HED : Hid (ednOf s id lang = findE (styOf s id).eds lang) := Lib.hid rfl
  generalize findE (styOf s id).eds lang = fe at *
  obtain ⟨hok, b0, rfl, hP⟩ := hu
  obtain ⟨b1, b2, rfl⟩ := hP.slice
  have HOK := Lib.hid hok
  have HBM := Lib.hid hP
  have HB4 : Hid (Below W1.heap.size W1 W4) := Lib.hid (HB3.out.trans (hb4.mono HB3.out.size))
  clear hok hP hb4 cE
  generalize hE : fe.getD edn0 = E at *
  generalize hnb : E.blocks.length = nb at *
  go_upto_region 3 with ((with_reducible refine at_sstore 39 _ _ rfl ?_); go_must (refine wpList_snew rfl S_edn _ _ rfl rfl _ _ (ednCells E (.slice b1 nb b2)) (by simp [Act.eval]) (by simp [Act.eval]) rfl rfl (by simp [Value.oneCell']) ?_))
  obtain ⟨W5, hW5⟩ : ∃ W5, W5 = W4.alloc (.cells (ednCells E (.slice b1 nb b2)) 39) := ⟨_, rfl⟩
  rw [← hW5]
  have hb5 : Below W4.heap.size W4 W5 := by rw [hW5]; exact bel1 _ _
  have hn5 : W5.heap[W4.heap.size]? = some (.cells (ednCells E (.slice b1 nb b2)) 39 (0, 0)) := by rw [hW5]; exact World.alloc_heap_new _ _
  have HB5 : Hid (Below W1.heap.size W1 W5) := Lib.hid (HB4.out.trans (hb5.mono HB4.out.size))
  have k3 : W5.cell? ⟨W4.heap.size, 3, none⟩ = some (.slice b1 nb b2) := rowcell hn5
  have cC := Lib.hid (copyBlocks_any HBM.out HGE.out.1 HGE.out.2 W5 (HS.out.bel (HB1.out.trans (HB5.out.mono HB1.out.size))))
  have HN5 := Lib.hid hn5
  clear hW5 hb5 hn5
  go_wp2_with fail
  refine cC.out.mono ?_
  rintro e W6 ⟨u, rfl, hr6, hb6⟩
  obtain ⟨ua, un, uc, rfl⟩ := hr6.sl
  have hn6 := (hb6.block _ (hlt HN5.out)).trans HN5.out
  have q3 : W6.cell? ⟨W4.heap.size, 3, none⟩ = some (.slice b1 nb b2) := rowcell hn6
  have z3 : W6.frozen? ⟨W4.heap.size, 3, none⟩ = false := rowfree hn6
  have HR6 := Lib.hid hr6
  have HN6 := Lib.hid hn6
  have HB6 : Hid (Below W1.heap.size W1 W6) := Lib.hid (HB5.out.trans (hb6.mono HB5.out.size))
  have hlt6 : W4.heap.size < W5.heap.size := hlt HN5.out
  have hw1 : w.heap.size + 1 < W1.heap.size := hlt HN1.out
  have hw4 : W1.heap.size ≤ W4.heap.size := HB4.out.size
  clear hr6 hb6 hn6 cC k3
  go_upto_region 4 with fail
  have HN7 := Lib.hid (blk_set (j := 3) (u := .slice ua un uc) HN6.out)
  have hne : w.heap.size + 1 ≠ W4.heap.size := by omega
  have HZ7 : Hid ((W6.setCell ⟨W4.heap.size, 3, none⟩ (.slice ua un uc)).heap[w.heap.size + 1]? = some (.cells zEdn 39 (0, 0))) := Lib.hid (by rw [Below.heap_setCell _ _ _ _ hne]; exact (HB6.out.block _ hw1).trans HN1.out)
  have hu7 := upd_cell W6 W4.heap.size 3 (.slice ua un uc)
  have HR7 : Hid (BRow (W6.setCell ⟨W4.heap.size, 3, none⟩ (.slice ua un uc)) W5.heap.size (.slice ua un uc) E.blocks) := Lib.hid (HR6.out.kept hu7 (fun k e => .inl (by omega)))
  have HB7 : Hid (Below W1.heap.size W1 (W6.setCell ⟨W4.heap.size, 3, none⟩ (.slice ua un uc))) := Lib.hid (HB6.out.setCell hw4 _)
  obtain ⟨W7, hW7⟩ : ∃ W7, W7 = W6.setCell ⟨W4.heap.size, 3, none⟩ (.slice ua un uc) := ⟨_, rfl⟩
  rw [← hW7] at HN7 HZ7 HR7 HB7 ⊢
  clear hW7 hu7 q3 z3
  go_wp2_with (first
    | ((with_reducible refine at_sload 39 _ rfl ?_); go_must (refine wpList_sload rfl S_edn _ rfl (by simp [Act.eval]) (ednCells E (.slice ua un uc)) rfl HN7.out ?_))
    | ((with_reducible refine at_sstore 39 _ _ rfl ?_); go_must (refine wpList_sstore (cs := ednCells E (.slice ua un uc)) rfl S_edn _ _ rfl (by simp [Act.eval]) (by simp [Act.eval]) HZ7.out rfl rfl (by simp [Value.oneCell']) ?_)))
  refine bodyPost_ret (results_cell_row2 (p := 6) (u := 7) (ty := 39) (by kernel_rfl) _ _ (w.heap.size + 1) _ _ (0, 0) _ (by simp) (setRow_heap _ _ _ _ _ _ HZ7.out) Tryz.underlying39 rfl (by kernel_rfl)) rfl ?_
  unfold EditionPost
  rw [HED.out, hE]
  refine ⟨_, rfl, HOK.out, BRow.less (HR7.out.kept (upd_row W7 (w.heap.size + 1) _) (fun k e => .inl (by omega))) (by omega), below_setRow (HB1.out.trans (HB7.out.mono HB1.out.size)) (by omega) _⟩
end Go.Proofs.YtdkkhmjlamkgdaaGreatDoor
namespace Go.Proofs.YtdkkhmjlamkgdaaGreatDoor
open Go.RowKit Mg Go.Shelf Go.Maps

theorem reads_of {mem : Addr → Option Value} {w : World} {b o sz : Nat} {ao : Option Addr} {cs : List (Array Value)} (hsz : ∀ c ∈ cs, c.size = sz) (hpos : 0 < sz) (hao : 0 < cs.length → ao = some ⟨b, o, none⟩) (hc : ∀ j (h : j < cs.length) t, t < sz → mem ⟨b, o + j * sz + t, none⟩ = cs[j][t]?) (hs : Sees mem w) :
    Reads w w.heap.size sz ao cs.length (cs.flatMap Array.toList) := by
  refine ⟨flat_len hsz, fun hn => ⟨_, hao hn, ?_, fun j u hu => ?_⟩⟩
  · have h0 := hc 0 hn 0 hpos
    have hz := hsz _ (List.getElem_mem hn)
    rw [Array.getElem?_eq_getElem (by omega)] at h0
    show b < w.heap.size
    exact World.block_lt_of_cell? w ⟨b, o + 0 * sz + 0, none⟩ (hs _ _ h0)
  · have hjl := (List.getElem?_eq_some_iff.1 hu).1
    rw [flat_len hsz] at hjl
    have hd : j / sz < cs.length := (Nat.div_lt_iff_lt_mul hpos).2 hjl
    have hm : j % sz < sz := Nat.mod_lt _ hpos
    have hj : j / sz * sz + j % sz = j := by rw [Nat.mul_comm]; exact Nat.div_add_mod j sz
    have e1 := flat_cells hsz (j / sz) (j % sz) hd hm
    rw [hj, hu] at e1
    have h2 := hc (j / sz) hd (j % sz) hm
    rw [← e1] at h2
    have h3 := hs _ _ h2
    unfold Addr.add
    rw [Nat.add_assoc, hj] at h3
    by_cases h0 : j = 0
    · subst h0; simpa using h3
    · simp [h0]; simpa using h3
theorem edns_cells {mem : Addr → Option Value} {v : Value} {eds : List EdnF} (h : EdnsM mem v eds) : ∃ ao cap cs, v = .slice ao eds.length cap ∧ EVals mem eds cs ∧ (∀ c ∈ cs, c.size = 5 ∧ OneC c) ∧ ∀ w, Sees mem w → Reads w w.heap.size 5 ao cs.length (cs.flatMap Array.toList) := by
  obtain ⟨ao, cap, b, o, rfl, _, _, h1, h2⟩ := SlM.open_ h
  have hlen : (List.ofFn fun j : Fin eds.length => ednCells eds[j] (Classical.choose (h2 j j.2).2)).length = eds.length := by simp
  have hval : EVals mem eds (List.ofFn fun j : Fin eds.length => ednCells eds[j] (Classical.choose (h2 j j.2).2)) := by
    refine ⟨hlen, fun j hj hj2 => ?_⟩
    refine ⟨(h2 j hj).1, Classical.choose (h2 j hj).2, by simp, (Classical.choose_spec (h2 j hj).2).2⟩
  have hsz : ∀ c ∈ (List.ofFn fun j : Fin eds.length => ednCells eds[j] (Classical.choose (h2 j j.2).2)), c.size = 5 ∧ OneC c := fun c hc => by
    obtain ⟨j, hj, rfl⟩ := List.getElem_of_mem hc
    obtain ⟨_, bv, e, hb⟩ := hval.2 j (by rw [hlen] at hj; exact hj) hj
    obtain ⟨b1, b2, rfl⟩ := hb.slice
    rw [e]
    exact ⟨rfl, by intro u hu; simp at hu; rcases hu with rfl | rfl | rfl | rfl | rfl <;> rfl⟩
  refine ⟨ao, cap, _, rfl, hval, hsz, fun w hs => reads_of (b := b) (o := o) (fun c hc => (hsz c hc).1) (by omega) (fun hn => h1 (by rw [hlen] at hn; exact hn)) (fun j hj t ht => ?_) hs⟩
  rw [hlen] at hj
  have := (Classical.choose_spec (h2 j hj).2).1 t ht
  rw [this]
  simp
theorem corrs_cells {mem : Addr → Option Value} {ao : Option Addr} {cap : Nat} {l : List Corr} (h : CorrsM mem (.slice ao l.length cap) l) {w : World} (hs : Sees mem w) : Reads w w.heap.size 5 ao (l.map corrCells).length ((l.map corrCells).flatMap Array.toList) := by
  obtain ⟨ao', cap', b, o, e, _, _, h1, h2⟩ := SlM.open_ h
  injection e with e1 e2 e3
  subst e1
  refine reads_of (b := b) (o := o) (fun c hc => ?_) (by omega) (fun hn => h1 (by rw [List.length_map] at hn; exact hn)) (fun j hj t ht => ?_) hs
  · obtain ⟨x, _, rfl⟩ := List.mem_map.1 hc; rfl
  · rw [List.length_map] at hj
    rw [(h2 j hj).2 t ht, List.getElem_map]
theorem corrs_one (l : List Corr) : ∀ c ∈ l.map corrCells, c.size = 5 ∧ OneC c := fun c hc => by
  obtain ⟨x, _, rfl⟩ := List.mem_map.1 hc
  exact ⟨rfl, by intro u hu; simp at hu; rcases hu with rfl | rfl | rfl | rfl | rfl <;> rfl⟩
theorem strs_one (l : List ByteArray) : ∀ c ∈ (l.map fun x => (#[.string x] : Array Value)), c.size = 1 ∧ OneC c := fun c hc => by
  obtain ⟨x, _, rfl⟩ := List.mem_map.1 hc
  exact ⟨rfl, by intro u hu; simp at hu; subst hu; rfl⟩
structure GSty (x : StyF) : Prop where
  blks : ∀ e ∈ x.eds, GL e.blocks
  tops : x.topics.length ≤ 50000
  neds : x.eds.length ≤ 50000
  ncor : x.corr.length ≤ 50000
theorem StyGood.gsty {x : StyF} (h : StyGood x) : GSty x := ⟨fun e he => (h.blks e he).gl, by have := h.tops; omega, h.neds, h.ncor⟩
theorem gsty0 : GSty sty0 := ⟨(by intro e he; cases he), Nat.zero_le _, Nat.zero_le _, Nat.zero_le _⟩
theorem gsty_of {s : StF} (h : ∀ x ∈ s.stories, GSty x) (id : Int) : GSty (styOf s id) := by
  unfold styOf
  cases hf : findS s id with
  | none => exact gsty0
  | some x => exact h x (List.mem_of_find?_eq_some hf)
def CopyE (mem : Addr → Option Value) (w : World) (B : Nat) (eds : List EdnF) (k : Nat) (v : Value) : Prop :=
  ∃ cs : List (Array Value), GRow w B 39 5 v cs ∧ cs.length = eds.length ∧ ∀ j (h : j < eds.length) (h2 : j < cs.length), EVal (if j < k then memFr w (fun b => b < B ∨ v.ownBlock = some b) else mem) eds[j] cs[j]
theorem CopyE.done {mem : Addr → Option Value} {w : World} {B : Nat} {eds : List EdnF} {v : Value} (h : CopyE mem w B eds eds.length v) : ERow w B v eds := by
  obtain ⟨cs, h1, h2, h3⟩ := h
  refine ⟨cs, h1, h2, fun j hj hj2 => ?_⟩
  have := h3 j hj hj2
  rwa [if_pos hj] at this
theorem CopyE.kept {mem : Addr → Option Value} {w w' : World} {B : Nat} {eds : List EdnF} {k : Nat} {v : Value} {F : Nat → Prop} (h : CopyE mem w B eds k v) (hu : Upd F w w') (hF : ∀ b, F b → b < B) : CopyE mem w' B eds k v := by
  obtain ⟨cs, h1, h2, h3⟩ := h
  refine ⟨cs, h1.upd hu (fun b hb hf => by have := (h1.ge b hb).1; have := hF b hf; omega), h2, fun j hj hj2 => ?_⟩
  have := h3 j hj hj2
  split
  · next q => rw [if_pos q] at this; exact this.mono (memFr_mono hu fun b _ hf => ⟨hf, fun q => hf (.inl (hF b q))⟩)
  · next q => rw [if_neg q] at this; exact this
def FindPost (s : StF) (id : Int) (w : World) (e : Ending) (w' : World) : Prop :=
  ∃ tv ev cv, e = .returned (.tuple #[.agg (styCells (styOf s id) tv ev cv), .bool (findS s id).isSome]) ∧ StyOK (styOf s id) ∧ (∀ t ∈ (styOf s id).topics, t.size ≤ maxLen) ∧ (∀ c ∈ (styOf s id).corr, CorrOK c) ∧ LRow w' w.heap.size tv (styOf s id).topics ∧ ERow w' w.heap.size ev (styOf s id).eds ∧ GRow w' w.heap.size 69 5 cv ((styOf s id).corr.map corrCells) ∧ Below w.heap.size w w'
set_option maxRecDepth 100000 in
set_option maxHeartbeats 8000000 in
theorem Find_any {mem : Addr → Option Value} {v : Value} {s : StF} (h : StateM mem v s) (hg : ∀ x ∈ s.stories, GSty x) (id : Int) (w : World) (hs : Sees mem w) :
    Calls Tryz.prog 19 #[v, .int .i64 id] w (FindPost s id w) := by
  have HST := Lib.hid h
  obtain ⟨sv, tv, rfl, h1, h2⟩ := h
  obtain ⟨sa, sc, rfl⟩ := SlM.slice h1
  obtain ⟨ta, tc, rfl⟩ := SlM.slice h2
  have HS := Lib.hid hs
  have hgx := gsty_of hg id
  have HG := Lib.hid hgx
  have hg1 := hgx.tops
  have hg2 := hgx.neds
  have hg3 := hgx.ncor
  clear hgx hg
  obtain ⟨W1, hW1⟩ : ∃ W1, W1 = (w.alloc (.cells #[.slice sa s.stories.length sc, .slice ta s.tpls.length tc] 27)).alloc (.cells zStyC 34) := ⟨_, rfl⟩
  have hb1 : Below w.heap.size w W1 := by rw [hW1]; exact (bel1 w _).alloc (by simp) _
  have HN0 : Hid (W1.heap[w.heap.size]? = some (.cells #[.slice sa s.stories.length sc, .slice ta s.tpls.length tc] 27 (0, 0))) := Lib.hid (by rw [hW1]; exact heap_new1 w _ _)
  have HN1 : Hid (W1.heap[w.heap.size + 1]? = some (.cells zStyC 34 (0, 0))) := Lib.hid (by
    rw [hW1]
    have := World.alloc_heap_new (w.alloc (.cells #[.slice sa s.stories.length sc, .slice ta s.tpls.length tc] 27)) (.cells zStyC 34)
    simpa using this)
  have HB1 := Lib.hid hb1
  have HW1 := Lib.hid hW1
  have cS := Lib.hid (storyAt_any HST.out id W1 (hs.bel hb1))
  clear h1 h2 hs hb1 hW1
  go_enter Tryz.func19, Tryz.ntmps19
  go_upto_region 1 with fail
  rw [← HW1.out]
  go_wp2_with ((with_reducible refine at_sload 27 _ rfl ?_); go_must (refine wpList_sload rfl S_state _ rfl (by simp [Act.eval]) #[.slice sa s.stories.length sc, .slice ta s.tpls.length tc] rfl HN0.out ?_))
  refine cS.out.mono ?_
  rintro e W2 ⟨u, rfl, hu, hb2⟩
  generalize hX : styOf s id = X at *
  obtain ⟨hok, t0, e0, c0, rfl, hP1, hP2, hP3⟩ := hu
  have HOK := Lib.hid hok
  have HTZ : Hid (∀ t ∈ X.topics, t.size ≤ maxLen) := Lib.hid (by obtain ⟨_, _, _, q, _⟩ := hP1; exact q)
  have HCO : Hid (∀ c ∈ X.corr, CorrOK c) := Lib.hid (SlM.all hP3 fun _ _ _ h => h.1)
  obtain ⟨t1, t2, rfl⟩ := hP1.slice
  obtain ⟨c1, c2, rfl⟩ := SlM.slice hP3
  obtain ⟨e1, e2, ecs, rfl, hev, hone, herd⟩ := edns_cells hP2
  have HP1 := Lib.hid hP1
  have HP3 := Lib.hid hP3
  have HEV := Lib.hid hev
  have HONE := Lib.hid hone
  have HERD := Lib.hid herd
  have HB2 := Lib.hid hb2
  clear hok hP1 hP2 hP3 hb2 cS hev hone herd
  go_upto_region 2 with ((with_reducible refine at_sstore 34 _ _ rfl ?_); go_must (refine wpList_snew rfl S_sty _ _ rfl rfl _ _ (styCells X (.slice t1 X.topics.length t2) (.slice e1 X.eds.length e2) (.slice c1 X.corr.length c2)) (by simp [Act.eval]) (by simp [Act.eval]) rfl rfl (by simp [Value.oneCell']) ?_))
  obtain ⟨W3, hW3⟩ : ∃ W3, W3 = W2.alloc (.cells (styCells X (.slice t1 X.topics.length t2) (.slice e1 X.eds.length e2) (.slice c1 X.corr.length c2)) 34) := ⟨_, rfl⟩
  rw [← hW3]
  have hb3 : Below W2.heap.size W2 W3 := by rw [hW3]; exact bel1 _ _
  have HN3 : Hid (W3.heap[W2.heap.size]? = some (.cells (styCells X (.slice t1 X.topics.length t2) (.slice e1 X.eds.length e2) (.slice c1 X.corr.length c2)) 34 (0, 0))) := Lib.hid (by rw [hW3]; exact World.alloc_heap_new _ _)
  have HB3 : Hid (Below W1.heap.size W1 W3) := Lib.hid (HB2.out.trans (hb3.mono HB2.out.size))
  have HS3 := Lib.hid (HS.out.bel (HB1.out.trans (HB3.out.mono HB1.out.size)))
  have HRT := Lib.hid (reads_topics HP1.out HS3.out)
  have hth : (X.topics.map fun x => (#[.string x] : Array Value)).length = X.topics.length := List.length_map _
  have hz3 : W3.heap.size = W2.heap.size + 1 := by rw [hW3]; simp
  have hw12 : W1.heap.size ≤ W2.heap.size := HB2.out.size
  have k2 : W3.cell? ⟨W2.heap.size, 2, none⟩ = some (.slice t1 X.topics.length t2) := rowcell HN3.out
  clear hW3 hb3
  generalize hT : W2.heap.size = T at *
  go_upto_region 3 with ((with_reducible refine at_sappend _ _ _ rfl ?_); go_must (refine wpList_app_row rfl E_str _ _ rfl (by simp [Act.eval]) (GRow.nil W3 W3.heap.size _ _) t1 t2 _ (strs_one _) (by simp [Act.eval]) HRT.out (by rw [hth]; show 0 + _ ≤ 100000; omega) (Nat.le_refl _) ?_); intro v4 w4 hr4 hg4 hob4; have hb4 : Below W3.heap.size W3 w4 := (Below.refl _ W3).grown hg4 (Nat.le_refl _) (fun k e => by cases e); have c7 : w4.cell? ⟨T, 2, none⟩ = some (.slice t1 X.topics.length t2) := rowcell ((hb4.block _ (hlt HN3.out)).trans HN3.out); have z7 : w4.frozen? ⟨T, 2, none⟩ = false := rowfree ((hb4.block _ (hlt HN3.out)).trans HN3.out); rw [List.nil_append] at hr4; obtain ⟨va, vc, rfl⟩ := hr4.shape; rw [hth] at hr4)
  try simp only [hth]
  have HN4 := Lib.hid (blk_set (j := 2) (u := .slice va X.topics.length vc) ((hb4.block _ (hlt HN3.out)).trans HN3.out))
  have hu4 := upd_cell w4 T 2 (.slice va X.topics.length vc)
  have HB4 : Hid (Below W1.heap.size W1 (w4.setCell ⟨T, 2, none⟩ (.slice va X.topics.length vc))) := Lib.hid ((HB3.out.trans (hb4.mono HB3.out.size)).setCell hw12 _)
  have HTR : Hid (LRow (w4.setCell ⟨T, 2, none⟩ (.slice va X.topics.length vc)) (T + 1) (.slice va X.topics.length vc) X.topics) := Lib.hid (by
    rw [hz3] at hr4
    exact GRow.upd hr4 hu4 (fun k hk e => by have := (hr4.ge k hk).1; omega))
  have hs4 : T + 1 ≤ (w4.setCell ⟨T, 2, none⟩ (.slice va X.topics.length vc)).heap.size := by have := hb4.size; have := hu4.size; omega
  obtain ⟨W4, hW4⟩ : ∃ W4, W4 = w4.setCell ⟨T, 2, none⟩ (.slice va X.topics.length vc) := ⟨_, rfl⟩
  rw [← hW4] at HN4 HB4 HTR hs4 ⊢
  clear hW4 hu4 hb4 hr4 hg4 hob4 c7 z7 k2
  have HEL : Hid (ecs.length = X.eds.length) := Lib.hid HEV.out.1
  have k3 : W4.cell? ⟨T, 3, none⟩ = some (.slice e1 ecs.length e2) := by rw [HEL.out]; exact rowcell HN4.out
  have HRE := Lib.hid (HERD.out W4 (HS.out.bel (HB1.out.trans (HB4.out.mono HB1.out.size))))
  have hel2 : ecs.length ≤ 50000 := by have := HEL.out; omega
  go_upto_region 4 with ((with_reducible refine at_sappend _ _ _ rfl ?_); go_must (refine wpList_app_row rfl E_edn _ _ rfl (by simp [Act.eval]) (GRow.nil W4 W4.heap.size _ _) e1 e2 ecs HONE.out (by simp [Act.eval]) HRE.out (by show 0 + _ ≤ 100000; omega) (Nat.le_refl _) ?_); intro v5 w5 hr5 hg5 hob5; have hb5 : Below W4.heap.size W4 w5 := (Below.refl _ W4).grown hg5 (Nat.le_refl _) (fun k e => by cases e); have c7 : w5.cell? ⟨T, 3, none⟩ = some (.slice e1 ecs.length e2) := (by rw [HEL.out]; exact rowcell ((hb5.block _ (hlt HN4.out)).trans HN4.out)); have z7 : w5.frozen? ⟨T, 3, none⟩ = false := rowfree ((hb5.block _ (hlt HN4.out)).trans HN4.out); rw [List.nil_append] at hr5; obtain ⟨ya, yc, rfl⟩ := hr5.shape)
  have HN5 := Lib.hid (blk_set (j := 3) (u := .slice ya ecs.length yc) ((hb5.block _ (hlt HN4.out)).trans HN4.out))
  have hu5 := upd_cell w5 T 3 (.slice ya ecs.length yc)
  have HB5 : Hid (Below W1.heap.size W1 (w5.setCell ⟨T, 3, none⟩ (.slice ya ecs.length yc))) := Lib.hid ((HB4.out.trans (hb5.mono HB4.out.size)).setCell hw12 _)
  have HTR5 : Hid (LRow (w5.setCell ⟨T, 3, none⟩ (.slice ya ecs.length yc)) (T + 1) (.slice va X.topics.length vc) X.topics) := Lib.hid (GRow.upd (GRow.bel HTR.out hb5) hu5 (fun k hk e => by have := (lrow_blk HTR.out k hk).1; omega))
  have HCE : Hid (CopyE mem (w5.setCell ⟨T, 3, none⟩ (.slice ya ecs.length yc)) (T + 1) X.eds 0 (.slice ya ecs.length yc)) := Lib.hid ⟨ecs, (hr5.upd hu5 (fun k hk e => by have := (hr5.ge k hk).1; omega)).weaken hs4, HEL.out, fun j hj hj2 => by rw [if_neg (by omega)]; exact HEV.out.2 j hj hj2⟩
  obtain ⟨W5, hW5⟩ : ∃ W5, W5 = w5.setCell ⟨T, 3, none⟩ (.slice ya ecs.length yc) := ⟨_, rfl⟩
  rw [← hW5] at HN5 HB5 HTR5 HCE ⊢
  clear hW5 hu5 hb5 hr5 hg5 hob5 c7 z7 k3
  have k3 : W5.cell? ⟨T, 3, none⟩ = some (.slice ya ecs.length yc) := rowcell HN5.out
  have hel3 : ecs.length ≤ 9223372036854775807 := by omega
  go_wp2_with fail
  clear k3
  go_loopw [26] (fun i wr => ∃ k : Nat, k ≤ ecs.length ∧ i = .int .i64 k ∧ Hid (CopyE mem wr (T + 1) X.eds k (.slice ya ecs.length yc)) ∧ Hid (wr.heap[T]? = some (.cells (styCells X (.slice va X.topics.length vc) (.slice ya ecs.length yc) (.slice c1 X.corr.length c2)) 34 (0, 0))) ∧ Hid (Below W1.heap.size W1 wr) ∧ Hid (LRow wr (T + 1) (.slice va X.topics.length vc) X.topics)) (fun i _ => ecs.length - (intOf i).toNat)
  case atStart => exact ⟨0, Nat.zero_le _, rfl, HCE, HN5, HB5, HTR5⟩
  case round =>
    obtain ⟨k, hk, rfl, HC, HN, HB, HL⟩ := hrel
    by_cases hlt : k < ecs.length
    · obtain ⟨cs, d1, d2, d3⟩ := HC.out
      have hke : k < X.eds.length := by have := HEL.out; omega
      have hkc : k < cs.length := by rw [d2]; exact hke
      have hck := d3 k hke hkc
      rw [if_neg (by omega)] at hck
      obtain ⟨hok, bv, hce, hbm⟩ := hck
      obtain ⟨g, gcap, hgv, hgB, hgl, hg1', hg2', hgc, hgf⟩ := d1.at_ k hkc
      injection hgv with hgv1 hgv2 hgv3
      subst hgv1 hgv3
      clear hgv2
      have c3 := hgc 3 (by omega)
      rw [hce] at c3
      have z3 := hgf (k * 5 + 3)
      obtain ⟨b1, b2, rfl⟩ := hbm.slice
      have HBM := Lib.hid hbm
      have HGL := Lib.hid (HG.out.blks _ (List.getElem_mem hke))
      have HCE2 := Lib.hid hce
      have HOKE := Lib.hid hok
      have HD := Lib.hid (And.intro d1 (And.intro d2 d3))
      have HZ3 := Lib.hid z3
      have HSS : Hid (wr.drew.cell? ⟨T, 3, none⟩ = some (.slice (some ⟨g, 0, none⟩) ecs.length yc) ∧ wr.drew.cell? ⟨g, k * 5 + 3, none⟩ = some (.slice b1 X.eds[k].blocks.length b2)) := Lib.hid ⟨rowcell HN.out, c3⟩
      have cC := Lib.hid (copyBlocks_any HBM.out HGL.out.1 HGL.out.2 wr.drew (HS.out.bel (HB1.out.trans (HB.out.drew.mono HB1.out.size))))
      clear d1 d2 d3 hok hce hbm hgc hgf c3 z3
      generalize hx : X.eds[k] = x at *
      go_upto_region 7 with fail
      refine wp_mix [mT, mT, mT, mT, mT, mT, mT, mT, mT, mF, mF, mF, mL] 12 (fun W' => W'.cell? ⟨T, 3, none⟩ = some (.slice (some ⟨g, 0, none⟩) ecs.length yc) ∧ W'.cell? ⟨g, k * 5 + 3, none⟩ = some (.slice b1 x.blocks.length b2)) (by kernel_rfl) (by kernel_rfl) HSS.out ?_
      refine wpMix_take (.pointer (some ⟨T, 3, none⟩)) (fun _ _ _ _ h => h) HSS.out (by rfl) (fun W2 hW => by go_simp) ?_
      simp only [Act.put, List.setIfInBounds_toArray, List.set_cons_zero, List.set_cons_succ]
      refine wpMix_take (.slice (some ⟨g, 0, none⟩) ecs.length yc) (fun _ _ _ _ h => h) HSS.out (by rfl) (fun W2 hW => by have q0 := hW.1; go_simp) ?_
      simp only [Act.put, List.setIfInBounds_toArray, List.set_cons_zero, List.set_cons_succ]
      refine wpMix_take (.int .i64 k) (fun _ _ _ _ h => h) HSS.out (by rfl) (fun W2 hW => by go_simp) ?_
      simp only [Act.put, List.setIfInBounds_toArray, List.set_cons_zero, List.set_cons_succ]
      refine wpMix_take (.pointer (some ⟨T, 3, none⟩)) (fun _ _ _ _ h => h) HSS.out (by rfl) (fun W2 hW => by go_simp) ?_
      simp only [Act.put, List.setIfInBounds_toArray, List.set_cons_zero, List.set_cons_succ]
      refine wpMix_take (.slice (some ⟨g, 0, none⟩) ecs.length yc) (fun _ _ _ _ h => h) HSS.out (by rfl) (fun W2 hW => by have q0 := hW.1; go_simp) ?_
      simp only [Act.put, List.setIfInBounds_toArray, List.set_cons_zero, List.set_cons_succ]
      refine wpMix_take (.int .i64 k) (fun _ _ _ _ h => h) HSS.out (by rfl) (fun W2 hW => by go_simp) ?_
      simp only [Act.put, List.setIfInBounds_toArray, List.set_cons_zero, List.set_cons_succ]
      refine wpMix_take (.pointer (some ⟨g, k * 5, none⟩)) (fun _ _ _ _ h => h) HSS.out (by rfl) (fun W2 hW => by go_simp) ?_
      simp only [Act.put, List.setIfInBounds_toArray, List.set_cons_zero, List.set_cons_succ]
      refine wpMix_take (.pointer (some ⟨g, k * 5 + 3, none⟩)) (fun _ _ _ _ h => h) HSS.out (by rfl) (fun W2 hW => by go_simp) ?_
      simp only [Act.put, List.setIfInBounds_toArray, List.set_cons_zero, List.set_cons_succ]
      refine wpMix_take (.slice b1 x.blocks.length b2) (fun _ _ _ _ h => h) HSS.out (by rfl) (fun W2 hW => by have q0 := hW.2; go_simp) ?_
      simp only [Act.put, List.setIfInBounds_toArray, List.set_cons_zero, List.set_cons_succ]
      refine wpMix_step (fun K hK => ?_)
      go_simp
      refine cC.out.mono ?_
      rintro e' w6 ⟨u, rfl, hr6, hb6⟩
      dsimp only
      obtain ⟨ua, un, uc, rfl⟩ := hr6.sl
      have HSS6 := Lib.hid (And.intro (sees_bel hb6 _ _ HSS.out.1) (sees_bel hb6 _ _ HSS.out.2))
      have HR6 := Lib.hid hr6
      have HB6 : Hid (Below wr.heap.size wr w6) := Lib.hid ((Below.refl _ wr).drew.trans hb6)
      have z6 : w6.frozen? ⟨g, k * 5 + 3, none⟩ = false := (HB6.out.frozen (p := ⟨g, k * 5 + 3, none⟩) hgl).trans HZ3.out
      clear hr6 hb6 cC
      refine hK _ _ HSS6.out ?_
      clear hK K
      refine wpMix_step (fun K hK => ?_); go_simp; refine hK _ _ HSS6.out ?_; clear hK K
      refine wpMix_step (fun K hK => ?_); go_simp; refine hK _ _ HSS6.out ?_; clear hK K
      refine wpMix_last (fun K hK => ?_)
      have q6 := HSS6.out.2
      go_simp
      refine hK _ _ ?_
      clear hK K q6 z6
      refine wpMix_nil ?_
      have hw6 := HB6.out.size
      have hT6 : T < w6.heap.size := by have := Go.Proofs.YtdkkhmjlamkgdaaGreatDoor.hlt HN.out; omega
      have hu8 := upd_cell w6 g (k * 5 + 3) (.slice ua un uc)
      have HC8 : Hid (CopyE mem (w6.setCell ⟨g, k * 5 + 3, none⟩ (.slice ua un uc)) (T + 1) X.eds (k + 1) (.slice (some ⟨g, 0, none⟩) ecs.length yc)) := Lib.hid (by
        obtain ⟨d1, d2, d3⟩ := HD.out
        have hset := (d1.bel HB6.out).set_ k 3 hkc (by omega) (u := .slice ua un uc) rfl
        have hu3 : Upd (fun b => b = g) wr (w6.setCell ⟨g, k * 5 + 3, none⟩ (.slice ua un uc)) := ((Upd.refl (fun b => b = g) wr).bel HB6.out).trans hu8 (fun _ h => .inl h)
        refine ⟨_, hset, by rw [List.length_set]; exact d2, fun j hj hj2 => ?_⟩
        have hmm : ∀ p u, memFr wr (fun b => b < T + 1 ∨ (Value.slice (some ⟨g, 0, none⟩) ecs.length yc).ownBlock = some b) p = some u → memFr (w6.setCell ⟨g, k * 5 + 3, none⟩ (.slice ua un uc)) (fun b => b < T + 1 ∨ (Value.slice (some ⟨g, 0, none⟩) ecs.length yc).ownBlock = some b) p = some u :=
          memFr_mono hu3 fun b hb hF => ⟨hF, fun e => hF (.inr (by rw [e]; rfl))⟩
        by_cases e : j = k
        · subst e
          rw [if_pos (by omega), List.getElem_set_self, hx, HCE2.out]
          refine ⟨HOKE.out, .slice ua un uc, rfl, ?_⟩
          have hbo := blks_ok HBM.out
          refine (HR6.out.blks hbo).mono (memFr_mono hu8 fun b hb hf => ⟨fun q => ?_, fun q => ?_⟩)
          · rcases q with q | q
            · exact hf (by show b < wr.heap.size; have := Go.Proofs.YtdkkhmjlamkgdaaGreatDoor.hlt HN.out; omega)
            · injection q with q
              subst q
              exact hf hgl
          · subst q; exact hf hgl
        · have h4 := d3 j hj (by rw [List.length_set] at hj2; exact hj2)
          rw [List.getElem_set_ne (Ne.symm e)]
          by_cases hjk : j < k
          · rw [if_pos hjk] at h4
            rw [if_pos (by omega)]
            exact h4.mono hmm
          · rw [if_neg hjk] at h4
            rw [if_neg (by omega)]
            exact h4)
      have hgT : T < g := by omega
      have hlow : ∀ j, j < wr.heap.size → j ≠ g → (w6.setCell ⟨g, k * 5 + 3, none⟩ (.slice ua un uc)).heap[j]? = wr.heap[j]? := fun j hj hne => (Below.heap_setCell _ _ _ _ hne).trans (HB6.out.block j hj)
      have HN8 := Lib.hid ((hlow T (Go.Proofs.YtdkkhmjlamkgdaaGreatDoor.hlt HN.out) (by omega)).trans HN.out)
      have HB8 : Hid (Below W1.heap.size W1 (w6.setCell ⟨g, k * 5 + 3, none⟩ (.slice ua un uc))) := Lib.hid ((HB.out.trans (HB6.out.mono HB.out.size)).setCell (by show W1.heap.size ≤ g; omega) _)
      have HL8 : Hid (LRow (w6.setCell ⟨g, k * 5 + 3, none⟩ (.slice ua un uc)) (T + 1) (.slice va X.topics.length vc) X.topics) := Lib.hid (GRow.same HL.out fun j hj => by
        obtain ⟨h1, h2, c1, q1⟩ := lrow_blk HL.out j hj
        refine hlow j h2 fun e => ?_
        subst e
        obtain ⟨d1, _⟩ := HD.out
        obtain ⟨c2, q2⟩ := d1.blk _ rfl
        exact rows_apart q1 q2 (by decide) rfl)
      clear hu8 hlow
      go_wp2_with fail
      go_roundw
      case rel => exact ⟨k + 1, by omega, by go_num, HC8, HN8, HB8, HL8⟩
      case measure => simp [intOf]; omega
    · have e' : k = ecs.length := by omega
      subst e'
      have HER : Hid (ERow wr (T + 1) (.slice ya ecs.length yc) X.eds) := Lib.hid (by
        have := HC.out
        rw [HEL.out] at this ⊢
        exact this.done)
      have hcl : (X.corr.map corrCells).length = X.corr.length := List.length_map _
      have HRC := Lib.hid (corrs_cells HP3.out (HS.out.bel (HB1.out.trans (HB.out.mono HB1.out.size))))
      have k5 : wr.cell? ⟨T, 5, none⟩ = some (.slice c1 (X.corr.map corrCells).length c2) := by rw [hcl]; exact rowcell HN.out
      have hTr : T + 1 ≤ wr.heap.size := Go.Proofs.YtdkkhmjlamkgdaaGreatDoor.hlt HN.out
      go_upto_region 10 with ((with_reducible refine at_sappend _ _ _ rfl ?_); go_must (refine wpList_app_row rfl E_corr _ _ rfl (by simp [Act.eval]) (GRow.nil wr wr.heap.size _ _) c1 c2 (X.corr.map corrCells) (corrs_one _) (by simp [Act.eval]) HRC.out (by rw [hcl]; show 0 + _ ≤ 100000; omega) (Nat.le_refl _) ?_); intro v9 w9 hr9 hg9 hob9; have hb9 : Below wr.heap.size wr w9 := (Below.refl _ wr).grown hg9 (Nat.le_refl _) (fun k e => by cases e); have c7 : w9.cell? ⟨T, 5, none⟩ = some (.slice c1 X.corr.length c2) := rowcell ((hb9.block _ hTr).trans HN.out); have z7 : w9.frozen? ⟨T, 5, none⟩ = false := rowfree ((hb9.block _ hTr).trans HN.out); rw [List.nil_append] at hr9; obtain ⟨za, zc, hv9⟩ := hr9.shape; rw [hcl] at hv9; subst hv9)
      try simp only [hcl]
      have hu9 := upd_cell w9 T 5 (.slice za X.corr.length zc)
      have hN9 := blk_set (j := 5) (u := .slice za X.corr.length zc) ((hb9.block _ hTr).trans HN.out)
      have hB9 : Below W1.heap.size W1 (w9.setCell ⟨T, 5, none⟩ (.slice za X.corr.length zc)) := (HB.out.trans (hb9.mono HB.out.size)).setCell hw12 _
      have hT9 : LRow (w9.setCell ⟨T, 5, none⟩ (.slice za X.corr.length zc)) (T + 1) (.slice va X.topics.length vc) X.topics := GRow.upd (GRow.bel HL.out hb9) hu9 (fun k hk e => by have := (lrow_blk HL.out k hk).1; omega)
      have hE9 : ERow (w9.setCell ⟨T, 5, none⟩ (.slice za X.corr.length zc)) (T + 1) (.slice ya ecs.length yc) X.eds := (HER.out.bel hb9).kept hu9 (fun k e => by omega)
      have hC9 : GRow (w9.setCell ⟨T, 5, none⟩ (.slice za X.corr.length zc)) (T + 1) 69 5 (.slice za X.corr.length zc) (X.corr.map corrCells) := (hr9.upd hu9 (fun k hk e => by have := (hr9.ge k hk).1; omega)).weaken hTr
      obtain ⟨W9, hW9⟩ : ∃ W9, W9 = w9.setCell ⟨T, 5, none⟩ (.slice za X.corr.length zc) := ⟨_, rfl⟩
      rw [← hW9] at hN9 hB9 hT9 hE9 hC9 ⊢
      have HN9 := Lib.hid hN9
      have HB9 := Lib.hid hB9
      have HT9 := Lib.hid hT9
      have HE9 := Lib.hid hE9
      have HC9 := Lib.hid hC9
      have hw1 : w.heap.size + 1 < W1.heap.size := Go.Proofs.YtdkkhmjlamkgdaaGreatDoor.hlt HN1.out
      have HZ9 : Hid (W9.heap[w.heap.size + 1]? = some (.cells zStyC 34 (0, 0))) := Lib.hid ((hB9.block _ hw1).trans HN1.out)
      clear hW9 hu9 hN9 hB9 hT9 hE9 hC9 hb9 hr9 hg9 hob9 c7 z7 k5
      go_wp2_with (first
        | ((with_reducible refine at_sload 34 _ rfl ?_); go_must (refine wpList_sload rfl S_sty _ rfl (by simp [Act.eval]) (styCells X (.slice va X.topics.length vc) (.slice ya ecs.length yc) (.slice za X.corr.length zc)) rfl HN9.out ?_))
        | ((with_reducible refine at_sstore 34 _ _ rfl ?_); go_must (refine wpList_sstore (cs := styCells X (.slice va X.topics.length vc) (.slice ya ecs.length yc) (.slice za X.corr.length zc)) rfl S_sty _ _ rfl (by simp [Act.eval]) (by simp [Act.eval]) HZ9.out rfl rfl (by simp [Value.oneCell']) ?_)))
      refine bodyPost_ret (results_cell_row2 (p := 4) (u := 5) (ty := 34) (by kernel_rfl) _ _ (w.heap.size + 1) _ _ (0, 0) _ (by simp) (setRow_heap _ _ _ _ _ _ HZ9.out) Tryz.underlying34 rfl (by kernel_rfl)) rfl ?_
      have hu10 := upd_row W9 (w.heap.size + 1) (styCells X (.slice va X.topics.length vc) (.slice ya ecs.length yc) (.slice za X.corr.length zc))
      unfold FindPost
      rw [hX]
      refine ⟨.slice va X.topics.length vc, .slice ya ecs.length yc, .slice za X.corr.length zc, rfl, HOK.out, HTZ.out, HCO.out, ?_, ?_, ?_, below_setRow (HB1.out.trans (HB9.out.mono HB1.out.size)) (by omega) _⟩
      · exact GRow.weaken (B := T + 1) (GRow.upd HT9.out hu10 (fun k hk e => by have := (lrow_blk HT9.out k hk).1; omega)) (by omega)
      · exact (HE9.out.kept hu10 (fun k e => by omega)).weaken (by omega)
      · exact (HC9.out.upd hu10 (fun k hk e => by have := (HC9.out.ge k hk).1; omega)).weaken (by omega)
end Go.Proofs.YtdkkhmjlamkgdaaGreatDoor
namespace Go.Proofs.YtdkkhmjlamkgdaaGreatDoor
open Go.RowKit Mg Go.Shelf Go.Maps

structure Folded (l : List Fct) (w : World) (sv tv : Value) (s : StF) (w' : World) : Prop where
  is : FoldIs l s
  st : StateM (memFr w' (fun k => k < w.heap.size + 1)) (.agg #[sv, tv]) s
  bel : Below w.heap.size w w'
  good : ∀ x ∈ s.stories, StyGood x
  len : s.stories.length ≤ l.length
theorem Folded.of {l : List Fct} {w w' : World} {e : Ending} (h : FoldPost l w e w') : ∃ sv tv s, e = .returned (.agg #[sv, tv]) ∧ Folded l w sv tv s w' := by
  obtain ⟨sv, tv, s, A, E, rfl, h1, h2, h3, h4, h5, h6, h7⟩ := h
  refine ⟨sv, tv, s, rfl, h1, ⟨sv, tv, rfl, h2.stys h3, h4.mono (memFr_mono (Upd.refl (fun _ => False) w') fun k _ hf => ⟨fun q => hf (.inl q), fun q => q⟩)⟩, h5, h6, h7⟩
theorem Folded.shapes {l : List Fct} {w w' : World} {sv tv : Value} {s : StF} (h : Folded l w sv tv s w') : ∃ a c b d, sv = .slice a s.stories.length c ∧ tv = .slice b s.tpls.length d := by
  obtain ⟨sv', tv', e, h1, h2⟩ := h.st
  injection e with e
  have e1 : sv = sv' := by have := congrArg (fun x => x[0]?) e; simpa using this
  have e2 : tv = tv' := by have := congrArg (fun x => x[1]?) e; simpa using this
  obtain ⟨a, c, r1⟩ := SlM.slice h1
  obtain ⟨b, d, r2⟩ := SlM.slice h2
  exact ⟨a, c, b, d, e1.trans r1, e2.trans r2⟩
theorem gsty_all {s : StF} (h : ∀ x ∈ s.stories, StyGood x) : ∀ x ∈ s.stories, GSty x := fun x hx => (h x hx).gsty
theorem gst_all {s : StF} (h : ∀ x ∈ s.stories, StyGood x) : GSt s := fun x hx e he => ((h x hx).blks e he).gl
theorem txs_all {s : StF} (h : ∀ x ∈ s.stories, StyGood x) : TxS s 1000000000 := fun x hx e he y hy => (((h x hx).blks e he).2 y hy).1
theorem txy_all {s : StF} (h : ∀ x ∈ s.stories, StyGood x) (ht : ∀ x ∈ s.stories, ∀ e ∈ x.eds, e.title.size ≤ 1000000000000) : ∀ x ∈ s.stories, TxY x := fun x hx =>
  ⟨fun e he => ⟨ht x hx e he, ((h x hx).blks e he).1⟩, (h x hx).corr, (h x hx).ncor⟩
theorem x_title : ∀ x ∈ xS.stories, ∀ e ∈ x.eds, e.title.size ≤ 1000000000000 := by
  intro x hx e he
  obtain rfl : x = xSt := by simpa [xS] using hx
  obtain rfl : e = xE := by simpa [xSt] using he
  decide +kernel
theorem gb_d {l : List Blk} (h : (decide (l.length ≤ 100) && l.all fun x => decide (x.text.size ≤ 1000) && decide (x.lab.after.length ≤ 1000)) = true) : GB l := by
  simp only [Bool.and_eq_true, decide_eq_true_eq, List.all_eq_true] at h
  exact ⟨h.1, h.2⟩
theorem x_fgood (f : Fct) (h : f = xF1 ∨ f = xF2 ∨ f = xF3 ∨ f = xF4) : FGood f := by
  rcases h with rfl | rfl | rfl | rfl
  all_goals exact ⟨gb_d (by decide +kernel), by decide +kernel, by decide +kernel⟩
theorem bs_xText : bs ((textS xS 2 sEn).getD []) = xText := by rw [x_text]; exact bs_of _
theorem is_xText : (textS xS 2 sEn).isSome = true := by rw [x_text]; rfl
theorem is_no : (textS xS 2 sFr).isSome = false := by rw [x_no]; rfl
theorem edn_x : (ednOf xS 2 sEn).getD edn0 = xE := by rw [x_edn]; rfl
theorem edn_xs : (ednOf xS 2 sEn).isSome = true := by rw [x_edn]; rfl
theorem find_xs : (findS xS 2).isSome = true := by rw [x_find]; rfl
theorem sty_x : styOf xS 2 = xSt := by unfold styOf; rw [x_find]; rfl
def qB (r : Int) : Blk := { blk0 with kind := 3, story := 2, ref := r }
theorem built_q1 : Tryz.prog.built 58 [(1, .int .i64 3), (3, .int .i64 2), (4, .int .i64 1)] = some (blkCells (qB 1) nilS) := by kernel_rfl
theorem built_q3 : Tryz.prog.built 58 [(1, .int .i64 3), (3, .int .i64 2), (4, .int .i64 3)] = some (blkCells (qB 3) nilS) := by kernel_rfl
theorem qB_V {mem : Addr → Option Value} (r : Int) : BlkV mem (.agg (blkCells (qB r) nilS)) (qB r) := ⟨none, 0, rfl, IntsM.nil _, ml_d rfl, okI_d rfl, okI_d rfl⟩
theorem built_f4 : Tryz.prog.built 50 [(0, .int .i64 4), (2, .int .i64 6), (3, .int .i64 2)] = some (fctCells xF4 nilS nilS nilS) := by kernel_rfl
def xE4 : FctE := ⟨xF4, none, 0, none, 0, none, 0⟩
theorem xE4_ok {M : Addr → Option Value} : xE4.ok M := ⟨x_fok _ (.inr (.inr (.inr rfl))), no_parts rfl rfl rfl⟩
end Go.Proofs.YtdkkhmjlamkgdaaGreatDoor
namespace Go.Proofs.YtdkkhmjlamkgdaaGreatDoor
open Go.RowKit Mg Go.Shelf Go.Maps

theorem fold_xs {w w1 : World} {v : Value} {es : List FctE} (hr : FRow w1 w.heap.size v es) (hok : ∀ x ∈ es, x.ok (fun a => w1.cell? a)) (hl : es.length ≤ 20000) (hg : ∀ x ∈ es, FGood x.f) :
    Calls Tryz.prog 26 #[v] w1 (FoldPost (es.map FctE.f) w1) :=
  Fold_any (hr.es hok) hl hg w1 (Sees.self w1) (cells_lt w1)
theorem x_text_eq : (xText.toList == [82, 97, 105, 110, 10, 73, 116, 32, 114, 97, 105, 110, 101, 100, 46, 32, 73, 116, 32, 115, 116, 111, 112, 112, 101, 100, 46, 10, 114, 97, 105, 110, 58, 32, 49, 10, 67, 111, 114, 114, 101, 99, 116, 105, 111, 110, 58, 32, 73, 116, 32, 115, 116, 111, 112, 112, 101, 100, 46, 10]) = true := by rw [ByteArray.toList_eq]; decide +kernel
theorem x_body_eq : (xBody2.toList == [73, 116, 32, 114, 97, 105, 110, 101, 100, 46, 32, 73, 116, 32, 115, 116, 111, 112, 112, 101, 100, 46]) = true := by rw [ByteArray.toList_eq]; decide +kernel
def xRem : ByteArray := bs tRemoved
theorem x_rem_eq : (xRem.toList == [91, 114, 101, 109, 111, 118, 101, 100, 93]) = true := by rw [ByteArray.toList_eq]; decide +kernel
theorem field_stories (a b : Option Addr) (n m c d : Nat) (w : World) : (Instr.field 27 (.agg #[.slice a n c, .slice b m d]) 0).run Tryz.prog w = .ok (.slice a n c) w := by kernel_rfl
theorem frow_some {w : World} {B : Nat} {v : Value} {es : List FctE} (h : FRow w B v es) (hp : 0 < es.length) : ∃ g cap, v = .slice (some ⟨g, 0, none⟩) es.length cap ∧ es.length ≤ cap ∧ cap ≤ maxLen := by
  rcases h.2 with ⟨_, hz⟩ | ⟨g, cap, cur, rfl, _, _, hn, hc, _⟩
  · omega
  · exact ⟨g, cap, rfl, hn, hc⟩
theorem EsM.take {mem : Addr → Option Value} {ao : Option Addr} {cap : Nat} {es : List FctE} (h : EsM mem (.slice ao es.length cap) es) (k : Nat) (hk : k ≤ es.length) : EsM mem (.slice ao k cap) (es.take k) := by
  obtain ⟨b, o, ⟨h1, ao', cap', e, h2, h3, h4⟩, h5⟩ := h
  injection e with e1 _ e3
  subst e1 e3
  have hl : (es.take k).length = k := by rw [List.length_take]; omega
  refine ⟨b, o, ⟨by omega, ao, cap, by rw [hl], by omega, h3, fun hp => h4 (by omega)⟩, fun j hj => ?_⟩
  rw [List.getElem_take]
  exact h5 j (by omega)
structure ExIn (w : World) (B : Nat) (v : Value) (es : List FctE) : Prop where
  row : FRow w B v es
  ok : ∀ x ∈ es, x.ok (memFr w (fun k => k < B ∨ v.ownBlock = some k))
theorem ExIn.bel {w w' : World} {B : Nat} {v : Value} {es : List FctE} (h : ExIn w B v es) (hb : Below w.heap.size w w') : ExIn w' B v es :=
  ⟨h.row.same fun k hk => hb.block k (h.row.ge k hk).2, fun x hx => (h.ok x hx).mono (memFr_below hb)⟩
theorem ExIn.see {w : World} {B : Nat} {v : Value} {es : List FctE} (h : ExIn w B v es) : ∀ x ∈ es, x.ok (fun a => w.cell? a) := fun x hx => (h.ok x hx).mono (memFr_sees w _)
theorem xEs_f (h : Nat) : (xEs h).map FctE.f = xL := rfl
theorem xEs_good (h : Nat) : ∀ x ∈ xEs h, FGood x.f := by
  intro x hx
  simp only [xEs, List.mem_cons, List.mem_nil_iff, or_false] at hx
  rcases hx with rfl | rfl | rfl
  · exact x_fgood _ (.inl rfl)
  · exact x_fgood _ (.inr (.inl rfl))
  · exact x_fgood _ (.inr (.inr (.inl rfl)))
set_option maxRecDepth 100000 in
set_option maxHeartbeats 16000000 in
theorem sane_any (w : World) : Calls Tryz.prog 16 #[] w fun e w' => e = .returned (.bool true) ∧ Below w.heap.size w w' := by
  have cX := Lib.hid (example_any w)
  go_enter Tryz.func16, Tryz.ntmps16
  go_wp2_with fail
  refine cX.out.mono ?_
  rintro e W1 ⟨v, rfl, hr1, hok1, hb1⟩
  have HEX1 : Hid (ExIn W1 w.heap.size v (xEs w.heap.size)) := Lib.hid ⟨hr1, hok1⟩
  have HB1 := Lib.hid hb1
  obtain ⟨vg, vc, rfl, hc3, hcm⟩ := frow_some hr1 (by show 0 < 3; omega)
  rw [show (xEs w.heap.size).length = 3 from rfl] at *
  have cF := Lib.hid (fold_xs HEX1.out.row HEX1.out.see (by show 3 ≤ 20000; omega) (xEs_good _))
  clear hr1 hok1 hb1 cX
  go_wp2_with fail
  refine cF.out.mono ?_
  intro e W2 hp
  obtain ⟨sv, tv, s, rfl, hF⟩ := Folded.of hp
  obtain rfl := x_is (by rw [← xEs_f w.heap.size]; exact hF.is)
  obtain ⟨sa, sc, ta, tc, rfl, rfl⟩ := hF.shapes
  rw [show xS.stories.length = 1 from rfl, show xS.tpls.length = 0 from rfl] at *
  have HST := Lib.hid hF.st
  have HGO := Lib.hid hF.good
  have HB2 : Hid (Below W1.heap.size W1 W2) := Lib.hid hF.bel
  clear hp hF cF
  go_upto_region 3 with ((with_reducible refine at_sstore 27 _ _ rfl ?_); go_must (refine wpList_snew rfl S_state _ _ rfl rfl _ _ #[.slice sa 1 sc, .slice ta 0 tc] (by simp [Act.eval]) (by simp [Act.eval]) rfl rfl (by simp [Value.oneCell']) ?_))
  obtain ⟨W3, hW3⟩ : ∃ W3, W3 = W2.alloc (.cells #[.slice sa 1 sc, .slice ta 0 tc] 27) := ⟨_, rfl⟩
  rw [← hW3]
  have hb3 : Below W2.heap.size W2 W3 := by rw [hW3]; exact bel1 _ _
  have HN3 : Hid (W3.heap[W2.heap.size]? = some (.cells #[.slice sa 1 sc, .slice ta 0 tc] 27 (0, 0))) := Lib.hid (by rw [hW3]; exact World.alloc_heap_new _ _)
  have HS3 : Hid (Sees (memFr W2 (fun k => k < W1.heap.size + 1)) W3) := Lib.hid ((memFr_sees W2 _).bel hb3)
  have HB3 : Hid (Below W1.heap.size W1 W3) := Lib.hid (HB2.out.trans (hb3.mono HB2.out.size))
  clear hW3 hb3
  have cT := Lib.hid (Text_any HST.out (by decide) (txy_all HGO.out x_title) (txs_all HGO.out) 2 ⟨#[101, 110]⟩ W3 HS3.out)
  go_wp2_with ((with_reducible refine at_sload 27 _ rfl ?_); go_must (refine wpList_sload rfl S_state _ rfl (by simp [Act.eval]) #[.slice sa 1 sc, .slice ta 0 tc] rfl HN3.out ?_))
  refine cT.out.mono ?_
  rintro e W4 ⟨rfl, hb4⟩
  rw [show bs ((textS xS 2 ⟨#[101, 110]⟩).getD []) = xText from bs_xText, show (textS xS 2 ⟨#[101, 110]⟩).isSome = true from is_xText]
  have HN4 := Lib.hid ((hb4.block _ (hlt HN3.out)).trans HN3.out)
  have HS4 := Lib.hid (HS3.out.bel hb4)
  have HB4 : Hid (Below W1.heap.size W1 W4) := Lib.hid (HB3.out.trans (hb4.mono HB3.out.size))
  clear hb4 cT
  have cT := Lib.hid (Text_any HST.out (by decide) (txy_all HGO.out x_title) (txs_all HGO.out) 2 ⟨#[102, 114]⟩ W4 HS4.out)
  go_wp2_with ((with_reducible refine at_sload 27 _ rfl ?_); go_must (refine wpList_sload rfl S_state _ rfl (by simp [Act.eval]) #[.slice sa 1 sc, .slice ta 0 tc] rfl HN4.out ?_))
  refine cT.out.mono ?_
  rintro e W5 ⟨rfl, hb5⟩
  rw [show (textS xS 2 ⟨#[102, 114]⟩).isSome = false from is_no]
  generalize bs ((textS xS 2 ⟨#[102, 114]⟩).getD []) = tno
  have HN5 := Lib.hid ((hb5.block _ (hlt HN4.out)).trans HN4.out)
  have HS5 := Lib.hid (HS4.out.bel hb5)
  have HB5 : Hid (Below W1.heap.size W1 W5) := Lib.hid (HB4.out.trans (hb5.mono HB4.out.size))
  clear hb5 cT
  have cE := Lib.hid (Edition_any HST.out (gst_all HGO.out) 2 ⟨#[101, 110]⟩ W5 HS5.out)
  go_wp2_with ((with_reducible refine at_sload 27 _ rfl ?_); go_must (refine wpList_sload rfl S_state _ rfl (by simp [Act.eval]) #[.slice sa 1 sc, .slice ta 0 tc] rfl HN5.out ?_))
  refine cE.out.mono ?_
  rintro e W6 ⟨bv, rfl, _, hbr, hb6⟩
  rw [show (ednOf xS 2 ⟨#[101, 110]⟩).getD edn0 = xE from edn_x] at hbr ⊢
  rw [show (ednOf xS 2 ⟨#[101, 110]⟩).isSome = true from edn_xs]
  obtain ⟨ba, bn, bc, rfl⟩ := hbr.sl
  have HN6 := Lib.hid ((hb6.block _ (hlt HN5.out)).trans HN5.out)
  have HS6 := Lib.hid (HS5.out.bel hb6)
  have HB6 : Hid (Below W1.heap.size W1 W6) := Lib.hid (HB5.out.trans (hb6.mono HB5.out.size))
  clear hb6 cE hbr
  go_upto_region 6 with ((with_reducible refine at_sstore 39 _ _ rfl ?_); go_must (refine wpList_snew rfl S_edn _ _ rfl rfl _ _ (ednCells xE (.slice ba bn bc)) (by simp [Act.eval]) (by simp [Act.eval]) rfl rfl (by simp [Value.oneCell']) ?_))
  obtain ⟨W7, hW7⟩ : ∃ W7, W7 = W6.alloc (.cells (ednCells xE (.slice ba bn bc)) 39) := ⟨_, rfl⟩
  rw [← hW7]
  have hb7 : Below W6.heap.size W6 W7 := by rw [hW7]; exact bel1 _ _
  have HE7 : Hid (W7.heap[W6.heap.size]? = some (.cells (ednCells xE (.slice ba bn bc)) 39 (0, 0))) := Lib.hid (by rw [hW7]; exact World.alloc_heap_new _ _)
  have HN7 := Lib.hid ((hb7.block _ (hlt HN6.out)).trans HN6.out)
  have HS7 := Lib.hid (HS6.out.bel hb7)
  have HB7 : Hid (Below W1.heap.size W1 W7) := Lib.hid (HB6.out.trans (hb7.mono HB6.out.size))
  clear hW7 hb7
  have cI := Lib.hid (Find_any HST.out (gsty_all HGO.out) 2 W7 HS7.out)
  go_wp2_with ((with_reducible refine at_sload 27 _ rfl ?_); go_must (refine wpList_sload rfl S_state _ rfl (by simp [Act.eval]) #[.slice sa 1 sc, .slice ta 0 tc] rfl HN7.out ?_))
  refine cI.out.mono ?_
  rintro e W8 ⟨xt, xe, xc, rfl, _, _, _, hxt, hxe, hxc, hb8⟩
  rw [show styOf xS 2 = xSt from sty_x] at *
  rw [show (findS xS 2).isSome = true from find_xs]
  obtain ⟨xta, xtc, rfl⟩ := lrow_shape hxt
  obtain ⟨xea, xec, rfl⟩ := hxe.shape
  obtain ⟨xca, xcc, hxcv⟩ := hxc.shape
  subst hxcv
  rw [show (xSt.corr.map corrCells).length = 1 from rfl, show xSt.topics.length = 1 from rfl, show xSt.eds.length = 1 from rfl] at *
  have HN8 := Lib.hid ((hb8.block _ (hlt HN7.out)).trans HN7.out)
  have HE8 := Lib.hid ((hb8.block _ (hlt HE7.out)).trans HE7.out)
  have HS8 := Lib.hid (HS7.out.bel hb8)
  have HB8 : Hid (Below W1.heap.size W1 W8) := Lib.hid (HB7.out.trans (hb8.mono HB7.out.size))
  clear hb8 cI hxt hxe hxc
  go_upto_region 7 with ((with_reducible refine at_sstore 34 _ _ rfl ?_); go_must (refine wpList_snew rfl S_sty _ _ rfl rfl _ _ (styCells xSt (.slice xta 1 xtc) (.slice xea 1 xec) (.slice xca 1 xcc)) (by simp [Act.eval]) (by simp [Act.eval]) rfl rfl (by simp [Value.oneCell']) ?_))
  obtain ⟨W9, hW9⟩ : ∃ W9, W9 = W8.alloc (.cells (styCells xSt (.slice xta 1 xtc) (.slice xea 1 xec) (.slice xca 1 xcc)) 34) := ⟨_, rfl⟩
  rw [← hW9]
  have hb9 : Below W8.heap.size W8 W9 := by rw [hW9]; exact bel1 _ _
  have HX9 : Hid (W9.heap[W8.heap.size]? = some (.cells (styCells xSt (.slice xta 1 xtc) (.slice xea 1 xec) (.slice xca 1 xcc)) 34 (0, 0))) := Lib.hid (by rw [hW9]; exact World.alloc_heap_new _ _)
  have HN9 := Lib.hid ((hb9.block _ (hlt HN8.out)).trans HN8.out)
  have HE9 := Lib.hid ((hb9.block _ (hlt HE8.out)).trans HE8.out)
  have HS9 := Lib.hid (HS8.out.bel hb9)
  have HB9 : Hid (Below W1.heap.size W1 W9) := Lib.hid (HB8.out.trans (hb9.mono HB8.out.size))
  clear hW9 hb9
  have cQ := Lib.hid (Resolve_any HST.out (by decide) ⟨#[102, 114]⟩ (qB_V 1) W9 HS9.out)
  go_wp2_with (first
    | ((with_reducible refine at_sload 27 _ rfl ?_); go_must (refine wpList_sload rfl S_state _ rfl (by simp [Act.eval]) #[.slice sa 1 sc, .slice ta 0 tc] rfl HN9.out ?_))
    | ((with_reducible refine at_sbuild 58 _ rfl ?_); go_must (refine wpList_buildTo rfl 58 _ rfl _ rfl _ (by simp [Act.eval, Act.put]; with_reducible exact built_q1) ?_)))
  refine cQ.out.mono ?_
  rintro e W10 ⟨rfl, hb10⟩
  rw [show bs (resS xS ⟨#[102, 114]⟩ (qB 1)) = xBody2 from (congrArg bs x_q).trans (bs_of _)]
  have HN10 := Lib.hid ((hb10.block _ (hlt HN9.out)).trans HN9.out)
  have HE10 := Lib.hid ((hb10.block _ (hlt HE9.out)).trans HE9.out)
  have HX10 := Lib.hid ((hb10.block _ (hlt HX9.out)).trans HX9.out)
  have HS10 := Lib.hid (HS9.out.bel hb10)
  have HB10 : Hid (Below W1.heap.size W1 W10) := Lib.hid (HB9.out.trans (hb10.mono HB9.out.size))
  clear hb10 cQ
  have cQ := Lib.hid (Resolve_any HST.out (by decide) ⟨#[101, 110]⟩ (qB_V 3) W10 HS10.out)
  go_wp2_with (first
    | ((with_reducible refine at_sload 27 _ rfl ?_); go_must (refine wpList_sload rfl S_state _ rfl (by simp [Act.eval]) #[.slice sa 1 sc, .slice ta 0 tc] rfl HN10.out ?_))
    | ((with_reducible refine at_sbuild 58 _ rfl ?_); go_must (refine wpList_buildTo rfl 58 _ rfl _ rfl _ (by simp [Act.eval, Act.put]; with_reducible exact built_q3) ?_)))
  refine cQ.out.mono ?_
  rintro e W11 ⟨rfl, hb11⟩
  rw [show bs (resS xS ⟨#[101, 110]⟩ (qB 3)) = xRem from congrArg bs x_r]
  have HE11 := Lib.hid ((hb11.block _ (hlt HE10.out)).trans HE10.out)
  have HX11 := Lib.hid ((hb11.block _ (hlt HX10.out)).trans HX10.out)
  have HB11 : Hid (Below W1.heap.size W1 W11) := Lib.hid (HB10.out.trans (hb11.mono HB10.out.size))
  have HEX11 := Lib.hid (HEX1.out.bel HB11.out)
  clear hb11 cQ
  have HTK := Lib.hid ((HEX11.out.row.es HEX11.out.see).take 1 (by show 1 ≤ 3; omega))
  have cF := Lib.hid (Fold_any HTK.out (by show 1 ≤ 20000; omega) (fun x hx => xEs_good _ x (List.mem_of_mem_take hx)) W11 (Sees.self W11) (cells_lt W11))
  have hcm2 : vc ≤ 9223372036854775807 := by unfold maxLen at hcm; exact hcm
  have hc1 : 1 ≤ vc := by
    have : 3 ≤ vc := hc3
    omega
  go_wp2_with fail
  refine cF.out.mono ?_
  intro e W12 hp
  obtain ⟨sv2, tv2, s2, rfl, hF⟩ := Folded.of hp
  have hz := x_one hF.is
  obtain ⟨a2, c2, b2, d2, rfl, rfl⟩ := hF.shapes
  rw [hz] at *
  have hb12 := hF.bel
  have HB12 : Hid (Below W1.heap.size W1 W12) := Lib.hid (HB11.out.trans (hb12.mono HB11.out.size))
  have HE12 := Lib.hid ((hb12.block _ (hlt HE11.out)).trans HE11.out)
  have HX12 := Lib.hid ((hb12.block _ (hlt HX11.out)).trans HX11.out)
  have HEX12 := Lib.hid (HEX11.out.bel hb12)
  clear hp hF hz hb12 cF
  generalize s2.tpls.length = n2 at *
  have hw12 : w.heap.size ≤ W12.heap.size := by
    have h1 := HB1.out.size
    have h2 := HB12.out.size
    omega
  have hfd := field_stories
  go_upto_region 10 with fail
  clear hfd
  go_wp2_with (first
    | ((with_reducible refine at_sbuild 50 _ rfl ?_); go_must (refine wpList_buildTo rfl 50 _ rfl _ rfl _ (by simp [Act.eval]; with_reducible exact built_f4) ?_))
    | ((with_reducible refine at_sslice 22 _ _ rfl ?_); go_must (refine wpList_fct_slice rfl _ rfl xE4 (by simp [Act.eval, Act.put] <;> rfl) ?_))
    | ((with_reducible refine at_sappend _ _ 22 rfl ?_); go_must (refine wpList_app_fct rfl _ _ rfl w.heap.size _ (xEs w.heap.size) (by simp [Act.eval, Act.put] <;> rfl) (HEX12.out.bel (bel1 _ _)).row xE4 W12.heap.size 1 (by simp [Act.eval, Act.put]) (World.alloc_heap_new _ _) (by show 3 ≤ 100000; omega) (by rw [World.size_alloc]; omega) ?_); intro v13 w13 hr13 hg13 hob13))
  have hu13 : Upd (fun k => (Value.slice (some ⟨vg, 0, none⟩) 3 vc).ownBlock = some k) W12 w13 := ((Upd.refl _ W12).alloc _).grown hg13 (fun k e => .inl e)
  have hvg : vg < W1.heap.size := (HEX1.out.row.ge vg rfl).2
  have hs12 : W1.heap.size ≤ W12.heap.size := HB12.out.size
  have HEX13 : Hid (ExIn w13 w.heap.size v13 (xEs w.heap.size ++ [xE4])) := Lib.hid ⟨hr13, fun x hx => by
    rcases List.mem_append.1 hx with hx | hx
    · refine (HEX12.out.ok x hx).mono (memFr_mono hu13 fun k hk hf => ⟨fun q => ?_, fun q => hf (.inr q)⟩)
      rcases q with q | q
      · exact hf (.inl q)
      · rcases hob13 with e | e
        · rw [e] at q; exact hf (.inr q)
        · rw [e, World.size_alloc] at q; injection q with q; omega
    · rw [List.mem_singleton.1 hx]; exact xE4_ok⟩
  have hk13 : ∀ k, W1.heap.size ≤ k → k < W12.heap.size → w13.heap[k]? = W12.heap[k]? := fun k h1 h2 => hu13.block k h2 (fun e => by
    injection e with e
    have e : vg = k := e
    omega)
  have hw6 : W1.heap.size ≤ W6.heap.size := HB6.out.size
  have hw8 : W1.heap.size ≤ W8.heap.size := HB8.out.size
  have HE13 := Lib.hid ((hk13 _ hw6 (hlt HE12.out)).trans HE12.out)
  have HX13 := Lib.hid ((hk13 _ hw8 (hlt HX12.out)).trans HX12.out)
  have hwv : w.heap.size ≤ vg := (HEX1.out.row.ge vg rfl).1
  have HB13 : Hid (Below w.heap.size w w13) := Lib.hid ((HB1.out.trans (HB12.out.mono HB1.out.size)).trans (hu13.below (fun k e => by
    injection e with e
    have e : vg = k := e
    omega) hw12))
  clear hu13 hk13 hr13 hg13 hob13
  have cF := Lib.hid (Fold_any (HEX13.out.row.es HEX13.out.see) (by show 4 ≤ 20000; omega) (fun x hx => by
    rcases List.mem_append.1 hx with hx | hx
    · exact xEs_good _ x hx
    · rw [List.mem_singleton.1 hx]; exact x_fgood _ (.inr (.inr (.inr rfl)))) w13 (Sees.self w13) (cells_lt w13))
  refine cF.out.mono ?_
  intro e W14 hp
  obtain ⟨sv3, tv3, s3, rfl, hF⟩ := Folded.of hp
  have hz := x_down hF.is
  obtain ⟨sv3', tv3', e3, hsv, htv⟩ := hF.st
  injection e3 with e3
  obtain rfl : sv3 = sv3' := by have := congrArg (fun x => x[0]?) e3; simpa using this
  obtain rfl : tv3 = tv3' := by have := congrArg (fun x => x[1]?) e3; simpa using this
  clear e3
  rw [hz] at hsv
  obtain ⟨a3, c3, b3, o3, rfl, hc31, hc32, ha3, hat3⟩ := SlM.open_ hsv
  obtain ⟨ta3, tc3, rfl⟩ := SlM.slice htv
  obtain rfl := ha3 (by show 0 < 1; omega)
  obtain ⟨_, tv4, ev4, cv4, hcells, hP4⟩ := hat3 0 (by show 0 < 1; omega)
  obtain ⟨t41, t42, e41, e42, c41, c42, rfl, rfl, rfl⟩ := hP4.shape
  rw [Nat.zero_mul, Nat.add_zero] at hcells
  have hcl := cells_see (sz := 8) (memFr_sees W14 _) hcells rfl
  have HCL := Lib.hid hcl
  have HB14 : Hid (Below w13.heap.size w13 W14) := Lib.hid hF.bel
  have HE14 := Lib.hid ((hF.bel.block _ (hlt HE13.out)).trans HE13.out)
  have HX14 := Lib.hid ((hF.bel.block _ (hlt HX13.out)).trans HX13.out)
  rw [show ([⟨2, str0, [], [], 2, [], false, true⟩] : List StyF).length = 1 from rfl] at *
  clear hp hF hz hsv htv hat3 hcells hP4 hcl cF ha3
  generalize s3.tpls.length = n3 at *
  go_upto_region 11 with ((with_reducible refine at_sstore 27 _ _ rfl ?_); go_must (refine wpList_snew rfl S_state _ _ rfl rfl _ _ #[.slice (some ⟨b3, o3, none⟩) 1 c3, .slice ta3 n3 tc3] (by simp [Act.eval]) (by simp [Act.eval]) rfl rfl (by simp [Value.oneCell']) ?_))
  obtain ⟨W15, hW15⟩ : ∃ W15, W15 = W14.alloc (.cells #[.slice (some ⟨b3, o3, none⟩) 1 c3, .slice ta3 n3 tc3] 27) := ⟨_, rfl⟩
  rw [← hW15]
  have hb15 : Below W14.heap.size W14 W15 := by rw [hW15]; exact bel1 _ _
  have hn15 : W15.heap[W14.heap.size]? = some (.cells #[.slice (some ⟨b3, o3, none⟩) 1 c3, .slice ta3 n3 tc3] 27 (0, 0)) := by rw [hW15]; exact World.alloc_heap_new _ _
  have p0 : W15.cell? ⟨W14.heap.size, 0, none⟩ = some (.slice (some ⟨b3, o3, none⟩) 1 c3) := rowcell hn15
  have p1 : W15.cell? ⟨W6.heap.size, 4, none⟩ = some (.int .i64 3) := rowcell ((hb15.block _ (hlt HE14.out)).trans HE14.out)
  have p2 : W15.cell? ⟨W6.heap.size, 1, none⟩ = some (.int .i64 1) := rowcell ((hb15.block _ (hlt HE14.out)).trans HE14.out)
  have p3 : W15.cell? ⟨W8.heap.size, 4, none⟩ = some (.int .i64 2) := rowcell ((hb15.block _ (hlt HX14.out)).trans HX14.out)
  have p4 : W15.cell? ⟨W8.heap.size, 5, none⟩ = some (.slice xca 1 xcc) := rowcell ((hb15.block _ (hlt HX14.out)).trans HX14.out)
  have p5 : W15.cell? ⟨b3, o3 + 7, none⟩ = some (.bool true) := sees_bel hb15 _ _ (HCL.out 7 (by omega))
  have p6 : W15.cell? ⟨b3, o3 + 3, none⟩ = some (.slice e41 0 e42) := sees_bel hb15 _ _ (HCL.out 3 (by omega))
  have HB15 : Hid (Below w.heap.size w W15) := Lib.hid (HB13.out.trans ((HB14.out.trans (hb15.mono HB14.out.size)).mono HB13.out.size))
  have ht1 := x_text_eq
  have ht2 := x_body_eq
  have ht3 := x_rem_eq
  clear hW15 hb15 hn15
  go_wp2_with fail
  go_ret
  exact ⟨rfl, HB15.out⟩
end Go.Proofs.YtdkkhmjlamkgdaaGreatDoor
namespace Go.Proofs.YtdkkhmjlamkgdaaGreatDoor.Mg

def cutT (t : ByteArray) : ByteArray := t.extract 0 (min (t.size : Int) 300).toNat
def shortB (b : Blk) : Blk := { b with text := cutT b.text, lab := { b.lab with after := b.lab.after.take 64 } }
def shortF (f : Fct) : Fct := { f with text := cutT f.text, topics := f.topics.take 10, blocks := (f.blocks.take 10).map shortB }
def shortL7 (l : List Fct) : List Fct := (l.take 40).map shortF
theorem cutT_size (t : ByteArray) : (cutT t).size ≤ 300 ∧ (cutT t).size ≤ t.size := by
  unfold cutT
  rw [ByteArray.size_extract]
  omega
theorem shortB_GB (l : List Blk) : GB ((l.take 10).map shortB) := by
  refine ⟨by rw [List.length_map, List.length_take]; omega, fun x hx => ?_⟩
  obtain ⟨y, _, rfl⟩ := List.mem_map.1 hx
  refine ⟨by have := (cutT_size y.text).1; show (cutT y.text).size ≤ _; omega, ?_⟩
  show (y.lab.after.take 64).length ≤ _
  rw [List.length_take]; omega
theorem shortF_good (f : Fct) : FGood (shortF f) :=
  ⟨shortB_GB _, by have := (cutT_size f.text).1; show (cutT f.text).size ≤ _; omega, by show (f.topics.take 10).length ≤ _; rw [List.length_take]; omega⟩
theorem shortL7_good (l : List Fct) : ∀ f ∈ shortL7 l, FGood f := fun f hf => by
  obtain ⟨y, _, rfl⟩ := List.mem_map.1 hf
  exact shortF_good y
theorem shortL7_len (l : List Fct) : (shortL7 l).length ≤ 40 := by
  unfold shortL7
  rw [List.length_map, List.length_take]; omega
end Go.Proofs.YtdkkhmjlamkgdaaGreatDoor.Mg
namespace Go.Proofs.YtdkkhmjlamkgdaaGreatDoor
open Go.RowKit Mg Go.Shelf Go.Maps

section
variable {P : Program} {t e : TypeId} {z : Value} {sz bytes : Nat} {w : World} {ops : Array Oper} {rest : List Oper} {o : Oper} {a : Act} {Q : Exit → Act → World → Prop}
theorem wpList_empty_slice (hgd : o.guard = none) (T : ElemT P t e z sz bytes) (parts : Array (Nat × Operand)) (ho : o.op = .buildSlice t 0 parts) (hp : parts = #[])
    (hK : wpList P ops Q rest (a.put o.dst (.slice (some ⟨w.heap.size, 0, none⟩) 0 0)) (w.alloc (.cells #[] e))) : wpList P ops Q (o :: rest) a w :=
  wpList_plain hgd fun _ hK' => by
    obtain ⟨i0, hi0, hz0, hz1, hz2⟩ := info_parts T.inf
    subst hp
    have hr : (Instr.buildSlice t 0 #[]).run P w = .ok (.slice (some ⟨w.heap.size, 0, none⟩) 0 0) (w.alloc (.cells #[] e)) := by
      simp [Instr.buildSlice, run_underlying T.und, sizeOf, typeInfo, hi0, Instr.fill, newRow]
      rw [show Array.range 0 = #[] from by simp [Array.range]]
      simp
    unfold Oper.wp execOp
    simp only [ho, List.map_toArray, List.map_nil, Sem.run_bind, hr, Result.andThen_ok]
    exact hK' _ _ hK
theorem GRow.empty (w : World) (B : Nat) (hB : B ≤ w.heap.size) (_hz : 0 < sz) : GRow (w.alloc (.cells #[] e)) B e sz (.slice (some ⟨w.heap.size, 0, none⟩) 0 0) [] :=
  ⟨⟨by simp, .inr ⟨w.heap.size, 0, #[], rfl, hB, World.alloc_heap_new _ _, Nat.le_refl _, Nat.zero_le _, by simp, by simp⟩⟩, by simp⟩
end
theorem addr_add0 (p : Addr) : p.add 0 = p := by unfold Addr.add; rw [if_pos rfl]
theorem run_cut {P : Program} {t e : TypeId} {z : Value} {sz bytes : Nat} (T : ElemT P t e z sz bytes) (ht : P.underlying t = some (.slice (P.elem t))) (a : Option Addr) (len cap : Nat) (h : Int) (h0 : 0 ≤ h) (h2 : h ≤ cap) (w : World) : (Instr.slice t (.slice a len cap) none (some (.int .i64 h)) none).run P w = .ok (.slice a h.toNat cap) w := by
  obtain ⟨i0, hi0, hz0, hz1, hz2⟩ := info_parts T.inf
  have he : P.elem t = e := by
    have := T.und
    rw [ht] at this
    injection this with this
    injection this
  rw [run_slice_h w t a len cap ht .i64 h h0 h2, he]
  have : (if cap = 0 then a else a.map (·.add (0 * i0.size))) = a := by
    split
    · rfl
    · rw [Nat.zero_mul]
      cases a with
      | none => rfl
      | some p => exact congrArg some (addr_add0 p)
  simp [sizeOf, typeInfo, hi0, sliced]
  simpa using this
theorem StrsM.take {mem : Addr → Option Value} {ao : Option Addr} {cap : Nat} {l : List ByteArray} (h : StrsM mem (.slice ao l.length cap) l) (k : Nat) (hk : k ≤ l.length) : StrsM mem (.slice ao k cap) (l.take k) := by
  obtain ⟨b, o, ⟨h1, ao', cap', e, h2, h3, h4⟩, h5, h6⟩ := h
  injection e with e1 _ e3
  subst e1 e3
  have hl : (l.take k).length = k := by rw [List.length_take]; omega
  refine ⟨b, o, ⟨by omega, ao, cap, by rw [hl], by omega, h3, fun hp => h4 (by omega)⟩, fun s hs => h5 s (List.mem_of_mem_take hs), fun j hj => ?_⟩
  rw [List.getElem_take]
  exact h6 j (by omega)
theorem IntsM.take {mem : Addr → Option Value} {ao : Option Addr} {cap : Nat} {l : List Int} (h : IntsM mem (.slice ao l.length cap) l) (k : Nat) (hk : k ≤ l.length) : IntsM mem (.slice ao k cap) (l.take k) := by
  obtain ⟨b, o, ⟨h1, ao', cap', e, h2, h3, h4⟩, h6⟩ := h
  injection e with e1 _ e3
  subst e1 e3
  have hl : (l.take k).length = k := by rw [List.length_take]; omega
  refine ⟨b, o, ⟨by omega, ao, cap, by rw [hl], by omega, h3, fun hp => h4 (by omega)⟩, fun j hj => ?_⟩
  rw [List.getElem_take]
  exact h6 j (by omega)
theorem E_int : ElemT Tryz.prog 46 3 (.int .i64 0) 1 8 := ⟨Tryz.underlying46, by kernel_rfl, rfl, by decide, by decide, by decide⟩
section
variable {ops : Array Oper} {rest : List Oper} {o : Oper} {a : Act} {w : World} {Q : Exit → Act → World → Prop} {mem : Addr → Option Value}
theorem wpList_app_after2 (hgd : o.guard = none) (s x : Operand) (ho : o.op = .call { callee := .builtin .append, args := #[s, x], argTypes := #[46, 46] })
    (g : Nat) (hs : a.eval s = .slice (some ⟨g, 0, none⟩) 0 0) (hg : w.heap[g]? = some (.cells #[] 3 (0, 0))) (ao : Option Addr) (cap : Nat) (l : List Int) (hx : a.eval x = .slice ao l.length cap) (hi : IntsM mem (.slice ao l.length cap) l) (hsee : Sees mem w) (hlen : l.length * 8 ≤ 140737488351232)
    (h : ∀ v' w', IRow w' g v' l → w.grownBy w' (some g) → wpList Tryz.prog ops Q rest (a.put o.dst v') w') : wpList Tryz.prog ops Q (o :: rest) a w := by
  obtain ⟨i0, hi0, hz0, hz1, hz2⟩ := info_parts int_info
  have hlt : g < w.heap.size := (Array.getElem?_eq_some_iff.1 hg).1
  have hown : w.ownsRow g 3 1 (.slice (some ⟨g, 0, none⟩) 0 0) 0 [] := ⟨rfl, .inr ⟨g, 0, #[], rfl, Nat.le_refl _, hg, Nat.le_refl _, Nat.zero_le _, rfl, rfl⟩⟩
  refine wpList_append_any w hgd s x 46 ho g 3 i0 (.int .i64 0) 1 8 Tryz.underlying46 hi0 hz0 hz1 hz2 rfl (by decide) _ 0 [] hs hown w.heap.size ao l.length cap (l.map encI) hx (reads_ints hi hsee) (one_cell l) (by unfold maxLen; omega) (by omega) (by omega) ?_
  intro v' w' h1 h2 _
  refine h v' w' ?_ h2
  unfold IRow
  simpa using h1
end
theorem take_min' {α : Type} (l : List α) (k : Nat) : l.take (min l.length k) = l.take k := by
  rcases Nat.le_total l.length k with h | h
  · rw [Nat.min_eq_left h, List.take_length, List.take_of_length_le h]
  · rw [Nat.min_eq_right h]
theorem topics_ready {w6 w7 : World} {g : Nat} {cs0 : Array Value} {T : TypeId} {v7 : Value} {l : List ByteArray} (hx : w6.heap[g]? = some (.cells cs0 T (0, 0))) (hr : GRow w7 w6.heap.size 9 1 v7 (l.map fun x => (#[.string x] : Array Value))) (hl : ∀ s ∈ l, s.size ≤ maxLen) {o : Obj} (hg : (w6.alloc o).grownBy w7 (some w6.heap.size)) :
    w7.heap[g]? = some (.cells cs0 T (0, 0)) ∧ Below w6.heap.size w6 w7 ∧ StrsM (memFr w7 (fun k => k < w6.heap.size)) v7 l := by
  have hb : Below w6.heap.size w6 w7 := (bel1 w6 o).grown hg (by rw [World.size_alloc]; omega) (fun k e => by injection e with e; omega)
  refine ⟨(hb.block g (Go.Proofs.YtdkkhmjlamkgdaaGreatDoor.hlt hx)).trans hx, hb, lrow_strs hr hl (fun k hk q => ?_)⟩
  have := (hr.ge k hk).1
  omega
def ShortPost (l : List Fct) (w : World) (e : Ending) (w' : World) : Prop := ∃ r fs, e = .returned r ∧ FRow w' w.heap.size r fs ∧ fs.map FctE.f = shortL7 l ∧ (∀ x ∈ fs, x.ok (memNo w' (fun k => r.ownBlock = some k))) ∧ Below w.heap.size w w'
noncomputable def memSh (mem : Addr → Option Value) (N : Nat) (W : World) (F : Nat → Prop) (a : Addr) : Option Value := if a.block < N then mem a else memNo W F a
theorem memSh_low {mem : Addr → Option Value} {N : Nat} {W : World} {F : Nat → Prop} {a : Addr} {u : Value} (h : mem a = some u) (hl : a.block < N) : memSh mem N W F a = some u := by
  unfold memSh; rw [if_pos hl]; exact h
theorem memSh_new {mem : Addr → Option Value} {N : Nat} {W : World} {F : Nat → Prop} {a : Addr} {u : Value} (h : memNo W F a = some u) (hl : N ≤ a.block) : memSh mem N W F a = some u := by
  unfold memSh; rw [if_neg (by omega)]; exact h
theorem memSh_cases {mem : Addr → Option Value} {N : Nat} {W : World} {F : Nat → Prop} {a : Addr} {u : Value} (h : memSh mem N W F a = some u) : (a.block < N ∧ mem a = some u) ∨ (N ≤ a.block ∧ memNo W F a = some u) := by
  unfold memSh at h
  split at h
  · next e => exact .inl ⟨e, h⟩
  · next e => exact .inr ⟨by omega, h⟩
def ShortPost2 (mem : Addr → Option Value) (l : List Fct) (w : World) (e : Ending) (w' : World) : Prop := ∃ r fs, e = .returned r ∧ FRow w' w.heap.size r fs ∧ fs.map FctE.f = shortL7 l ∧ (∀ x ∈ fs, x.ok (memSh mem w.heap.size w' (fun k => r.ownBlock = some k))) ∧ Below w.heap.size w w'
structure ShI (mem : Addr → Option Value) (w : World) (es : List FctE) (k : Nat) (r : Value) (wr : World) : Prop where
  bel : Below w.heap.size w wr
  row : ∃ fs, FRow wr w.heap.size r fs ∧ fs.map FctE.f = ((es.take k).map FctE.f).map shortF ∧ fs.length = k ∧ ∀ x ∈ fs, x.ok (memSh mem w.heap.size wr (fun k => r.ownBlock = some k))
structure ShJ (w : World) (l : List Blk) (k : Nat) (r : Value) (wr : World) : Prop where
  bel : Below w.heap.size w wr
  row : BRow wr w.heap.size r ((l.take k).map shortB)
theorem shortF_fok {f : Fct} (h : FOK f) : FOK (shortF f) := { h with
  s18 := Nat.le_trans (cutT_size f.text).2 h.s18
  bl := fun x hx => by
    obtain ⟨y, hy, rfl⟩ := List.mem_map.1 hx
    have h1 := h.bl y (List.mem_of_mem_take hy)
    exact ⟨Nat.le_trans (cutT_size y.text).2 h1.1, h1.2⟩ }
theorem ShI.snoc {mem : Addr → Option Value} {w wo W16 w' : World} {es : List FctE} {k : Nat} {r v' : Value} {xe : FctE} {fs : List FctE} (hs : Sees mem w) (hbel : Below w.heap.size w wo) (hrow : FRow wo w.heap.size r fs) (hok : ∀ x ∈ fs, x.ok (memSh mem w.heap.size wo (fun k => r.ownBlock = some k))) (hb : Below wo.heap.size wo W16)
    (hr' : FRow w' w.heap.size v' (fs ++ [xe])) (hg : W16.grownBy w' r.ownBlock) (hob : v'.ownBlock = r.ownBlock ∨ v'.ownBlock = some W16.heap.size) (hx : FOK xe.f) (hT : StrsM (memFr W16 (fun k => k ≤ wo.heap.size)) xe.tv xe.f.topics) (hB : BlksM (memFr W16 (fun k => k ≤ wo.heap.size)) xe.bv xe.f.blocks) (hA : IntsM mem xe.av xe.f.lab.after)
    (hm : (fs ++ [xe]).map FctE.f = ((es.take (k + 1)).map FctE.f).map shortF) (hl : fs.length = k) : ShI mem w es (k + 1) v' w' := by
  have hge := hrow.ge
  have hsz := hb.size
  have hm1 : ∀ a u, memFr W16 (fun k => k ≤ wo.heap.size) a = some u → memSh mem w.heap.size w' (fun k => v'.ownBlock = some k) a = some u := fun a u e => by
    obtain ⟨h1, h2, _⟩ := memFr_lt a u e
    have h3 := memFr_sees W16 _ a u e
    have hne : r.ownBlock ≠ some a.block := fun q => by have := (hge _ q).2; omega
    have hwo := hbel.size
    refine memSh_new (memNo_of ((World.cell?_of_block (hg.block a.block h1 (fun q => hne q.symm))).trans h3) (fun q => ?_)) (by omega)
    rcases hob with e | e
    · exact hne (e ▸ q)
    · rw [e] at q; injection q with q; omega
  have hb1 : Below w.heap.size w w' := (hbel.trans (hb.mono hbel.size)).grown hg (Nat.le_trans hbel.size hsz) (fun k e => (hge k e).1)
  have hm2 : ∀ a u, mem a = some u → memSh mem w.heap.size w' (fun k => v'.ownBlock = some k) a = some u := fun a u e => memSh_low e (World.block_lt_of_cell? w a (hs a u e))
  have hm3 : ∀ a u, memSh mem w.heap.size wo (fun k => r.ownBlock = some k) a = some u → memSh mem w.heap.size w' (fun k => v'.ownBlock = some k) a = some u := fun a u e => by
    rcases memSh_cases e with ⟨q1, q2⟩ | ⟨q1, q2⟩
    · exact memSh_low q2 q1
    · obtain ⟨h1, h2⟩ := memNo_get q2
      have h3 := World.block_lt_of_cell? wo a h1
      have h4 := (World.cell?_of_block (w := wo) (hb.block a.block h3)).trans h1
      refine memSh_new (memNo_of ((World.cell?_of_block (hg.block a.block (by omega) (fun q => h2 q.symm))).trans h4) (fun q => ?_)) q1
      rcases hob with e | e
      · exact h2 (e ▸ q)
      · rw [e] at q; injection q with q; omega
  refine ⟨hb1, fs ++ [xe], hr', hm, by rw [List.length_append, hl]; rfl, fun x hx' => ?_⟩
  rcases List.mem_append.1 hx' with h | h
  · exact (hok x h).mono hm3
  · rw [List.mem_singleton.1 h]
    exact ⟨hx, hT.mono hm1, hB.mono hm1, hA.mono hm2⟩
set_option maxRecDepth 100000 in
set_option maxHeartbeats 16000000 in
theorem short_any2 {mem : Addr → Option Value} {v : Value} {es : List FctE} (h : EsM mem v es) (w : World) (hs : Sees mem w) :
    Calls Tryz.prog 18 #[v] w (ShortPost2 mem (es.map FctE.f) w) := by
  obtain ⟨va, vc, vb, vo, rfl, hvm, hva, hve⟩ := h.open_
  have HVA := Lib.hid hva
  have HVE := Lib.hid hve
  have HS := Lib.hid hs
  have HI0 : Hid (ShI mem w es 0 (.slice none 0 0) w) := Lib.hid ⟨Below.refl _ _, [], FRow.nil _ _, by rw [List.take_zero]; rfl, rfl, by intro x hx; cases hx⟩
  have hel : es.length ≤ 9223372036854775807 := by unfold maxLen at hvm; omega
  clear h hva hve hs
  go_enter Tryz.func18, Tryz.ntmps18
  go_wp2_with fail
  go_loopw [4, 3] (fun i r wr => ∃ k : Nat, k ≤ es.length ∧ k ≤ 40 ∧ i = .int .i64 k ∧ (∃ ra rn rc, r = .slice ra rn rc) ∧ Hid (ShI mem w es k r wr)) (fun i _ _ => 40 - (intOf i).toNat)
  case atStart => exact ⟨0, Nat.zero_le _, by omega, rfl, ⟨_, _, _, rfl⟩, HI0⟩
  case round =>
    obtain ⟨k, hk, hk40, rfl, ⟨ra, rn, rc, rfl⟩, HI⟩ := hrel
    by_cases hlt : k < es.length
    · by_cases hlt2 : k < 40
      · obtain rfl := HVA.out (by omega)
        obtain ⟨hxo, hxa⟩ := HVE.out k hlt
        have HSW := Lib.hid (HS.out.bel HI.out.bel)
        have HAT : Hid (es[k].at (fun p => wr.cell? p) vb (vo + k * 23)) := Lib.hid (fun j u hj => HSW.out _ _ (hxa j u hj))
        have HXO := Lib.hid hxo
        have HTK : Hid (((es.take (k + 1)).map FctE.f).map shortF = ((es.take k).map FctE.f).map shortF ++ [shortF es[k].f]) := Lib.hid (by rw [List.take_succ_eq_append_getElem hlt, List.map_append, List.map_append]; rfl)
        have HSZ : Hid (es[k].cells.size = 23) := Lib.hid rfl
        have HON := Lib.hid (es[k].one)
        clear hxo hxa
        generalize es[k] = x at *
        go_upto_region 6 with (first
          | ((with_reducible refine at_fload _ rfl ?_); go_must (refine wpList_fct_mid rfl _ rfl (by simp [Act.eval]) HAT.out ?_))
          | ((with_reducible refine at_fstore _ _ rfl ?_); go_must (refine wpList_fct_new rfl _ _ rfl rfl _ _ _ (by simp [Act.eval]) (by simp [Act.eval]) (by rfl) HSZ.out HON.out ?_)))
        obtain ⟨W5, hW5⟩ : ∃ W5, W5 = wr.alloc (.cells x.cells 50) := ⟨_, rfl⟩
        rw [← hW5]
        have hb5 : Below wr.heap.size wr W5 := by rw [hW5]; exact bel1 wr _
        have hx5 : W5.heap[wr.heap.size]? = some (.cells (fctCells x.f x.tv x.bv x.av) 50 (0, 0)) := by rw [hW5, ← FctE.cells_eq]; exact World.alloc_heap_new wr _
        have c18 : W5.cell? ⟨wr.heap.size, 18, none⟩ = some (.string x.f.text) := rowcell hx5
        have z18 : W5.frozen? ⟨wr.heap.size, 18, none⟩ = false := rowfree hx5
        have htx := HXO.out.fok.s18
        have HX5 := Lib.hid hx5
        have HB5 := Lib.hid hb5
        clear hW5 hb5 hx5
        go_upto_region 7 with fail
        rw [show x.f.text.extract 0 (min (x.f.text.size : Int) 300).toNat = cutT x.f.text from rfl]
        have HX6 := Lib.hid (blk_set (j := 18) (u := .string (cutT x.f.text)) HX5.out)
        have hb6 : Below wr.heap.size wr (W5.setCell ⟨wr.heap.size, 18, none⟩ (.string (cutT x.f.text))) := HB5.out.setCell (Nat.le_refl _) _
        obtain ⟨W6, hW6⟩ : ∃ W6, W6 = W5.setCell ⟨wr.heap.size, 18, none⟩ (.string (cutT x.f.text)) := ⟨_, rfl⟩
        rw [← hW6] at HX6 hb6 ⊢
        have HB6 := Lib.hid hb6
        have k9 : W6.cell? ⟨wr.heap.size, 9, none⟩ = some (.slice x.ta x.f.topics.length x.tc) := rowcell HX6.out
        obtain ⟨hp1, hp2, hp3⟩ := HXO.out.parts
        have htm : x.tc ≤ 9223372036854775807 := by
          obtain ⟨_, _, _, _, ht0, ht1, ht2, _⟩ := hp1.open_ HSW.out
          injection ht0 with _ _ ht0
          subst ht0
          unfold maxLen at ht2
          exact ht2
        have hcl : x.f.topics.length ≤ x.tc := by
          obtain ⟨_, _, ⟨_, _, _, e, h2, h3, _⟩, _⟩ := hp1
          injection e with _ _ e
          omega
        have HP1 := Lib.hid (hp1.take (min x.f.topics.length 10) (Nat.min_le_left _ _))
        have HPS : Hid (∀ s ∈ x.f.topics.take (min x.f.topics.length 10), s.size ≤ maxLen) := Lib.hid (fun s hs => by
          obtain ⟨_, _, _, h5, _⟩ := HP1.out
          exact h5 s hs)
        obtain ⟨ya, yc, yb, yo, hyv, hy1, hy2, hyo, hyat⟩ := hp2.open_
        injection hyv with hyv1 _ hyv3
        subst hyv1 hyv3
        have HYO := Lib.hid hyo
        have HYA := Lib.hid hyat
        clear hyo hyat
        have HP3 := Lib.hid hp3
        have HSX := Lib.hid (HSW.out.bel hb6)
        have HTL : Hid (∀ W, Below W6.heap.size W6 W → Reads W W.heap.size 1 x.ta ((x.f.topics.take (min x.f.topics.length 10)).map fun x => (#[.string x] : Array Value)).length (((x.f.topics.take (min x.f.topics.length 10)).map fun x => (#[.string x] : Array Value)).flatMap Array.toList)) := Lib.hid (fun W hW => by
          have hl : (x.f.topics.take (min x.f.topics.length 10)).length = min x.f.topics.length 10 := by rw [List.length_take]; omega
          have h1 := HP1.out
          rw [← hl] at h1
          exact reads_topics (by rw [hl] at h1 ⊢; exact h1) (HSX.out.bel hW))
        have hT6 : wr.heap.size < W6.heap.size := Go.Proofs.YtdkkhmjlamkgdaaGreatDoor.hlt HX6.out
        have hmin : (min (x.f.topics.length : Int) 10).toNat = min x.f.topics.length 10 := by omega
        have hlen10 : ((x.f.topics.take (min x.f.topics.length 10)).map fun x => (#[.string x] : Array Value)).length = min x.f.topics.length 10 := by rw [List.length_map, List.length_take]; omega
        have hcut := fun W => run_cut E_str Tryz.underlying30 x.ta x.f.topics.length x.tc (min (x.f.topics.length : Int) 10) (by omega) (by omega) W
        rw [hmin] at hcut
        clear hW6 hb6 c18 z18 htx hp1 hp2 hp3
        go_upto_region 8 with (first
          | ((with_reducible refine at_sslice 30 _ _ rfl ?_); go_must (refine wpList_empty_slice rfl E_str _ rfl rfl ?_))
          | ((with_reducible refine at_sappend _ _ 30 rfl ?_); go_must (refine wpList_app_row rfl E_str _ _ rfl (by simp [Act.eval]) (GRow.empty W6 W6.heap.size (Nat.le_refl _) (by decide)) x.ta x.tc ((x.f.topics.take (min x.f.topics.length 10)).map fun x => (#[.string x] : Array Value)) (strs_one _) (by rw [hlen10]; simp [Act.eval]) (HTL.out _ (bel1 _ _)) (by rw [hlen10, List.length_nil]; omega) (by rw [World.size_alloc]; exact Nat.le_succ _) ?_); intro v7 w7 hr7 hg7 hob7; rw [List.nil_append] at hr7; have hs7 := hr7.shape; rw [hlen10] at hs7; obtain ⟨a7, c7, rfl⟩ := hs7; obtain ⟨hx7, hb7, ht7⟩ := topics_ready HX6.out hr7 HPS.out hg7; have y9 : w7.cell? ⟨wr.heap.size, 9, none⟩ = some (.slice x.ta x.f.topics.length x.tc) := rowcell hx7; have z9 : w7.frozen? ⟨wr.heap.size, 9, none⟩ = false := rowfree hx7; have HX7 := Lib.hid hx7; have HB7 := Lib.hid hb7; have HT7 := Lib.hid ht7; clear hx7 hb7 ht7 hr7 hg7 hob7))
        have HX8 := Lib.hid (blk_set (j := 9) (u := .slice a7 (min x.f.topics.length 10) c7) HX7.out)
        have hb8 : Below wr.heap.size wr (w7.setCell ⟨wr.heap.size, 9, none⟩ (.slice a7 (min x.f.topics.length 10) c7)) := (HB6.out.trans (HB7.out.mono (by omega))).setCell (Nat.le_refl _) _
        have HT8 := Lib.hid (HT7.out.mono (memFr_mono (upd_cell w7 wr.heap.size 9 (.slice a7 (min x.f.topics.length 10) c7)) (fun k hk hf => ⟨hf, fun q => hf (by omega)⟩)))
        obtain ⟨W8, hW8⟩ : ∃ W8, W8 = w7.setCell ⟨wr.heap.size, 9, none⟩ (.slice a7 (min x.f.topics.length 10) c7) := ⟨_, rfl⟩
        rw [← hW8] at HX8 hb8 HT8 ⊢
        have HB8 := Lib.hid hb8
        clear hW8 hb8 y9 z9 k9
        have HJ0 : Hid (ShJ W8 x.f.blocks 0 (.slice none 0 0) W8) := Lib.hid ⟨Below.refl _ _, by rw [List.take_zero]; exact BRow.nil _ _⟩
        obtain ⟨wo, rfl⟩ : ∃ wo, wo = wr := ⟨_, rfl⟩
        go_wp2_with fail
        go_loopw [7, 6] (fun i r wq => ∃ m : Nat, m ≤ x.f.blocks.length ∧ m ≤ 10 ∧ i = .int .i64 m ∧ (∃ ra rn rc, r = .slice ra rn rc) ∧ Hid (ShJ W8 x.f.blocks m r wq)) (fun i _ _ => 10 - (intOf i).toNat)
        case atStart => exact ⟨0, Nat.zero_le _, by omega, rfl, ⟨_, _, _, rfl⟩, HJ0⟩
        case round =>
          obtain ⟨m, hm, hm10, rfl, ⟨sa, sn, sc, rfl⟩, HJ⟩ := hrel
          have HBQ := Lib.hid (HB8.out.trans (HJ.out.bel.mono HB8.out.size))
          have HX9 := Lib.hid ((HJ.out.bel.block _ (Go.Proofs.YtdkkhmjlamkgdaaGreatDoor.hlt HX8.out)).trans HX8.out)
          have k10 : wr.cell? ⟨wo.heap.size, 10, none⟩ = some (.slice x.ba x.f.blocks.length x.bc) := rowcell HX9.out
          by_cases hlm : m < x.f.blocks.length
          · by_cases hl10 : m < 10
            · rw [HYO.out (by omega)] at k10
              have HSQ := Lib.hid (HSW.out.bel HBQ.out)
              obtain ⟨⟨g1, g2, g3⟩, na, nc, hi9, hc9⟩ := (HYA.out m hlm).nine HSQ.out
              have HC9 := Lib.hid (cells9_see hc9)
              have HI9 := Lib.hid (hi9.take (min x.f.blocks[m].lab.after.length 64) (Nat.min_le_left _ _))
              have HR9 := Lib.hid HJ.out.row
              have HBJ := Lib.hid HJ.out.bel
              have HTM : Hid ((x.f.blocks.take (m + 1)).map shortB = (x.f.blocks.take m).map shortB ++ [shortB x.f.blocks[m]]) := Lib.hid (by rw [List.take_succ_eq_append_getElem hlm, List.map_append]; rfl)
              have hLl : ((x.f.blocks.take m).map shortB).length ≤ 100000 := by rw [List.length_map, List.length_take]; omega
              have hbl : x.f.blocks.length ≤ 9223372036854775807 := by unfold maxLen at hy2; omega
              have hncm : x.f.blocks[m].lab.after.length ≤ nc ∧ nc ≤ 9223372036854775807 := by
                obtain ⟨_, _, ⟨_, _, _, e, h2, h3, _⟩, _⟩ := hi9
                injection e with _ _ e
                unfold maxLen at h3
                omega
              clear hi9 hc9
              generalize x.f.blocks[m] = y at *
              generalize hLk : (x.f.blocks.take m).map shortB = Lk at *
              go_upto_region 13 with (first
                | ((with_reducible refine at_sload 58 _ rfl ?_); go_must (refine wpList_smid rfl S_blk _ rfl (by simp [Act.eval]) (blkCells y (.slice na y.lab.after.length nc)) rfl HC9.out ?_))
                | ((with_reducible refine at_sstore 58 _ _ rfl ?_); go_must (refine wpList_snew rfl S_blk _ _ rfl rfl _ _ (blkCells y (.slice na y.lab.after.length nc)) (by simp [Act.eval]) (by simp [Act.eval]) rfl rfl (by simp [Value.oneCell']) ?_)))
              obtain ⟨W9, hW9⟩ : ∃ W9, W9 = wr.alloc (.cells (blkCells y (.slice na y.lab.after.length nc)) 58) := ⟨_, rfl⟩
              rw [← hW9]
              have hb9 : Below wr.heap.size wr W9 := by rw [hW9]; exact bel1 _ _
              have hn9 : W9.heap[wr.heap.size]? = some (.cells (blkCells y (.slice na y.lab.after.length nc)) 58 (0, 0)) := by rw [hW9]; exact World.alloc_heap_new _ _
              have q2 : W9.cell? ⟨wr.heap.size, 2, none⟩ = some (.string y.text) := rowcell hn9
              have z2 : W9.frozen? ⟨wr.heap.size, 2, none⟩ = false := rowfree hn9
              have HN9 := Lib.hid hn9
              have HB9 := Lib.hid hb9
              clear hW9 hb9 hn9
              go_upto_region 14 with fail
              rw [show y.text.extract 0 (min (y.text.size : Int) 300).toNat = cutT y.text from rfl]
              have HN10 := Lib.hid (blk_set (j := 2) (u := .string (cutT y.text)) HN9.out)
              have hb10 : Below wr.heap.size wr (W9.setCell ⟨wr.heap.size, 2, none⟩ (.string (cutT y.text))) := HB9.out.setCell (Nat.le_refl _) _
              obtain ⟨W10, hW10⟩ : ∃ W10, W10 = W9.setCell ⟨wr.heap.size, 2, none⟩ (.string (cutT y.text)) := ⟨_, rfl⟩
              rw [← hW10] at HN10 hb10 ⊢
              have q6 : W10.cell? ⟨wr.heap.size, 6, none⟩ = some (.slice na y.lab.after.length nc) := rowcell HN10.out
              have hT10 : wr.heap.size < W10.heap.size := Go.Proofs.YtdkkhmjlamkgdaaGreatDoor.hlt HN10.out
              have hmin2 : (min (y.lab.after.length : Int) 64).toNat = min y.lab.after.length 64 := by omega
              have hlen64 : (y.lab.after.take 64).length = min y.lab.after.length 64 := by rw [List.length_take]; omega
              have hcut2 := fun W => run_cut E_int Tryz.underlying46 na y.lab.after.length nc (min (y.lab.after.length : Int) 64) (by omega) (by omega) W
              rw [hmin2] at hcut2
              have HI10 : Hid (IntsM mem (.slice na (y.lab.after.take 64).length nc) (y.lab.after.take 64)) := Lib.hid (by
                have h1 := HI9.out
                rw [take_min'] at h1
                rw [hlen64]; exact h1)
              have HSZ10 := Lib.hid (HSQ.out.bel hb10)
              have HB10 := Lib.hid hb10
              clear hW10 hb10 q2 z2
              go_upto_region 15 with (first
                | ((with_reducible refine at_sslice 46 _ _ rfl ?_); go_must (refine wpList_empty_slice rfl E_int _ rfl rfl ?_))
                | ((with_reducible refine at_sappend _ _ 46 rfl ?_); go_must (refine wpList_app_after2 rfl _ _ rfl W10.heap.size (by simp [Act.eval]) (World.alloc_heap_new _ _) na nc (y.lab.after.take 64) (by rw [hlen64]; simp [Act.eval]) HI10.out (HSZ10.out.alloc _) (by rw [hlen64]; omega) ?_); intro v11 w11 hI11 hg11; have hs11 := hI11.shape; rw [hlen64] at hs11; obtain ⟨a11, c11, rfl⟩ := hs11; have hb11 : Below W10.heap.size W10 w11 := (bel1 W10 _).grown hg11 (by rw [World.size_alloc]; omega) (fun k e => by injection e with e; omega); have hx11 := (hb11.block _ hT10).trans HN10.out; have y11 : w11.cell? ⟨wr.heap.size, 6, none⟩ = some (.slice na y.lab.after.length nc) := rowcell hx11; have z11 : w11.frozen? ⟨wr.heap.size, 6, none⟩ = false := rowfree hx11; have HX11 := Lib.hid hx11; have HB11 := Lib.hid hb11; have HI11 := Lib.hid hI11; clear hx11 hb11 hI11 hg11))
              have HX12 : Hid ((w11.setCell ⟨wr.heap.size, 6, none⟩ (.slice a11 (min y.lab.after.length 64) c11)).heap[wr.heap.size]? = some (.cells (blkCells (shortB y) (.slice a11 (shortB y).lab.after.length c11)) 58 (0, 0))) := Lib.hid (by
                rw [show (shortB y).lab.after.length = min y.lab.after.length 64 from hlen64]
                exact blk_set HX11.out)
              have hb12 : Below wr.heap.size wr (w11.setCell ⟨wr.heap.size, 6, none⟩ (.slice a11 (min y.lab.after.length 64) c11)) := (HB10.out.trans (HB11.out.mono (by omega))).setCell (Nat.le_refl _) _
              have hi12 : IntsM (memFr (w11.setCell ⟨wr.heap.size, 6, none⟩ (.slice a11 (min y.lab.after.length 64) c11)) (fun k => k < W8.heap.size ∨ Value.ownBlock (.slice sa sn sc) = some k)) (.slice a11 (shortB y).lab.after.length c11) (shortB y).lab.after := by
                rw [show (shortB y).lab.after.length = min y.lab.after.length 64 from hlen64]
                refine (IRow.kept HI11.out (upd_cell _ _ _ _) (fun k e q => ?_)).intsFr (fun k e q => ?_)
                · have := HI11.out.ge k e
                  omega
                · have h1 := HI11.out.ge k e
                  have h2 := HBJ.out.size
                  rcases q with q | q
                  · omega
                  · have := (HR9.out.ge k q).2
                    omega
              obtain ⟨W12, hW12⟩ : ∃ W12, W12 = w11.setCell ⟨wr.heap.size, 6, none⟩ (.slice a11 (min y.lab.after.length 64) c11) := ⟨_, rfl⟩
              rw [← hW12] at HX12 hb12 hi12 ⊢
              have HB13 : Hid (∀ o, Below wr.heap.size wr (W12.alloc o)) := Lib.hid (fun o => hb12.alloc hb12.size _)
              have HI13 : Hid (∀ o, IntsM (memFr (W12.alloc o) (fun k => k < W8.heap.size ∨ Value.ownBlock (.slice sa sn sc) = some k)) (.slice a11 (shortB y).lab.after.length c11) (shortB y).lab.after) := Lib.hid (fun o => hi12.mono (memFr_below (bel1 W12 o)))
              have HR13 : Hid (∀ o, BRow (W12.alloc o) W8.heap.size (.slice sa sn sc) Lk) := Lib.hid (fun o => by
                have hb := HB13.out o
                exact HR9.out.kept (F := fun k => wr.heap.size ≤ k) ⟨hb.os, hb.tape, hb.output, hb.size, fun k hk hn => hb.block k (by omega)⟩ (fun k h => .inr h))
              have h8w : W8.heap.size ≤ (W12).heap.size := Nat.le_trans HBJ.out.size hb12.size
              clear hW12 hb12 hi12 y11 z11 q6
              go_wp2_with (first
                | ((with_reducible refine at_sload 58 _ rfl ?_); go_must (refine wpList_sload rfl S_blk _ rfl (by simp [Act.eval]) (blkCells (shortB y) (.slice a11 (shortB y).lab.after.length c11)) rfl HX12.out ?_))
                | ((with_reducible refine at_sslice 37 _ _ rfl ?_); go_must (refine wpList_one_slice rfl E_blk _ rfl (.agg (blkCells (shortB y) (.slice a11 (shortB y).lab.after.length c11))) rfl (by simp [Act.eval, Act.put]) ?_))
                | ((with_reducible refine at_sappend _ _ 37 rfl ?_); go_must (refine wpList_app_blk rfl _ _ rfl W8.heap.size _ Lk (by simp [Act.eval, Act.put]) (HR13.out _) (shortB y) a11 c11 (HI13.out _) W12.heap.size 1 (by simp [Act.eval, Act.put]) (World.alloc_heap_new _ _) hLl (by rw [World.size_alloc]; omega) ?_); intro v14 w14 hr14 hg14; have hs14 := hr14.sl; obtain ⟨qa, qn, qc, rfl⟩ := hs14; have HJ14 : Hid (ShJ W8 x.f.blocks (m + 1) (.slice qa qn qc) w14) := Lib.hid ⟨(HBJ.out.trans ((HB13.out _).mono HBJ.out.size)).grown hg14 (by rw [World.size_alloc]; omega) (fun k e => (HR9.out.ge k e).1), by rw [HTM.out]; exact hr14⟩; clear hr14 hg14))
              go_roundw
              case rel => exact ⟨m + 1, by omega, by omega, by go_num, ⟨_, _, _, rfl⟩, HJ14⟩
              case measure => (try simp only [intOf]); omega
            · have e' : m = 10 := by omega
              have HE : Hid ((x.f.blocks.take m).map shortB = (x.f.blocks.take 10).map shortB) := Lib.hid (by rw [e'])
              subst e'
              have HRB : Hid (BRow wr W8.heap.size (.slice sa sn sc) (shortF x.f).blocks) := Lib.hid (by
                show BRow wr W8.heap.size (.slice sa sn sc) ((x.f.blocks.take 10).map shortB)
                rw [← HE.out]; exact HJ.out.row)
              have hbs := HRB.out.blks (shortF_fok HXO.out.fok).bl
              have hsn : sn = (shortF x.f).blocks.length := (by obtain ⟨_, _, hse⟩ := hbs.slice; injection hse)
              have hT8 := Go.Proofs.YtdkkhmjlamkgdaaGreatDoor.hlt HX8.out
              have z10 : wr.frozen? ⟨wo.heap.size, 10, none⟩ = false := rowfree HX9.out
              have HBS := Lib.hid hbs
              have HSN := Lib.hid hsn
              obtain ⟨fs, f1, f2, f3, f4⟩ := HI.out.row
              have F1 := Lib.hid f1
              have F2 := Lib.hid f2
              have F4 := Lib.hid f4
              clear hbs hsn f1 f2 f4
              go_upto_region 17 with fail
              obtain ⟨W15, hW15⟩ : ∃ W15, W15 = wr.setCell ⟨wo.heap.size, 10, none⟩ (.slice sa sn sc) := ⟨_, rfl⟩
              rw [← hW15]
              obtain ⟨xe, hxe⟩ : ∃ xe : FctE, xe = ⟨shortF x.f, a7, c7, sa, sc, x.aa, x.ac⟩ := ⟨_, rfl⟩
              have e1 : (shortF x.f).topics.length = min x.f.topics.length 10 := by show (x.f.topics.take 10).length = _; rw [List.length_take]; omega
              have HX15 : Hid (W15.heap[wo.heap.size]? = some (.cells xe.cells 50 (0, 0))) := Lib.hid (by
                rw [hW15, hxe]
                show (wr.setCell ⟨wo.heap.size, 10, none⟩ (.slice sa sn sc)).heap[wo.heap.size]? = some (Obj.cells (fctCells (shortF x.f) (.slice a7 (shortF x.f).topics.length c7) (.slice sa (shortF x.f).blocks.length sc) (.slice x.aa x.f.lab.after.length x.ac)) 50 (0, 0))
                rw [e1, ← HSN.out]
                exact blk_set HX9.out)
              have HB15 : Hid (∀ o, Below wo.heap.size wo (W15.alloc o)) := Lib.hid (fun o => by rw [hW15]; exact ((HBQ.out.setCell (Nat.le_refl _) _).alloc (by rw [World.size_setCell]; exact HBQ.out.size) _))
              have HTT : Hid (∀ o, StrsM (memFr (W15.alloc o) (fun k => k ≤ wo.heap.size)) xe.tv xe.f.topics) := Lib.hid (fun o => by
                rw [hxe]
                show StrsM _ (.slice a7 (shortF x.f).topics.length c7) (x.f.topics.take 10)
                rw [e1, ← take_min']
                refine (HT8.out.mono (memFr_below HJ.out.bel)).mono (fun a u e => memFr_below (bel1 W15 o) a u ?_)
                rw [hW15]
                exact memFr_mono (upd_cell wr wo.heap.size 10 (.slice sa sn sc)) (fun k hk hf => ⟨fun q => hf (by omega), fun q => hf (by omega)⟩) a u e)
              have HBB : Hid (∀ o, BlksM (memFr (W15.alloc o) (fun k => k ≤ wo.heap.size)) xe.bv xe.f.blocks) := Lib.hid (fun o => by
                rw [hxe]
                show BlksM _ (.slice sa (shortF x.f).blocks.length sc) (shortF x.f).blocks
                rw [← HSN.out]
                refine HBS.out.mono (fun a u e => memFr_below (bel1 W15 o) a u ?_)
                rw [hW15]
                exact memFr_mono (upd_cell wr wo.heap.size 10 (.slice sa sn sc)) (fun k hk hf => ⟨fun q => hf (by omega), fun q => hf (by omega)⟩) a u e)
              have HFR : Hid (∀ o, FRow (W15.alloc o) w.heap.size (.slice ra rn rc) fs) := Lib.hid (fun o => by
                have hb := HB15.out o
                exact F1.out.kept (F := fun k => wo.heap.size ≤ k) ⟨hb.os, hb.tape, hb.output, hb.size, fun k hk hn => hb.block k (by omega)⟩ (fun k e q => by have := (F1.out.ge k e).2; omega))
              have hfl : fs.length ≤ 100000 := by omega
              have hw15 : w.heap.size ≤ W15.heap.size := by
                have h1 := HI.out.bel.size
                have h2 := HBQ.out.size
                rw [hW15, World.size_setCell]
                omega
              have HXE := Lib.hid hxe
              clear hxe hW15 k10 z10
              go_wp2_with (first
                | ((with_reducible refine at_fload _ rfl ?_); go_must (refine wpList_fct_load rfl _ rfl wo.heap.size (by simp [Act.eval]) xe.cells HX15.out rfl ?_))
                | ((with_reducible refine at_fslice _ rfl ?_); go_must (refine wpList_fct_slice rfl _ rfl xe (by simp [Act.eval, Act.put]) ?_))
                | ((with_reducible refine at_sappend _ _ 22 rfl ?_); go_must (refine wpList_app_fct rfl _ _ rfl w.heap.size _ fs (by simp [Act.eval, Act.put]) (HFR.out _) xe W15.heap.size 1 (by simp [Act.eval, Act.put]) (World.alloc_heap_new _ _) hfl (by rw [World.size_alloc]; omega) ?_); intro v16 w16 hr16 hg16 hob16; have hs16 := hr16.sl; obtain ⟨qa, qn, qc, rfl⟩ := hs16; have HI16 : Hid (ShI mem w es (k + 1) (.slice qa qn qc) w16) := Lib.hid (ShI.snoc HS.out HI.out.bel F1.out F4.out (HB15.out _) hr16 hg16 hob16 (by rw [HXE.out]; exact shortF_fok HXO.out.fok) (HTT.out _) (HBB.out _) (by rw [HXE.out]; exact HP3.out) (by rw [List.map_append, F2.out, HTK.out, HXE.out]; rfl) f3); clear hr16 hg16 hob16))
              go_roundw
              case rel => exact ⟨k + 1, by omega, by omega, by go_num, ⟨_, _, _, rfl⟩, HI16⟩
              case measure => (try simp only [intOf]); omega
          · have e' : m = x.f.blocks.length := by omega
            have HE : Hid ((x.f.blocks.take m).map shortB = (x.f.blocks.take 10).map shortB) := Lib.hid (by rw [e', List.take_length, List.take_of_length_le (by omega)])
            subst e'
            have HRB : Hid (BRow wr W8.heap.size (.slice sa sn sc) (shortF x.f).blocks) := Lib.hid (by
              show BRow wr W8.heap.size (.slice sa sn sc) ((x.f.blocks.take 10).map shortB)
              rw [← HE.out]; exact HJ.out.row)
            have hbs := HRB.out.blks (shortF_fok HXO.out.fok).bl
            have hsn : sn = (shortF x.f).blocks.length := (by obtain ⟨_, _, hse⟩ := hbs.slice; injection hse)
            have hT8 := Go.Proofs.YtdkkhmjlamkgdaaGreatDoor.hlt HX8.out
            have z10 : wr.frozen? ⟨wo.heap.size, 10, none⟩ = false := rowfree HX9.out
            have HBS := Lib.hid hbs
            have HSN := Lib.hid hsn
            obtain ⟨fs, f1, f2, f3, f4⟩ := HI.out.row
            have F1 := Lib.hid f1
            have F2 := Lib.hid f2
            have F4 := Lib.hid f4
            clear hbs hsn f1 f2 f4
            go_upto_region 17 with fail
            obtain ⟨W15, hW15⟩ : ∃ W15, W15 = wr.setCell ⟨wo.heap.size, 10, none⟩ (.slice sa sn sc) := ⟨_, rfl⟩
            rw [← hW15]
            obtain ⟨xe, hxe⟩ : ∃ xe : FctE, xe = ⟨shortF x.f, a7, c7, sa, sc, x.aa, x.ac⟩ := ⟨_, rfl⟩
            have e1 : (shortF x.f).topics.length = min x.f.topics.length 10 := by show (x.f.topics.take 10).length = _; rw [List.length_take]; omega
            have HX15 : Hid (W15.heap[wo.heap.size]? = some (.cells xe.cells 50 (0, 0))) := Lib.hid (by
              rw [hW15, hxe]
              show (wr.setCell ⟨wo.heap.size, 10, none⟩ (.slice sa sn sc)).heap[wo.heap.size]? = some (Obj.cells (fctCells (shortF x.f) (.slice a7 (shortF x.f).topics.length c7) (.slice sa (shortF x.f).blocks.length sc) (.slice x.aa x.f.lab.after.length x.ac)) 50 (0, 0))
              rw [e1, ← HSN.out]
              exact blk_set HX9.out)
            have HB15 : Hid (∀ o, Below wo.heap.size wo (W15.alloc o)) := Lib.hid (fun o => by rw [hW15]; exact ((HBQ.out.setCell (Nat.le_refl _) _).alloc (by rw [World.size_setCell]; exact HBQ.out.size) _))
            have HTT : Hid (∀ o, StrsM (memFr (W15.alloc o) (fun k => k ≤ wo.heap.size)) xe.tv xe.f.topics) := Lib.hid (fun o => by
              rw [hxe]
              show StrsM _ (.slice a7 (shortF x.f).topics.length c7) (x.f.topics.take 10)
              rw [e1, ← take_min']
              refine (HT8.out.mono (memFr_below HJ.out.bel)).mono (fun a u e => memFr_below (bel1 W15 o) a u ?_)
              rw [hW15]
              exact memFr_mono (upd_cell wr wo.heap.size 10 (.slice sa sn sc)) (fun k hk hf => ⟨fun q => hf (by omega), fun q => hf (by omega)⟩) a u e)
            have HBB : Hid (∀ o, BlksM (memFr (W15.alloc o) (fun k => k ≤ wo.heap.size)) xe.bv xe.f.blocks) := Lib.hid (fun o => by
              rw [hxe]
              show BlksM _ (.slice sa (shortF x.f).blocks.length sc) (shortF x.f).blocks
              rw [← HSN.out]
              refine HBS.out.mono (fun a u e => memFr_below (bel1 W15 o) a u ?_)
              rw [hW15]
              exact memFr_mono (upd_cell wr wo.heap.size 10 (.slice sa sn sc)) (fun k hk hf => ⟨fun q => hf (by omega), fun q => hf (by omega)⟩) a u e)
            have HFR : Hid (∀ o, FRow (W15.alloc o) w.heap.size (.slice ra rn rc) fs) := Lib.hid (fun o => by
              have hb := HB15.out o
              exact F1.out.kept (F := fun k => wo.heap.size ≤ k) ⟨hb.os, hb.tape, hb.output, hb.size, fun k hk hn => hb.block k (by omega)⟩ (fun k e q => by have := (F1.out.ge k e).2; omega))
            have hfl : fs.length ≤ 100000 := by omega
            have hw15 : w.heap.size ≤ W15.heap.size := by
              have h1 := HI.out.bel.size
              have h2 := HBQ.out.size
              rw [hW15, World.size_setCell]
              omega
            have HXE := Lib.hid hxe
            clear hxe hW15 k10 z10
            go_wp2_with (first
              | ((with_reducible refine at_fload _ rfl ?_); go_must (refine wpList_fct_load rfl _ rfl wo.heap.size (by simp [Act.eval]) xe.cells HX15.out rfl ?_))
              | ((with_reducible refine at_fslice _ rfl ?_); go_must (refine wpList_fct_slice rfl _ rfl xe (by simp [Act.eval, Act.put]) ?_))
              | ((with_reducible refine at_sappend _ _ 22 rfl ?_); go_must (refine wpList_app_fct rfl _ _ rfl w.heap.size _ fs (by simp [Act.eval, Act.put]) (HFR.out _) xe W15.heap.size 1 (by simp [Act.eval, Act.put]) (World.alloc_heap_new _ _) hfl (by rw [World.size_alloc]; omega) ?_); intro v16 w16 hr16 hg16 hob16; have hs16 := hr16.sl; obtain ⟨qa, qn, qc, rfl⟩ := hs16; have HI16 : Hid (ShI mem w es (k + 1) (.slice qa qn qc) w16) := Lib.hid (ShI.snoc HS.out HI.out.bel F1.out F4.out (HB15.out _) hr16 hg16 hob16 (by rw [HXE.out]; exact shortF_fok HXO.out.fok) (HTT.out _) (HBB.out _) (by rw [HXE.out]; exact HP3.out) (by rw [List.map_append, F2.out, HTK.out, HXE.out]; rfl) f3); clear hr16 hg16 hob16))
            go_roundw
            case rel => exact ⟨k + 1, by omega, by omega, by go_num, ⟨_, _, _, rfl⟩, HI16⟩
            case measure => (try simp only [intOf]); omega
      · have e' : k = 40 := by omega
        subst e'
        have HF : Hid (ShortPost2 mem (es.map FctE.f) w (.returned (.slice ra rn rc)) wr) := Lib.hid (by
          obtain ⟨fs, h1, h2, h3, h4⟩ := HI.out.row
          exact ⟨_, fs, rfl, h1, by rw [h2]; unfold shortL7; rw [List.map_take], h4, HI.out.bel⟩)
        go_wp2_with fail
        go_ret
        exact HF.out
    · have e' : k = es.length := by omega
      subst e'
      have HF : Hid (ShortPost2 mem (es.map FctE.f) w (.returned (.slice ra rn rc)) wr) := Lib.hid (by
        obtain ⟨fs, h1, h2, h3, h4⟩ := HI.out.row
        exact ⟨_, fs, rfl, h1, by rw [h2]; unfold shortL7; rw [List.take_length, List.take_of_length_le (by rw [List.length_map]; exact hk40)], h4, HI.out.bel⟩)
      go_wp2_with fail
      go_ret
      exact HF.out
theorem short_any {mem : Addr → Option Value} {v : Value} {es : List FctE} (h : EsM mem v es) (w : World) (hs : Sees mem w) :
    Calls Tryz.prog 18 #[v] w (ShortPost (es.map FctE.f) w) :=
  (short_any2 h w hs).mono fun e w' hp => by
    obtain ⟨r, fs, he, h1, h2, h3, h4⟩ := hp
    refine ⟨r, fs, he, h1, h2, fun x hx => (h3 x hx).mono (fun a u e => ?_), h4⟩
    rcases memSh_cases e with ⟨q1, q2⟩ | ⟨_, q2⟩
    · exact memNo_of (sees_bel h4 a u (hs a u q2)) (fun q => by have := (h1.ge _ q).1; omega)
    · exact q2
end Go.Proofs.YtdkkhmjlamkgdaaGreatDoor
namespace Go.Proofs.YtdkkhmjlamkgdaaGreatDoor.Mg

end Go.Proofs.YtdkkhmjlamkgdaaGreatDoor.Mg
namespace Go.Proofs.YtdkkhmjlamkgdaaGreatDoor.Mg

structure Alt (l l' : List Fct) : Prop where
  g : ∀ id, foldG l' id = foldG l id
  t : ∀ n, lastTpl l' n = lastTpl l n
theorem Alt.refl (l : List Fct) : Alt l l := ⟨fun _ => rfl, fun _ => rfl⟩
def insF (l : List Fct) (k : Nat) (f : Fct) : List Fct := l.take k ++ f :: l.drop k
theorem Alt.state {l l' : List Fct} (h : Alt l l') {s s' : StF} (h1 : FoldIs l s) (h2 : FoldIs l' s') : s' = s :=
  h1.unique h2 (fun id => by rw [h.g id]; exact Alike.refl _) h.t
def kindsL : List Int := [2, 8, 9, 10]
def GoodA (f : Fct) : Prop := actF f = true → FGood f
end Go.Proofs.YtdkkhmjlamkgdaaGreatDoor.Mg
namespace Go.Proofs.YtdkkhmjlamkgdaaGreatDoor
open Go.RowKit Mg Go.Shelf Go.Maps

def FoldedPost (l : List Fct) (w : World) (e : Ending) (w' : World) : Prop :=
  ∃ a c b d s, e = .returned (.agg #[.slice a s.stories.length c, .slice b s.tpls.length d]) ∧ Folded l w (.slice a s.stories.length c) (.slice b s.tpls.length d) s w'
theorem Fold_law {mem : Addr → Option Value} {v : Value} {es : List FctE} (h : EsM mem v es) (hl : es.length ≤ 20000) (hgd : ∀ x ∈ es, actF x.f = true → FGood x.f) (w : World) (hs : Sees mem w) (hlow : ∀ a u, mem a = some u → a.block < w.heap.size) :
    Calls Tryz.prog 26 #[v] w (FoldedPost (es.map FctE.f) w) :=
  (Fold_any2 h hl hgd w hs hlow).mono fun e w' hp => by
    obtain ⟨sv, tv, s, rfl, hF⟩ := Folded.of hp
    obtain ⟨a, c, b, d, rfl, rfl⟩ := hF.shapes
    exact ⟨a, c, b, d, s, rfl, hF⟩
structure Shorted (l : List Fct) (w : World) (r : Value) (fs : List FctE) (w' : World) : Prop where
  row : FRow w' w.heap.size r fs
  map : fs.map FctE.f = shortL7 l
  ok : ∀ x ∈ fs, x.ok (memNo w' (fun k => r.ownBlock = some k))
  bel : Below w.heap.size w w'
theorem Shorted.es {l : List Fct} {w w' : World} {r : Value} {fs : List FctE} (h : Shorted l w r fs w') : EsM (fun a => w'.cell? a) r fs :=
  h.row.es fun x hx => (h.ok x hx).mono (memNo_sees w' _)
theorem Shorted.len {l : List Fct} {w w' : World} {r : Value} {fs : List FctE} (h : Shorted l w r fs w') : fs.length ≤ 40 := by
  have := congrArg List.length h.map
  rw [List.length_map] at this
  rw [this]; exact shortL7_len l
theorem Shorted.good {l : List Fct} {w w' : World} {r : Value} {fs : List FctE} (h : Shorted l w r fs w') : ∀ x ∈ fs, FGood x.f := fun x hx => by
  refine shortL7_good l _ ?_
  rw [← h.map]
  exact List.mem_map_of_mem hx
theorem short_law {mem : Addr → Option Value} {v : Value} {es : List FctE} (h : EsM mem v es) (w : World) (hs : Sees mem w) :
    Calls Tryz.prog 18 #[v] w (fun e w' => ∃ ra rc fs, e = .returned (.slice ra fs.length rc) ∧ Shorted (es.map FctE.f) w (.slice ra fs.length rc) fs w') :=
  (short_any h w hs).mono fun e w' hp => by
    obtain ⟨r, fs, rfl, h1, h2, h3, h4⟩ := hp
    obtain ⟨ra, rc, rfl⟩ := h1.shape
    exact ⟨ra, rc, fs, rfl, h1, h2, h3, h4⟩
theorem Shorted.fold {l : List Fct} {w w' : World} {r : Value} {fs : List FctE} (h : Shorted l w r fs w') : Calls Tryz.prog 26 #[r] w' (FoldedPost (shortL7 l) w') := by
  have := Fold_law h.es (by have := h.len; omega) (fun x hx _ => h.good x hx) w' (Sees.self w') (cells_lt w')
  rwa [h.map] at this
theorem Folded.stys {l : List Fct} {w w' : World} {a b : Option Addr} {c d : Nat} {s : StF} (h : Folded l w (.slice a s.stories.length c) (.slice b s.tpls.length d) s w') : StysM (memFr w' (fun k => k < w.heap.size + 1)) (.slice a s.stories.length c) s.stories ∧ TplsM (memFr w' (fun k => k < w.heap.size + 1)) (.slice b s.tpls.length d) s.tpls := by
  obtain ⟨sv', tv', e, h1, h2⟩ := h.st
  injection e with e
  have e1 : Value.slice a s.stories.length c = sv' := by have := congrArg (fun x => x[0]?) e; simpa using this
  have e2 : Value.slice b s.tpls.length d = tv' := by have := congrArg (fun x => x[1]?) e; simpa using this
  rw [e1, e2]
  exact ⟨h1, h2⟩
end Go.Proofs.YtdkkhmjlamkgdaaGreatDoor
namespace Go.Proofs.YtdkkhmjlamkgdaaGreatDoor
open Go.RowKit Mg Go.Shelf

def pickF (c n : Int) : Int := (if c < 0 then -(c + 1) else c) % n
end Go.Proofs.YtdkkhmjlamkgdaaGreatDoor
namespace Go.Proofs.YtdkkhmjlamkgdaaGreatDoor
open Go.RowKit Mg Go.Shelf Go.Maps

set_option maxRecDepth 100000 in
theorem elem_facts : Tryz.prog.underlying 22 = some (.slice (Tryz.prog.elem 22)) :=
  Tryz.underlying22
def restAt (a : Option Addr) (cap k : Nat) : Option Addr := if cap = k then a else a.map (·.add (k * 23))
theorem EsM.drop {mem : Addr → Option Value} {ao : Option Addr} {cap : Nat} {es : List FctE} (h : EsM mem (.slice ao es.length cap) es) (k : Nat) (hk : k ≤ es.length) : EsM mem (.slice (restAt ao cap k) (es.drop k).length (cap - k)) (es.drop k) := by
  obtain ⟨b, o, ⟨h1, ao', cap', e, h2, h3, h4⟩, h5⟩ := h
  injection e with e1 _ e3
  subst e1 e3
  have hl : (es.drop k).length = es.length - k := List.length_drop
  refine ⟨b, o + k * 23, ⟨by omega, restAt ao cap k, cap - k, rfl, by omega, by omega, fun hp => ?_⟩, fun j hj => ?_⟩
  · unfold restAt
    rw [if_neg (by omega), h4 (by omega)]
    show some ((⟨b, o, none⟩ : Addr).add (k * 23)) = _
    unfold Addr.add
    by_cases h0 : k * 23 = 0
    · rw [if_pos h0, h0, Nat.add_zero]
    · rw [if_neg h0]
  · rw [List.getElem_drop]
    have := h5 (k + j) (by omega)
    rw [show o + k * 23 + j * 23 = o + (k + j) * 23 by omega]
    exact this
theorem EsM.keep {w w' : World} {v : Value} {es : List FctE} (h : EsM (fun p => w.cell? p) v es) (hb : Below w.heap.size w w') : EsM (fun p => w'.cell? p) v es := by
  obtain ⟨b, o, h1, h2⟩ := h
  exact ⟨b, o, h1, fun j hj => ⟨(h2 j hj).1.mono (sees_bel hb), fun i u hu => sees_bel hb _ _ ((h2 j hj).2 i u hu)⟩⟩
theorem Below.grownBy {B : Nat} {w w1 w2 : World} {k : Option Nat} (h : Below B w w1) (hg : w1.grownBy w2 k) (hB : B ≤ w1.heap.size) (hk : ∀ j, k = some j → B ≤ j) : Below B w w2 := h.grown hg hB hk
section
variable {ops : Array Oper} {rest : List Oper} {o : Oper} {a : Act} {w : World} {Q : Exit → Act → World → Prop}
theorem wpList_val {P : Program} (hw : Region.wanted o (yielded ops a.tmps) = true) (v : Value) (hr : (execOp a.eval o).run P w = .ok (.value v) w) (h : wpList P ops Q rest (a.put o.dst v) w) : wpList P ops Q (o :: rest) a w :=
  wpList_step fun K hK => by
    rw [if_pos hw]
    unfold Oper.wp
    rw [hr]
    exact hK _ _ h
end
end Go.Proofs.YtdkkhmjlamkgdaaGreatDoor
namespace Go.Proofs.YtdkkhmjlamkgdaaGreatDoor
open Go.ChangeShapes Go.WideShapes Go.RowKit Go.Deep Mg

theorem cell_add {w : World} {a : Addr} {k : Nat} {v : Value} (h : w.cell? (a.add k) = some v) : w.cell? ⟨a.block, a.off + k, none⟩ = some v := by
  by_cases hk : k = 0
  · subst hk
    have e : a.add 0 = a := by simp [Addr.add]
    rw [e] at h
    obtain ⟨b, o, s⟩ := a
    cases s with
    | none => exact h
    | some x =>
      unfold World.cell? at h
      simp at h
      split at h <;> simp at h
  · unfold Addr.add at h
    rwa [if_neg hk] at h
theorem cell_spot {w : World} {a : Addr} {v : Value} (h : w.cell? a = some v) : a = ⟨a.block, a.off, none⟩ := by
  obtain ⟨b, o, s⟩ := a
  cases s with
  | none => rfl
  | some x =>
    unfold World.cell? at h
    simp at h
    split at h <;> simp at h
theorem add_zero (a : Addr) : a.add 0 = a := by simp [Addr.add]
section
variable {H : Type} {enc : TypeId × Value → H} {P : Program} {w W : World} {base : Nat} {spare : Nat → Bool} {held : Bool}
theorem open_rows {t e : TypeId} {fuel n : Nat} {cs : List Value} {x : DataW H × List MemPlace} (ht : P.underlying t = some (.slice e)) (hC : P.cellsOf e = n) (hpos : 0 < n) (h : DataW.trod enc P w base spare held fuel t cs = some x) :
    cs = [.slice none 0 0] ∨
    ∃ (a : Addr) (len cap : Nat), cs = [.slice (some a) len cap] ∧ len ≤ cap ∧ cap ≤ maxLen ∧ (0 < len → a = ⟨a.block, a.off, none⟩) ∧
      ∀ i, i < len → ∃ (cs' : List Value) (y : DataW H × List MemPlace) (m : Nat), cs'.length = n ∧ DataW.trod enc P w base spare held m e cs' = some y ∧ ∀ j (hj : j < cs'.length), w.cell? ⟨a.block, a.off + i * n + j, none⟩ = some cs'[j] := by
  subst hC
  rcases DataW.trod_slice ht h with ⟨h0, _⟩ | ⟨a, len, cap, elems, rest, n, rfl, hcs, hx, _, hl, hm, hlen, hel, _, _⟩
  · exact .inl h0
  · refine .inr ⟨a, len, cap, hcs, hl, hm, fun h0 => ?_, fun i hi => ?_⟩
    · have h1 := hel 0 h0
      rw [List.getElem?_eq_getElem (by omega), Option.bind_eq_some_iff, Nat.zero_mul, add_zero] at h1
      obtain ⟨cs', hc, ht'⟩ := h1
      obtain ⟨_, hcl, hat⟩ := World.cells?_some hc
      have h2 := hat 0 hpos
      rw [List.getElem?_eq_getElem (by rw [hcl]; exact hpos), add_zero] at h2
      exact cell_spot h2
    have h1 := hel i hi
    rw [List.getElem?_eq_getElem (by omega)] at h1
    rw [Option.bind_eq_some_iff] at h1
    obtain ⟨cs', hc, ht'⟩ := h1
    obtain ⟨_, hcl, hat⟩ := World.cells?_some hc
    refine ⟨cs', _, n, hcl, ht', fun j hj => ?_⟩
    have h2 := hat j (by omega)
    rw [List.getElem?_eq_getElem hj, Go.Deep.add_add] at h2
    rw [Nat.add_assoc]
    exact cell_add h2
theorem int_arg {fuel : Nat} {v : Value} {x : DataW H × List MemPlace} (h : DataW.trod enc Tryz.prog w base spare held fuel 3 [v] = some x) : ∃ n : Int, v = .int .i64 n ∧ okI n := by
  obtain ⟨n, h1, _, h2⟩ := DataW.trod_int Tryz.underlying3 h
  injection h1 with h1 _
  refine ⟨n, h1, ?_⟩
  have e1 : IntKind.i64.min = -9223372036854775808 := by decide
  have e2 : IntKind.i64.max = 9223372036854775807 := by decide
  simp only [Lit.wf, e1, e2, Bool.and_eq_true, decide_eq_true_eq] at h2
  exact h2
theorem string_arg {fuel : Nat} {v : Value} {x : DataW H × List MemPlace} (h : DataW.trod enc Tryz.prog w base spare held fuel 9 [v] = some x) : ∃ s : ByteArray, v = .string s ∧ s.size ≤ maxLen := by
  obtain ⟨s, h1, _, h3⟩ := DataW.trod_string Tryz.underlying9 h
  injection h1 with h1 _
  exact ⟨s, h1, h3⟩
theorem each_ints {mem : Addr → Option Value} {b : Nat} : ∀ (n o : Nat), (∀ i, i < n → ∃ x : Int, mem ⟨b, o + i, none⟩ = some (.int .i64 x)) → ∃ l : List Int, l.length = n ∧ ∀ j (h : j < l.length), mem ⟨b, o + j, none⟩ = some (.int .i64 l[j])
  | 0, o, _ => ⟨[], rfl, fun j h => absurd h (by simp)⟩
  | n + 1, o, h => by
    obtain ⟨x, hx⟩ := h 0 (by omega)
    obtain ⟨l, h1, h2⟩ := each_ints n (o + 1) (fun i hi => by rw [show o + 1 + i = o + (i + 1) by omega]; exact h (i + 1) (by omega))
    refine ⟨x :: l, by simp [h1], fun j hj => ?_⟩
    cases j with
    | zero => exact hx
    | succ j => rw [show o + (j + 1) = o + 1 + j by omega]; exact h2 j (by simpa using hj)
theorem cells3 : Tryz.prog.cellsOf 3 = 1 := by kernel_rfl
theorem cells9 : Tryz.prog.cellsOf 9 = 1 := by kernel_rfl
theorem cells25 : Tryz.prog.cellsOf 46 = 1 := by kernel_rfl
theorem cells37 : Tryz.prog.cellsOf 48 = 4 := by kernel_rfl
theorem cells39 : Tryz.prog.cellsOf 58 = 9 := by kernel_rfl
theorem ints_arg {fuel : Nat} {v : Value} {x : DataW H × List MemPlace} (h : DataW.trod enc Tryz.prog w base spare held fuel 46 [v] = some x) : ∃ l : List Int, IntsM (fun a => w.cell? a) v l := by
  rcases open_rows Tryz.underlying46 cells3 (by omega) h with h0 | ⟨a, len, cap, hcs, hl, hm, hsp, hi⟩
  · injection h0 with h0 _
    subst h0
    exact ⟨[], IntsM.nil _⟩
  · injection hcs with hcs _
    subst hcs
    obtain ⟨l, h1, h2⟩ := each_ints (mem := fun a => w.cell? a) (b := a.block) len a.off (fun i hil => by
      obtain ⟨cs', y, m, hcl, ht, hc⟩ := hi i hil
      match cs', hcl with
      | [u], _ =>
        obtain ⟨n, rfl, _⟩ := int_arg ht
        have := hc 0 (by simp)
        exact ⟨n, by simpa using this⟩)
    subst h1
    exact ⟨l, a.block, a.off, ⟨Nat.le_trans hl hm, some a, cap, rfl, hl, hm, fun h0 => by rw [← hsp h0]⟩, h2⟩
theorem one37 : ∃ fs, Tryz.prog.underlying 48 = some (.struct fs) ∧ (fs.map (·.type)).toList = [3, 46, 3, 3] ∧ (fs.map (·.offset)).toList = [0, 1, 2, 3] :=
  ⟨_, Tryz.underlying48, by simp, by simp⟩
theorem one39 : ∃ fs, Tryz.prog.underlying 58 = some (.struct fs) ∧ (fs.map (·.type)).toList = [3, 3, 9, 3, 3, 48] ∧ (fs.map (·.offset)).toList = [0, 1, 2, 3, 4, 5] :=
  ⟨_, Tryz.underlying58, by simp, by simp⟩
theorem field_arg {t : TypeId} {fs : Array Field} {fuel : Nat} {cs : List Value} {x : DataW H × List MemPlace} (hu : P.underlying t = some (.struct fs)) (h : DataW.trod enc P w base spare held fuel t cs = some x) :
    ∃ m, ∀ (j : Nat) (t' : TypeId) (o : Nat), (fs.map (·.type)).toList[j]? = some t' → (fs.map (·.offset)).toList[j]? = some o → ∃ y : DataW H × List MemPlace, DataW.trod enc P w base spare held m t' ((cs.drop o).take (P.cellsOf t')) = some y := by
  obtain ⟨xs, n, _, _, _, hlen, hg⟩ := DataW.trod_struct hu h
  refine ⟨n, fun j t' o ht ho => ?_⟩
  rw [Array.getElem?_toList, Array.getElem?_map, Option.map_eq_some_iff] at ht ho
  obtain ⟨f, hj, rfl⟩ := ht
  obtain ⟨f', hj', rfl⟩ := ho
  obtain rfl := Option.some.inj (hj.symm.trans hj')
  have hjl : j < xs.length := by rw [hlen]; exact (Array.getElem?_eq_some_iff.1 hj).1
  exact ⟨xs[j], (hg j f hj).trans (List.getElem?_eq_getElem hjl)⟩
set_option maxRecDepth 100000 in
theorem blk_arg {fuel : Nat} {cs : List Value} {x : DataW H × List MemPlace} (hl : cs.length = 9) (h : DataW.trod enc Tryz.prog w base spare held fuel 58 cs = some x) {b o : Nat} (hc : ∀ j (hj : j < cs.length), w.cell? ⟨b, o + j, none⟩ = some cs[j]) :
    ∃ y : Blk, BlkAt (fun a => w.cell? a) y b o := by
  obtain ⟨fs, hu, hty, hof⟩ := one39
  obtain ⟨m, key⟩ := field_arg hu h
  rw [hty, hof] at key
  match cs, hl with
  | [c0, c1, c2, c3, c4, c5, c6, c7, c8], _ =>
    obtain ⟨y0, t0⟩ := key 0 3 0 rfl rfl
    obtain ⟨y1, t1⟩ := key 1 3 1 rfl rfl
    obtain ⟨y2, t2⟩ := key 2 9 2 rfl rfl
    obtain ⟨y3, t3⟩ := key 3 3 3 rfl rfl
    obtain ⟨y4, t4⟩ := key 4 3 4 rfl rfl
    obtain ⟨y5, t5⟩ := key 5 48 5 rfl rfl
    rw [cells3] at t0 t1 t3 t4
    rw [cells9] at t2
    rw [cells37] at t5
    obtain ⟨gs, hu', hty', hof'⟩ := one37
    obtain ⟨m', key'⟩ := field_arg hu' t5
    rw [hty', hof'] at key'
    obtain ⟨z0, s0⟩ := key' 0 3 0 rfl rfl
    obtain ⟨z1, s1⟩ := key' 1 46 1 rfl rfl
    obtain ⟨z2, s2⟩ := key' 2 3 2 rfl rfl
    obtain ⟨z3, s3⟩ := key' 3 3 3 rfl rfl
    rw [cells3] at s0 s2 s3
    rw [cells25] at s1
    obtain ⟨id, rfl, k0⟩ := int_arg (v := c0) t0
    obtain ⟨kind, rfl, k1⟩ := int_arg (v := c1) t1
    obtain ⟨text, rfl, k2⟩ := string_arg (v := c2) t2
    obtain ⟨story, rfl, _⟩ := int_arg (v := c3) t3
    obtain ⟨ref, rfl, _⟩ := int_arg (v := c4) t4
    obtain ⟨till, rfl, _⟩ := int_arg (v := c5) s0
    obtain ⟨after, ka⟩ := ints_arg (v := c6) s1
    obtain ⟨appr, rfl, _⟩ := int_arg (v := c7) s2
    obtain ⟨den, rfl, _⟩ := int_arg (v := c8) s3
    exact ⟨⟨id, kind, text, story, ref, ⟨till, after, appr, den⟩⟩, ⟨hc 0 (by simp), hc 1 (by simp), hc 2 (by simp), hc 3 (by simp), hc 4 (by simp)⟩, ⟨hc 5 (by simp), hc 7 (by simp), hc 8 (by simp)⟩, ⟨k2, k1, k0⟩, c6, hc 6 (by simp), ka⟩
theorem each_blks {mem : Addr → Option Value} {b : Nat} : ∀ (n o : Nat), (∀ i, i < n → ∃ y : Blk, BlkAt mem y b (o + i * 9)) → ∃ l : List Blk, l.length = n ∧ BlksAt mem l b o
  | 0, o, _ => ⟨[], rfl, fun j h => absurd h (by simp)⟩
  | n + 1, o, h => by
    obtain ⟨x, hx⟩ := h 0 (by omega)
    obtain ⟨l, h1, h2⟩ := each_blks n (o + 9) (fun i hi => by rw [show o + 9 + i * 9 = o + (i + 1) * 9 by omega]; exact h (i + 1) (by omega))
    refine ⟨x :: l, by simp [h1], fun j hj => ?_⟩
    cases j with
    | zero => exact hx
    | succ j => rw [show o + (j + 1) * 9 = o + 9 + j * 9 by omega]; exact h2 j (by simpa using hj)
theorem blks_arg {fuel : Nat} {v : Value} {x : DataW H × List MemPlace} (h : DataW.trod enc Tryz.prog w base spare held fuel 37 [v] = some x) : ∃ l : List Blk, BlksM (fun a => w.cell? a) v l := by
  rcases open_rows Tryz.underlying37 cells39 (by omega) h with h0 | ⟨a, len, cap, hcs, hl, hm, hsp, hi⟩
  · injection h0 with h0 _
    subst h0
    exact ⟨[], BlksM.nil _⟩
  · injection hcs with hcs _
    subst hcs
    obtain ⟨l, h1, h2⟩ := each_blks (mem := fun a => w.cell? a) (b := a.block) len a.off (fun i hil => by
      obtain ⟨cs', y, m, hcl, ht, hc⟩ := hi i hil
      exact blk_arg hcl ht hc)
    subst h1
    exact ⟨l, a.block, a.off, ⟨Nat.le_trans hl hm, some a, cap, rfl, hl, hm, fun h0 => by rw [← hsp h0]⟩, h2⟩
end
end Go.Proofs.YtdkkhmjlamkgdaaGreatDoor
namespace Go.Proofs.YtdkkhmjlamkgdaaGreatDoor
open Go.RowKit Mg Go.Shelf

def BlkssM (mem : Addr → Option Value) (v : Value) (ls : List (List Blk)) : Prop := SlM 1 (fun l b o => ∃ u, mem ⟨b, o, none⟩ = some u ∧ BlksM mem u l) v ls
end Go.Proofs.YtdkkhmjlamkgdaaGreatDoor
namespace Go.Proofs.YtdkkhmjlamkgdaaGreatDoor
open Go.ChangeShapes Go.WideShapes Go.RowKit Go.Deep Mg

section
variable {H : Type} {enc : TypeId × Value → H} {w W : World} {base : Nat} {spare : Nat → Bool} {held : Bool}
theorem cellsSS : Tryz.prog.cellsOf 30 = 1 := by kernel_rfl
theorem cellsBB : Tryz.prog.cellsOf 37 = 1 := by kernel_rfl
theorem cellsFF : Tryz.prog.cellsOf 50 = 23 := by kernel_rfl
theorem each_strs {mem : Addr → Option Value} {b : Nat} : ∀ (n o : Nat), (∀ i, i < n → ∃ x : ByteArray, mem ⟨b, o + i, none⟩ = some (.string x) ∧ x.size ≤ maxLen) → ∃ l : List ByteArray, l.length = n ∧ (∀ s ∈ l, s.size ≤ maxLen) ∧ ∀ j (h : j < l.length), mem ⟨b, o + j, none⟩ = some (.string l[j])
  | 0, o, _ => ⟨[], rfl, (fun s h => by cases h), fun j h => absurd h (by simp)⟩
  | n + 1, o, h => by
    obtain ⟨x, hx, hx2⟩ := h 0 (by omega)
    obtain ⟨l, h1, h3, h2⟩ := each_strs n (o + 1) (fun i hi => by rw [show o + 1 + i = o + (i + 1) by omega]; exact h (i + 1) (by omega))
    refine ⟨x :: l, by simp [h1], fun s hs => ?_, fun j hj => ?_⟩
    · rcases List.mem_cons.1 hs with rfl | hs
      · exact hx2
      · exact h3 s hs
    cases j with
    | zero => exact hx
    | succ j => rw [show o + (j + 1) = o + 1 + j by omega]; exact h2 j (by simpa using hj)
theorem strs_arg {fuel : Nat} {v : Value} {x : DataW H × List MemPlace} (h : DataW.trod enc Tryz.prog w base spare held fuel 30 [v] = some x) : ∃ l : List ByteArray, StrsM (fun a => w.cell? a) v l := by
  rcases open_rows Tryz.underlying30 cells9 (by omega) h with h0 | ⟨a, len, cap, hcs, hl, hm, hsp, hi⟩
  · injection h0 with h0 _
    subst h0
    exact ⟨[], StrsM.nil _⟩
  · injection hcs with hcs _
    subst hcs
    obtain ⟨l, h1, h3, h2⟩ := each_strs (mem := fun a => w.cell? a) (b := a.block) len a.off (fun i hil => by
      obtain ⟨cs', y, m, hcl, ht, hc⟩ := hi i hil
      match cs', hcl with
      | [u], _ =>
        obtain ⟨n, rfl, hn⟩ := string_arg ht
        have := hc 0 (by simp)
        exact ⟨n, by simpa using this, hn⟩)
    subst h1
    exact ⟨l, a.block, a.off, ⟨Nat.le_trans hl hm, some a, cap, rfl, hl, hm, fun h0 => by rw [← hsp h0]⟩, h3, h2⟩
theorem oneFF : ∃ fs, Tryz.prog.underlying 50 = some (.struct fs) ∧ (fs.map (·.type)).toList = [3, 3, 3, 3, 9, 3, 3, 9, 9, 30, 37, 48, 3, 3, 3, 9, 9, 3, 3, 3] ∧ (fs.map (·.offset)).toList = [0, 1, 2, 3, 4, 5, 6, 7, 8, 9, 10, 11, 15, 16, 17, 18, 19, 20, 21, 22] :=
  ⟨_, Tryz.underlying50, by simp, by simp⟩
set_option maxRecDepth 100000 in
set_option maxHeartbeats 1000000 in
theorem fct_arg {fuel : Nat} {cs : List Value} {x : DataW H × List MemPlace} (hl : cs.length = 23) (h : DataW.trod enc Tryz.prog w base spare held fuel 50 cs = some x) : ∃ e : FctE, e.ok (fun a => w.cell? a) ∧ e.cells.toList = cs := by
  obtain ⟨fs, hu, hty, hof⟩ := oneFF
  obtain ⟨m, key⟩ := field_arg hu h
  rw [hty, hof] at key
  match cs, hl with
  | [c0, c1, c2, c3, c4, c5, c6, c7, c8, c9, c10, c11, c12, c13, c14, c15, c16, c17, c18, c19, c20, c21, c22], _ =>
    obtain ⟨y0, t0⟩ := key 0 3 0 rfl rfl
    rw [cells3] at t0
    obtain ⟨y1, t1⟩ := key 1 3 1 rfl rfl
    rw [cells3] at t1
    obtain ⟨y2, t2⟩ := key 2 3 2 rfl rfl
    rw [cells3] at t2
    obtain ⟨y3, t3⟩ := key 3 3 3 rfl rfl
    rw [cells3] at t3
    obtain ⟨y4, t4⟩ := key 4 9 4 rfl rfl
    rw [cells9] at t4
    obtain ⟨y5, t5⟩ := key 5 3 5 rfl rfl
    rw [cells3] at t5
    obtain ⟨y6, t6⟩ := key 6 3 6 rfl rfl
    rw [cells3] at t6
    obtain ⟨y7, t7⟩ := key 7 9 7 rfl rfl
    rw [cells9] at t7
    obtain ⟨y8, t8⟩ := key 8 9 8 rfl rfl
    rw [cells9] at t8
    obtain ⟨y9, t9⟩ := key 9 30 9 rfl rfl
    rw [cellsSS] at t9
    obtain ⟨y10, t10⟩ := key 10 37 10 rfl rfl
    rw [cellsBB] at t10
    obtain ⟨y11, t11⟩ := key 11 48 11 rfl rfl
    rw [cells37] at t11
    obtain ⟨y12, t12⟩ := key 12 3 15 rfl rfl
    rw [cells3] at t12
    obtain ⟨y13, t13⟩ := key 13 3 16 rfl rfl
    rw [cells3] at t13
    obtain ⟨y14, t14⟩ := key 14 3 17 rfl rfl
    rw [cells3] at t14
    obtain ⟨y15, t15⟩ := key 15 9 18 rfl rfl
    rw [cells9] at t15
    obtain ⟨y16, t16⟩ := key 16 9 19 rfl rfl
    rw [cells9] at t16
    obtain ⟨y17, t17⟩ := key 17 3 20 rfl rfl
    rw [cells3] at t17
    obtain ⟨y18, t18⟩ := key 18 3 21 rfl rfl
    rw [cells3] at t18
    obtain ⟨y19, t19⟩ := key 19 3 22 rfl rfl
    rw [cells3] at t19
    obtain ⟨n, rfl, k0⟩ := int_arg (v := c0) t0
    obtain ⟨time, rfl, k1⟩ := int_arg (v := c1) t1
    obtain ⟨kind, rfl, k2⟩ := int_arg (v := c2) t2
    obtain ⟨story, rfl, k3⟩ := int_arg (v := c3) t3
    obtain ⟨lang, rfl, k4⟩ := string_arg (v := c4) t4
    obtain ⟨rev, rfl, k5⟩ := int_arg (v := c5) t5
    obtain ⟨base, rfl, k6⟩ := int_arg (v := c6) t6
    obtain ⟨title, rfl, k7⟩ := string_arg (v := c7) t7
    obtain ⟨author, rfl, k8⟩ := string_arg (v := c8) t8
    obtain ⟨topics, kt⟩ := strs_arg (v := c9) t9
    obtain ⟨blocks, kb⟩ := blks_arg (v := c10) t10
    obtain ⟨gs, hu', hty', hof'⟩ := one37
    obtain ⟨m', key'⟩ := field_arg hu' t11
    rw [hty', hof'] at key'
    obtain ⟨z0, s0⟩ := key' 0 3 0 rfl rfl
    obtain ⟨z1, s1⟩ := key' 1 46 1 rfl rfl
    obtain ⟨z2, s2⟩ := key' 2 3 2 rfl rfl
    obtain ⟨z3, s3⟩ := key' 3 3 3 rfl rfl
    rw [cells3] at s0 s2 s3
    rw [cells25] at s1
    obtain ⟨ltill, rfl, l0⟩ := int_arg (v := c11) s0
    obtain ⟨after, ka⟩ := ints_arg (v := c12) s1
    obtain ⟨appr, rfl, l2⟩ := int_arg (v := c13) s2
    obtain ⟨den, rfl, l3⟩ := int_arg (v := c14) s3
    obtain ⟨editor, rfl, k12⟩ := int_arg (v := c15) t12
    obtain ⟨block, rfl, k13⟩ := int_arg (v := c16) t13
    obtain ⟨sentence, rfl, k14⟩ := int_arg (v := c17) t14
    obtain ⟨text, rfl, k15⟩ := string_arg (v := c18) t15
    obtain ⟨name, rfl, k16⟩ := string_arg (v := c19) t16
    obtain ⟨partner, rfl, k17⟩ := int_arg (v := c20) t17
    obtain ⟨cls, rfl, k18⟩ := int_arg (v := c21) t18
    obtain ⟨till, rfl, k19⟩ := int_arg (v := c22) t19
    obtain ⟨ta, tc, rfl⟩ := kt.slice
    obtain ⟨ba, bc, rfl⟩ := kb.slice
    obtain ⟨aa, ac, rfl⟩ := ka.slice
    exact ⟨⟨⟨n, time, kind, story, lang, rev, base, title, author, topics, blocks, ⟨ltill, after, appr, den⟩, editor, block, sentence, text, name, partner, cls, till⟩, ta, tc, ba, bc, aa, ac⟩, ⟨⟨k0, k1, k2, k3, k4, k5, k6, k7, k8, l0, l2, l3, k12, k13, k14, k15, k16, k17, k18, k19, blks_ok kb⟩, kt, kb, ka⟩, rfl⟩
theorem each_fct {mem : Addr → Option Value} {b : Nat} : ∀ (n o : Nat), (∀ i, i < n → ∃ y : FctE, y.ok mem ∧ y.at mem b (o + i * 23)) → ∃ l : List FctE, l.length = n ∧ ∀ j (h : j < l.length), l[j].ok mem ∧ l[j].at mem b (o + j * 23)
  | 0, o, _ => ⟨[], rfl, fun j h => absurd h (by simp)⟩
  | n + 1, o, h => by
    obtain ⟨x, hx⟩ := h 0 (by omega)
    obtain ⟨l, h1, h2⟩ := each_fct n (o + 23) (fun i hi => by rw [show o + 23 + i * 23 = o + (i + 1) * 23 by omega]; exact h (i + 1) (by omega))
    refine ⟨x :: l, by simp [h1], fun j hj => ?_⟩
    cases j with
    | zero => exact hx
    | succ j => rw [show o + (j + 1) * 23 = o + 23 + j * 23 by omega]; exact h2 j (by simpa using hj)
set_option maxRecDepth 100000 in
theorem facts_in {b0 : Nat} {v : Value} {d : DataW H} {p : List MemPlace} (hv : Value.okWide Tryz.prog W .any b0 22 v) (h : DataW.Trod enc Tryz.prog W 0 (fun _ => true) true 22 v d p) : ∃ l : List FctE, EsM (fun a => W.cell? a) v l := by
  obtain ⟨a, len, cap, rfl⟩ := okWide_slice Tryz.underlying22 hv
  obtain ⟨fuel, h⟩ := h
  rcases open_rows Tryz.underlying22 cellsFF (by omega) h with h0 | ⟨a, len, cap, hcs, hl, hm, hsp, hi⟩
  · injection h0 with h0 _
    rw [h0]
    exact ⟨[], 0, 0, sliceNil, fun j hj => absurd hj (by simp)⟩
  · injection hcs with hcs _
    rw [hcs]
    obtain ⟨l, h1, h2⟩ := each_fct (mem := fun a => W.cell? a) (b := a.block) len a.off (fun i hil => by
      obtain ⟨cs', y, m, hcl, ht, hc⟩ := hi i hil
      obtain ⟨e, he, hec⟩ := fct_arg hcl ht
      refine ⟨e, he, fun j u hj => ?_⟩
      subst hec
      have hj2 := (Array.getElem?_eq_some_iff.1 hj).1
      have := hc j (by rw [Array.length_toList]; exact hj2)
      rw [Array.getElem?_eq_getElem hj2] at hj
      rw [Array.getElem_toList] at this
      exact this.trans hj)
    subst h1
    exact ⟨l, a.block, a.off, ⟨Nat.le_trans hl hm, some a, cap, rfl, hl, hm, fun h0 => by rw [← hsp h0]⟩, h2⟩
theorem each_ints2 {mem : Addr → Option Value} {b : Nat} : ∀ (n o : Nat), (∀ i, i < n → ∃ x : Int, mem ⟨b, o + i, none⟩ = some (.int .i64 x) ∧ okI x) → ∃ l : List Int, l.length = n ∧ (∀ s ∈ l, okI s) ∧ ∀ j (h : j < l.length), mem ⟨b, o + j, none⟩ = some (.int .i64 l[j])
  | 0, o, _ => ⟨[], rfl, (fun s h => by cases h), fun j h => absurd h (by simp)⟩
  | n + 1, o, h => by
    obtain ⟨x, hx, hx2⟩ := h 0 (by omega)
    obtain ⟨l, h1, h3, h2⟩ := each_ints2 n (o + 1) (fun i hi => by rw [show o + 1 + i = o + (i + 1) by omega]; exact h (i + 1) (by omega))
    refine ⟨x :: l, by simp [h1], fun s hs => ?_, fun j hj => ?_⟩
    · rcases List.mem_cons.1 hs with rfl | hs
      · exact hx2
      · exact h3 s hs
    cases j with
    | zero => exact hx
    | succ j => rw [show o + (j + 1) = o + 1 + j by omega]; exact h2 j (by simpa using hj)
theorem each_bss {mem : Addr → Option Value} {b : Nat} : ∀ (n o : Nat), (∀ i, i < n → ∃ y : List Blk, ∃ u, mem ⟨b, o + i, none⟩ = some u ∧ BlksM mem u y) → ∃ l : List (List Blk), l.length = n ∧ ∀ j (h : j < l.length), ∃ u, mem ⟨b, o + j * 1, none⟩ = some u ∧ BlksM mem u l[j]
  | 0, o, _ => ⟨[], rfl, fun j h => absurd h (by simp)⟩
  | n + 1, o, h => by
    obtain ⟨x, hx⟩ := h 0 (by omega)
    obtain ⟨l, h1, h2⟩ := each_bss n (o + 1) (fun i hi => by rw [show o + 1 + i = o + (i + 1) by omega]; exact h (i + 1) (by omega))
    refine ⟨x :: l, by simp [h1], fun j hj => ?_⟩
    cases j with
    | zero => exact hx
    | succ j => rw [show o + (j + 1) * 1 = o + 1 + j * 1 by omega]; exact h2 j (by simpa using hj)
end
end Go.Proofs.YtdkkhmjlamkgdaaGreatDoor

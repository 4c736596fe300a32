/-
  WHAT IS PROVED HERE: the walk of merge.Merge. No condition.
-/
import Derived.Test.YtikpbknafhnieaaGreatDoorMrgBad
namespace Go.Proofs.YtikpbknafhnieaaGreatDoor
open Go.RowKit Mg Go.Shelf

theorem lists3 {mem : Addr → Option Value} {v1 v2 v3 : Value} {l1 l2 l3 : List Blk} (h1 : BlksM mem v1 l1) (h2 : BlksM mem v2 l2) (h3 : BlksM mem v3 l3) {W : World} (hs : Sees mem W) {g : Nat} (hg1 : W.cell? ⟨g, 0, none⟩ = some v1) (hg2 : W.cell? ⟨g, 1, none⟩ = some v2) (hg3 : W.cell? ⟨g, 2, none⟩ = some v3) : ListsM (fun a => W.cell? a) (.slice (some ⟨g, 0, none⟩) 3 3) [l1, l2, l3] :=
  ⟨g, 3, rfl, by simp, by simp, by unfold maxLen; omega, fun j hj => by
    match j, hj with
    | 0, _ => exact ⟨v1, hg1, h1.mono (fun a u e => hs a u e)⟩
    | 1, _ => exact ⟨v2, hg2, h2.mono (fun a u e => hs a u e)⟩
    | 2, _ => exact ⟨v3, hg3, h3.mono (fun a u e => hs a u e)⟩⟩
theorem okIds3 {mem : Addr → Option Value} {v1 v2 v3 : Value} {l1 l2 l3 : List Blk} (h1 : BlksM mem v1 l1) (h2 : BlksM mem v2 l2) (h3 : BlksM mem v3 l3) : ∃ xs : List OkInt, vals xs = idsOf [l1, l2, l3] := by
  obtain ⟨x1, e1⟩ := okIds h1
  obtain ⟨x2, e2⟩ := okIds h2
  obtain ⟨x3, e3⟩ := okIds h3
  refine ⟨x1 ++ (x2 ++ x3), ?_⟩
  unfold vals at *
  rw [List.map_append, List.map_append, e1, e2, e3]
  simp [idsOf]
theorem run_makeMap_none {P : Program} (t : TypeId) (w : World) : (Instr.makeMap t none).run P w = .ok (.map (some w.heap.size)) (w.alloc (.map #[] 0)) := by
  simp [Instr.makeMap]
/-- blocks laid one after the other -/
def allocL (w : World) (os : List Obj) : World := os.foldl World.alloc w
theorem allocL_size : ∀ (os : List Obj) (w : World), (allocL w os).heap.size = w.heap.size + os.length
  | [], _ => rfl
  | o :: os, w => by
    show (allocL (w.alloc o) os).heap.size = _
    rw [allocL_size os, World.size_alloc, List.length_cons]; omega
theorem allocL_below : ∀ (os : List Obj) (w : World), Below w.heap.size w (allocL w os)
  | [], w => Below.refl _ w
  | o :: os, w => ((Below.refl _ w).alloc (Nat.le_refl _) o).trans ((allocL_below os (w.alloc o)).mono (by simp))
theorem allocL_heap : ∀ (os : List Obj) (w : World) (j : Nat) (o : Obj), os[j]? = some o → (allocL w os).heap[w.heap.size + j]? = some o
  | [], _, _, _, h => by simp at h
  | o :: os, w, 0, o', h => by
    have h : o = o' := by simpa using h
    subst h
    show (allocL (w.alloc o) os).heap[w.heap.size + 0]? = _
    rw [(allocL_below os (w.alloc o)).block _ (by simp)]
    exact World.alloc_heap_new _ _
  | o :: os, w, j + 1, o', h => by
    have := allocL_heap os (w.alloc o) j o' (by simpa using h)
    rw [World.size_alloc] at this
    rw [show w.heap.size + (j + 1) = w.heap.size + 1 + j by omega]
    exact this
theorem EMap.fresh {mem : Addr → Option Value} {w : World} {b : Nat} (h : w.heap[b]? = some (.map #[] 0)) : EMap mem w b 0 (fun _ => none) := by
  obtain ⟨es, clock, h1, r⟩ := World.ownsMap_made w Tryz.prog 3 heldV
  rw [World.alloc_heap_new] at h1
  injection h1 with h1
  injection h1 with h1 h2
  subst h1 h2
  exact ⟨[], ⟨_, ⟨_, _, h, r⟩, List.nodup_nil, by simp, rfl, fun i _ => ⟨rfl, fun _ => rfl⟩⟩, rfl, fun i => by simp [keysL], fun _ => rfl⟩
/-- what the loop over the ids has come to -/
structure TakeK (mem : Addr → Option Value) (base a b : List Blk) (s : List Int) (C b5 N : Nat) (W : World) (k : Nat) (wr : World) : Prop where
  upd : Upd (fun j => j = C ∨ j = b5 ∨ N ≤ j) W wr
  map : EMap mem wr C ((s.take k).filter (hasAt base a b)).length (fun i => if i ∈ s.take k then (pickAt base a b i).1 else none)
  row : ∃ r, Boxed wr b5 25 r ∧ IRow wr N r ((s.take k).filter (fun i => (pickAt base a b i).2))

theorem TakeK.step {mem : Addr → Option Value} {base a b : List Blk} {s : List Int} {C b5 N : Nat} {W wr wr' : World} {k : Nat} (h : TakeK mem base a b s C b5 N W k wr) (hk : k < s.length) {g : Int → Option Blk} {L : List Int} {n : Nat}
    (hg : g = fun i => if i ∈ s.take k then (pickAt base a b i).1 else none) (hn : n = ((s.take k).filter (hasAt base a b)).length) (hL : L = (s.take k).filter (fun i => (pickAt base a b i).2)) (hT : TakePost mem C b5 N n g (pick (find base s[k]) (find a s[k]) (find b s[k])) s[k] L wr wr') : TakeK mem base a b s C b5 N W (k + 1) wr' := by
  have et := List.take_succ_eq_append_getElem hk
  subst hg hn hL
  refine ⟨h.upd.trans hT.upd (fun i h => .inl h), ?_, ?_⟩
  · have hm := hT.map
    have e1 : ((s.take (k + 1)).filter (hasAt base a b)).length = if (pick (find base s[k]) (find a s[k]) (find b s[k])).1.isSome then ((s.take k).filter (hasAt base a b)).length + 1 else ((s.take k).filter (hasAt base a b)).length := by
      rw [et, List.filter_append, List.length_append]
      show _ + (List.filter (hasAt base a b) [s[k]]).length = _
      by_cases hq : (pick (find base s[k]) (find a s[k]) (find b s[k])).1.isSome = true
      · rw [if_pos hq, List.filter_cons_of_pos (show hasAt base a b s[k] = true from hq)]; rfl
      · rw [if_neg hq, List.filter_cons_of_neg (show ¬ hasAt base a b s[k] = true from hq)]; rfl
    rw [e1]
    refine hm.ext (fun i => ?_)
    rw [et]
    by_cases e : i = s[k]
    · subst e; rw [if_pos (List.mem_append_right _ (List.mem_singleton.2 rfl)), if_pos rfl]; rfl
    · rw [if_neg e]
      by_cases hm2 : i ∈ s.take k
      · rw [if_pos (List.mem_append_left _ hm2), if_pos hm2]
      · rw [if_neg (fun hmm => (List.mem_append.1 hmm).elim hm2 (fun h => e (List.mem_singleton.1 h))), if_neg hm2]
  · obtain ⟨r', g1, g2⟩ := hT.row
    refine ⟨r', g1, ?_⟩
    have e2 : (s.take (k + 1)).filter (fun i => (pickAt base a b i).2) = (s.take k).filter (fun i => (pickAt base a b i).2) ++ selB (pick (find base s[k]) (find a s[k]) (find b s[k])).2 s[k] := by
      rw [et, List.filter_append]
      congr 1
    rw [e2]; exact g2
theorem take_not {s : List Int} (hn : s.Nodup) {k : Nat} (hk : k < s.length) : s[k] ∉ s.take k := fun h => by
  obtain ⟨j, hj, e⟩ := List.getElem_of_mem h
  rw [List.length_take] at hj
  rw [List.getElem_take] at e
  exact (List.pairwise_iff_getElem.1 hn) j k (by omega) hk (by omega) e

theorem app_ready {wq w11 : World} {B : Nat} {r v' : Value} {l : List Blk} {m : List Int} (hr : BRow wq B r l) (hB : B ≤ wq.heap.size) {o : Obj} (hI : IRow w11 (wq.alloc o).heap.size v' m) (hg : (wq.alloc o).grownBy w11 none) (o2 : Obj) :
    BRow ((w11.setCell ⟨wq.heap.size, 6, none⟩ v').alloc o2) B r l ∧ IntsM (memFr ((w11.setCell ⟨wq.heap.size, 6, none⟩ v').alloc o2) (fun k => k < B ∨ r.ownBlock = some k)) v' m ∧ Below wq.heap.size wq ((w11.setCell ⟨wq.heap.size, 6, none⟩ v').alloc o2) := by
  have hu0 : Upd (fun k => wq.heap.size ≤ k) (wq.alloc o) w11 := (Upd.refl _ _).grown hg (fun k e => by cases e)
  have hu1 : Upd (fun k => k = wq.heap.size) w11 ((w11.setCell ⟨wq.heap.size, 6, none⟩ v').alloc o2) := ((Upd.refl (fun k => k = wq.heap.size) w11).setCell (.inl rfl) _).alloc _
  have hu : Upd (fun k => wq.heap.size ≤ k) wq ((w11.setCell ⟨wq.heap.size, 6, none⟩ v').alloc o2) := (((Upd.refl _ wq).alloc o).trans hu0 (fun i h => .inl h)).trans hu1 (fun i h => .inl (by rw [h]; exact Nat.le_refl _))
  refine ⟨hr.kept hu (fun k h => .inr h), ?_, hu.below (fun i h => h) (Nat.le_refl _)⟩
  have h1 := IRow.kept hI hu1 (fun k e h => by have := hI.ge k e; simp at this; omega)
  refine h1.intsFr (fun k e h => ?_)
  have h2 := hI.ge k e
  simp at h2
  rcases h with h | h
  · omega
  · have := (hr.ge k h).2; omega
theorem BRow.less {w : World} {B B' : Nat} {v : Value} {l : List Blk} (h : BRow w B v l) (hB : B' ≤ B) : BRow w B' v l := by
  obtain ⟨vs, h1, h2⟩ := h
  refine ⟨vs, ⟨h1.1, ?_⟩, h2.mono (memFr_mono (Upd.refl (fun _ => False) w) (fun k _ hf => ⟨fun g => hf (g.elim (fun h => .inl (by omega)) .inr), fun g => g⟩))⟩
  rcases h1.2 with hq | ⟨g, cap, cur, e, hb, rest⟩
  · exact .inl hq
  · exact .inr ⟨g, cap, cur, e, by omega, rest⟩
theorem IRow.less {w : World} {B B' : Nat} {v : Value} {l : List Int} (h : IRow w B v l) (hB : B' ≤ B) : IRow w B' v l := by
  refine ⟨h.1, ?_⟩
  rcases h.2 with hq | ⟨g, cap, cur, e, hb, rest⟩
  · exact .inl hq
  · exact .inr ⟨g, cap, cur, e, by omega, rest⟩
theorem BRow.drew {w : World} {B : Nat} {v : Value} {l : List Blk} (h : BRow w B v l) : BRow w.drew B v l := h
theorem IRow.drew {w : World} {B : Nat} {v : Value} {l : List Int} (h : IRow w B v l) : IRow w.drew B v l := h
/-- what the loop over the order has come to -/
structure OutK (base a b : List Blk) (L : List Int) (W : World) (k : Nat) (r : Value) (wq : World) : Prop where
  row : BRow wq W.heap.size r ((L.take k).filterMap fun i => (pickAt base a b i).1)
  below : Below W.heap.size W wq
theorem OutK.step {base a b : List Blk} {L : List Int} {W wq w' w2 : World} {k : Nat} {r v : Value} {x : Blk} (h : OutK base a b L W k r wq) (hk : k < L.length) (hx : (pickAt base a b L[k]).1 = some x) (hb : Below wq.heap.size wq w') (hr : BRow w2 W.heap.size v (((L.take k).filterMap fun i => (pickAt base a b i).1) ++ [x])) (hg : w'.grownBy w2 r.ownBlock) : OutK base a b L W (k + 1) v w2 := by
  refine ⟨?_, ?_⟩
  · rw [List.take_succ_eq_append_getElem hk, List.filterMap_append, List.filterMap_cons_some (f := fun i => (pickAt base a b i).1) hx]; exact hr
  · have h1 := h.below.trans (hb.mono h.below.size)
    exact h1.grown hg h1.size (fun k e => (h.row.ge k e).1)

set_option maxRecDepth 100000 in
set_option maxHeartbeats 8000000 in
theorem merge_good {mem : Addr → Option Value} {v1 v2 v3 : Value} {base a b : List Blk} (h1 : BlksM mem v1 base) (h2 : BlksM mem v2 a) (h3 : BlksM mem v3 b) (p1 : ValidL base) (p2 : ValidL a) (p3 : ValidL b) (w : World) (hs : Sees mem w) :
    Calls Tryz.prog 14 #[v1, v2, v3] w (MergePost base a b w) := by
  have c1 := fun W hW => valid_bool h1 (decide_eq_true p1) W hW
  have c2 := fun W hW => valid_bool h2 (decide_eq_true p2) W hW
  have c3 := fun W hW => valid_bool h3 (decide_eq_true p3) W hW
  have m1 := fun W hW => byID_any h1 (by have := p1.1; omega) p1.2.2 W hW
  have m2 := fun W hW => byID_any h2 (by have := p2.1; omega) p2.2.2 W hW
  have m3 := fun W hW => byID_any h3 (by have := p3.1; omega) p3.2.2 W hW
  obtain ⟨xs, hx⟩ := okIds3 h1 h2 h3
  have hxl : xs.length ≤ 72 := by
    have e := congrArg List.length hx
    have q1 := p1.1; have q2 := p2.1; have q3 := p3.1
    simp [idsOf, vals] at e
    omega
  obtain ⟨a1, n1, rfl⟩ := h1.slice
  obtain ⟨a2, n2, rfl⟩ := h2.slice
  obtain ⟨a3, n3, rfl⟩ := h3.slice
  have HS := Lib.hid hs
  have HH := Lib.hid (And.intro h1 (And.intro h2 h3))
  have HPV := Lib.hid (And.intro p1 (And.intro p2 p3))
  clear h1 h2 h3 p1 p2 p3 hs
  go_enter Tryz.func14, Tryz.ntmps14
  go_wp2_with fail
  refine (c1 w HS.out).mono ?_
  rintro e w1 ⟨rfl, hb⟩
  have hs := HS.out.bel hb
  go_wp2_with fail
  refine (c2 w1 hs).mono ?_
  rintro e w2 ⟨rfl, hb'⟩
  replace hs := hs.bel hb'
  replace hb := hb.trans (hb'.mono hb.size)
  clear hb'
  go_wp2_with fail
  refine (c3 w2 hs).mono ?_
  rintro e w3 ⟨rfl, hb'⟩
  replace hs := hs.bel hb'
  replace hb := hb.trans (hb'.mono hb.size)
  clear hb' c1 c2 c3
  go_wp2_with fail
  refine (m1 w3 hs).mono ?_
  rintro e w4 ⟨rfl, E1, hb'⟩
  replace hs := hs.bel hb'
  have hz3 := hb.size
  replace hb := hb.trans (hb'.mono hb.size)
  clear hb' m1
  go_wp2_with fail
  refine (m2 w4 hs).mono ?_
  rintro e w5 ⟨rfl, E2, hb'⟩
  replace hs := hs.bel hb'
  replace E1 := E1.bel hb'
  have hz4 := hb.size
  replace hb := hb.trans (hb'.mono hb.size)
  clear hb' m2
  go_wp2_with fail
  refine (m3 w5 hs).mono ?_
  rintro e w6 ⟨rfl, E3, hb'⟩
  replace hs := hs.bel hb'
  replace E1 := E1.bel hb'
  replace E2 := E2.bel hb'
  have hz5 := hb.size
  replace hb := hb.trans (hb'.mono hb.size)
  clear hb' m3
  obtain ⟨M1, HM1⟩ := named w3.heap.size
  obtain ⟨M2, HM2⟩ := named w4.heap.size
  obtain ⟨M3, HM3⟩ := named w5.heap.size
  rw [← HM1.out] at E1 hz3 ⊢
  rw [← HM2.out] at E2 hz4 ⊢
  rw [← HM3.out] at E3 hz5 ⊢
  have hmk := fun W => run_makeMap_none (P := Tryz.prog) 41 W
  go_wp2_with fail
  clear hmk
  refine (each_any _ ⟨_, _, _, rfl⟩ _).mono ?_
  rintro e w' ⟨rfl, rfl⟩
  obtain ⟨os, HO⟩ := named (α := List Obj) [.cells #[.map (some M1)] 41, .cells #[.map (some M2)] 41, .cells #[.map (some M3)] 41, .map #[] 0, .cells #[.map (some (w6.heap.size + 1 + 1 + 1))] 41, .cells #[.slice none 0 0] 25, .cells #[.slice a1 base.length n1, .slice a2 a.length n2, .slice a3 b.length n3] 22, .cells #[.slice (some ⟨w6.heap.size + 1 + 1 + 1 + 1 + 1 + 1, 0, none⟩) 3 3] 68]
  obtain ⟨W1, HW1⟩ := named (allocL w6 os)
  have hW1 := HW1.out
  rw [HO.out] at hW1
  simp only [allocL, List.foldl_cons, List.foldl_nil] at hW1
  rw [← hW1]
  clear hW1
  have hz1 : W1.heap.size = w6.heap.size + 8 := by rw [HW1.out, allocL_size, HO.out]; rfl
  have hbW : Below w6.heap.size w6 W1 := by rw [HW1.out]; exact allocL_below _ _
  have hcell : ∀ j o, os[j]? = some o → W1.heap[w6.heap.size + j]? = some o := fun j o h => by rw [HW1.out]; exact allocL_heap os w6 j o h
  rw [HO.out] at hcell
  have b1 : Boxed W1 w6.heap.size 41 (.map (some M1)) := hcell 0 _ rfl
  have b2 : Boxed W1 (w6.heap.size + 1) 41 (.map (some M2)) := hcell 1 _ rfl
  have b3 : Boxed W1 (w6.heap.size + 2) 41 (.map (some M3)) := hcell 2 _ rfl
  have b4 : Boxed W1 (w6.heap.size + 4) 41 (.map (some (w6.heap.size + 3))) := hcell 4 _ rfl
  have b5 : Boxed W1 (w6.heap.size + 5) 25 (.slice none 0 0) := hcell 5 _ rfl
  have q6 := hcell 6 _ rfl
  have q7 := hcell 7 _ rfl
  have eC : EMap mem W1 (w6.heap.size + 3) 0 (fun _ => none) := EMap.fresh (hcell 3 _ rfl)
  have l1 := E1.lt
  have l2 := E2.lt
  have l3 := E3.lt
  have hs1 := hs.bel hbW
  have hl := lists3 HH.out.1 HH.out.2.1 HH.out.2.2 hs1 (g := w6.heap.size + 6) ((blk_cell q6 0).trans rfl) ((blk_cell q6 1).trans rfl) ((blk_cell q6 2).trans rfl)
  have cP := positions_any (w6.heap.size + 7) (fun a => W1.cell? a) W1 (Sees.self W1) (fun a u e => cell_lt e) _ _ hl ((blk_cell q7 0).trans rfl) xs hx (by omega)
  clear q6 q7 hl hcell
  replace E1 := E1.bel hbW
  replace E2 := E2.bel hbW
  replace E3 := E3.bel hbW
  go_wp2_with fail
  refine cP.mono ?_
  rintro e w7 ⟨K, es, rfl, hK, hP, hb7, _⟩
  clear cP
  go_wp2_with fail
  refine (keys_any _ _).mono ?_
  rintro e w' ⟨rfl, rfl⟩
  go_wp2_with fail
  have cS := sorted_any K es w7 hK (by have := hP.len hK.nodup; rw [List.length_map] at this; omega)
  refine cS.mono ?_
  rintro e w8 ⟨sv, s, rfl, hrow, hup, hmem, hb8⟩
  clear cS
  have hkx : ∀ y, y ∈ s ↔ y ∈ vals xs := fun y => (hmem y).trans (hP.keys y)
  have hok : ∀ y ∈ s, okI y := fun y hy => hK.okI y ((hmem y).1 hy)
  have hnd : s.Nodup := hup.imp (fun h e => by omega)
  have hsl : s.length ≤ 72 := by
    have := List.Nodup.length_le_of_subset hnd (fun y hy => (hkx y).1 hy)
    rw [List.length_map] at this
    omega
  have hall : ∀ y, (y ∈ ids base ∨ y ∈ ids a ∨ y ∈ ids b) ↔ y ∈ s := fun y => by
    rw [hkx, hx]; simp [idsOf]
  have hbx : Below W1.heap.size W1 w8 := hb7.trans (((Below.refl _ w7).alloc (Nat.le_refl _) _ |>.trans (hb8.mono (by simp))).mono hb7.size)
  replace b1 := boxed_bel b1 hbx
  replace b2 := boxed_bel b2 hbx
  replace b3 := boxed_bel b3 hbx
  replace b4 := boxed_bel b4 hbx
  replace b5 := boxed_bel b5 hbx
  replace E1 := E1.bel hbx
  replace E2 := E2.bel hbx
  replace E3 := E3.bel hbx
  replace eC := eC.bel hbx
  have hs8 := hs1.bel hbx
  have hn8 := hbx.size
  have hbw : Below w.heap.size w w8 := (hb.trans (hbW.mono hb.size)).trans (hbx.mono (by have := hb.size; omega))
  have hl1 := E1.lt
  have hrowI : IRow w8 (W1.heap.size) sv s := ⟨hrow.1, by
    have := hb7.size
    rcases hrow.2 with h | ⟨g, cp, cur, h1, h2, rest⟩
    · exact .inl h
    · exact .inr ⟨g, cp, cur, h1, by simp at h2; omega, rest⟩⟩
  clear hP hK hmem hkx hb7 hb8 hrow hs1 hbW hb hs hx hxl HO HW1 hbx
  clear HM1 HM2 HM3 hl1
  obtain ⟨S, HSz⟩ := named w6.heap.size
  rw [← HSz.out] at b1 b2 b3 b4 b5 eC l1 l2 l3 hz1
  have H0 := Lib.hid (TakeK.mk (mem := mem) (base := base) (a := a) (b := b) (s := s) (C := S + 3) (b5 := S + 5) (N := w8.heap.size) (W := w8) (k := 0) (Upd.refl _ _) (by simpa using eC) ⟨_, b5, World.ownsRow_nil _ _ _ _⟩)
  clear eC b5
  have HBX := Lib.hid (And.intro b1 (And.intro b2 (And.intro b3 (And.intro b4 (And.intro E1 (And.intro E2 (And.intro E3 (And.intro hrowI (And.intro hs8 hbw)))))))))
  have HSL := Lib.hid (And.intro hup (And.intro hok (And.intro hnd hall)))
  obtain ⟨ao, cap, rfl⟩ := hrowI.shape
  clear b1 b2 b3 b4 E1 E2 E3 hrowI hs8 hbw hup hok hnd hall
  rw [← HSz.out]
  go_wp2_with fail
  go_loopw [53] (fun i wr => ∃ k : Nat, k ≤ s.length ∧ i = .int .i64 k ∧ Hid (TakeK mem base a b s (S + 3) (S + 5) w8.heap.size w8 k wr)) (fun i _ => s.length - (Go.RowKit.intOf i).toNat)
  case atStart => exact ⟨0, Nat.zero_le _, rfl, H0⟩
  case round =>
    obtain ⟨k, hk, rfl, hT⟩ := hrel
    by_cases hlt : k < s.length
    · obtain ⟨b1, b2, b3, b4, E1, E2, E3, hrowI, hs8, hbw⟩ := HBX.out
      obtain ⟨hup, hok, hnd, hall⟩ := HSL.out
      obtain ⟨g, cp, e, _, _, hgl, hc⟩ := hrowI.cells k hlt
      injection e with e _ e2
      subst e e2
      have hgg : g < w8.heap.size := cell_lt hc
      have hu := hT.out.upd
      have hc' := hu.cell_some hc (by show ¬ (g = S + 3 ∨ g = S + 5 ∨ w8.heap.size ≤ g); omega)
      have hbr : Below w.heap.size w wr := hbw.trans (hu.below (fun k hk => by omega) hbw.size)
      obtain ⟨r, hb5, hr⟩ := hT.out.row
      have hL : ((s.take k).filter (fun i => (pickAt base a b i).2)).length ≤ 100000 := by have := List.length_filter_le (fun i => (pickAt base a b i).2) (s.take k); rw [List.length_take] at this; omega
      have hN : ((s.take k).filter (hasAt base a b)).length ≤ 100000 := by have := List.length_filter_le (hasAt base a b) (s.take k); rw [List.length_take] at this; omega
      have cT := take_any s[k] wr (HS.out.bel hbr) (E1.upd hu (by omega)) (E2.upd hu (by omega)) (E3.upd hu (by omega)) hT.out.map (by rw [if_neg (take_not hnd hlt)]) hN (hok _ (List.getElem_mem hlt))
        (boxed_upd b1 hu (by omega)) (boxed_upd b2 hu (by omega)) (boxed_upd b3 hu (by omega)) (boxed_upd b4 hu (by omega)) hb5 hr hL hu.size (by omega) (by omega) (by omega)
      have hst := fun wr' (h : TakePost mem (S + 3) (S + 5) w8.heap.size _ _ (pick (find base s[k]) (find a s[k]) (find b s[k])) s[k] _ wr wr') => Lib.hid (hT.out.step hlt rfl rfl rfl h)
      have HST := Lib.hid hst
      clear hst hc hbr hr hb5 hu b1 b2 b3 b4 E1 E2 E3 hrowI hs8 hbw hup hok hnd hall hL hN
      generalize s[k] = x at *
      go_wp2_with fail
      refine cT.mono ?_
      rintro e w9 ⟨rfl, hTP⟩
      have HT2 := HST.out _ hTP
      clear hTP cT HST
      go_wp2_with fail
      go_roundw
      case rel => exact ⟨k + 1, by omega, by go_num, HT2⟩
      case measure => simp [Go.RowKit.intOf]; omega
    · have e : k = s.length := by omega
      subst e
      obtain ⟨b1, b2, b3, b4, E1, E2, E3, hrowI, hs8, hbw⟩ := HBX.out
      obtain ⟨hup, hok, hnd, hall⟩ := HSL.out
      obtain ⟨p1, p2, p3⟩ := HPV.out
      obtain ⟨hu, hM, r, hb5, hr⟩ := hT.out
      rw [List.take_length] at hM hr
      have hbr : Below w.heap.size w wr := hbw.trans (hu.below (fun k hk => by omega) hbw.size)
      have hcnt : (s.filter (hasAt base a b)).length = (merged base a b).length := contents_count p2.2.2 p3.2.2 hnd (fun y hy => (hall y).1 (hy.elim (fun h => .inr (.inl h)) (fun h => .inr (.inr h))))
      rw [hcnt] at hM
      replace hM := hM.ext (g := fun i => (pickAt base a b i).1) (fun i => by
        by_cases hi : i ∈ s
        · rw [if_pos hi]
        · rw [if_neg hi]
          cases hq : (pickAt base a b i).1 with
          | none => rfl
          | some x => exact absurd ((hall i).1 (.inr (has_in (by unfold hasAt; rw [hq]; rfl)))) hi)
      have hcf : s.filter (fun i => (pickAt base a b i).2) = confs base a b := conflicts_eq _ hup (fun y hy => by
          rcases (hall y).2 hy with h | h | h
          · exact p1.range y h
          · exact p2.range y h
          · exact p3.range y h) (fun y hy => (hall y).1 (conflict_in hy))
      rw [hcf] at hr
      have b4r := boxed_upd b4 hu (by omega)
      have c4 := b4r.cell
      have c5 := hb5.cell
      have hlen := fun ty => hM.len ty
      have hsr := HS.out.bel hbr
      clear b1 b2 b3 b4 E1 E2 E3 hrowI hs8 hbw hup hok hnd hall hcnt hcf
      by_cases hn : (merged base a b).length ≤ 24
      · go_wp2_with fail
        have cM := moved_any HH.out.1 HH.out.2.2 (by have := HPV.out.1.1; omega) wr hsr
        refine cM.mono ?_
        clear cM
        rintro e wm ⟨rfl, hbm⟩
        have hkp := movedL_keeps (base := ids base) (l := ids b) HPV.out.1.2.2 HPV.out.2.2.2.2
        have hM2 := hM.bel hbm
        have hsm := hsr.bel hbm
        replace c4 := (boxed_bel b4r hbm).cell
        have hcO := fun (vl vf : Value) (lead foll : List Blk) (h1 : BlksM mem vl lead) (h2 : BlksM mem vf foll) (h3 : ValidL lead) (h4 : ValidL foll) => order_any h1 h2 (by have := h3.1; omega) (by have := h4.1; omega) _ _ _ wm hsm hM2
        have e1 : (fun i => ((pickAt base a b i).1).isSome) = hasAt base a b := rfl
        rw [e1] at hcO
        have HCO := Lib.hid hcO
        clear hcO hsm hlen hsr
        generalize hq : movedL (ids base) (-1) (ids b) = q at *
        cases q
        · have hor : orderOf base a b = orderF (hasAt base a b) (ids a) (ids b) := by unfold orderOf; rw [if_pos (hkp.1 rfl)]
          have cO := HCO.out _ _ _ _ HH.out.2.1 HH.out.2.2 HPV.out.2.1 HPV.out.2.2
          rw [← hor] at cO
          clear hor hkp
          go_wp2_with fail
          refine cO.mono ?_
          clear cO HCO
          rintro e w10 ⟨ov, rfl, hov, hb10⟩
          have hbx : Below wr.heap.size wr w10 := hbm.trans (hb10.mono hbm.size)
          have hMx := hM.bel hbx
          have b4x := boxed_bel b4r hbx
          have b5x := boxed_bel hb5 hbx
          have hrx := hr.bel hbx
          have hsx := (HS.out.bel hbr).bel hbx
          have hbwx : Below w.heap.size w w10 := hbr.trans (hbx.mono hbr.size)
          have hNx : w8.heap.size ≤ w10.heap.size := Nat.le_trans hu.size hbx.size
          obtain ⟨hoi, hom⟩ := orderOf_inv (base := base) HPV.out.2.1.2.2 HPV.out.2.2.2.2
          have hmg : merged base a b = (orderOf base a b).filterMap fun i => (pickAt base a b i).1 := rfl
          obtain ⟨L, HL⟩ := named (orderOf base a b)
          rw [← HL.out] at hov hom hoi hmg
          have hov' : IRow w10 w.heap.size ov L := hov.less (Nat.le_trans hbr.size hbm.size)
          have hLl : L.length ≤ 48 := by
            have h := congrArg List.length (merged_ids (base := base) HPV.out.2.1.2.2 HPV.out.2.2.2.2)
            rw [List.length_map, ← HL.out] at h
            omega
          have hLok : ∀ (k : Nat) (h : k < L.length), ∃ x, (pickAt base a b L[k]).1 = some x ∧ okI L[k] ∧ x.lab.after.length ≤ 64 := fun k h => by
            obtain ⟨x, hx⟩ := Option.isSome_iff_exists.1 ((hom L[k]).1 (List.getElem_mem h))
            obtain ⟨g1, g2⟩ := pickAt_id hx
            refine ⟨x, hx, ?_, ?_⟩
            · rw [← g1]
              rcases g2 with g2 | g2
              · have := HPV.out.2.1.range x.id (List.mem_map.2 ⟨x, g2, rfl⟩); unfold okI; omega
              · have := HPV.out.2.2.range x.id (List.mem_map.2 ⟨x, g2, rfl⟩); unfold okI; omega
            · exact g2.elim (valid_after HPV.out.2.1) (valid_after HPV.out.2.2)
          have HX := Lib.hid (And.intro hMx (And.intro b4x (And.intro b5x (And.intro hrx (And.intro hsx (And.intro hbwx (And.intro hov' (And.intro hmg hLok))))))))
          obtain ⟨oa, oc, rfl⟩ := hov.shape
          have H0 := Lib.hid (OutK.mk (base := base) (a := a) (b := b) (L := L) (W := w10) (k := 0) (BRow.nil _ _) (Below.refl _ w10))
          have c5x := b5x.cell
          clear hMx b4x b5x hrx hsx hbwx hov' hmg hLok hM hM2 b4r hb5 hr hbr hbx hom hoi hov hb10 hbm c4 c5 e1 hq
          go_wp2_with fail
          go_loopw [76, 19] (fun i r wq => ∃ k : Nat, k ≤ L.length ∧ i = .int .i64 k ∧ (∃ ra rn rc, r = .slice ra rn rc) ∧ Hid (OutK base a b L w10 k r wq)) (fun i _ _ => L.length - (Go.RowKit.intOf i).toNat)
          case atStart => exact ⟨0, Nat.zero_le _, rfl, ⟨_, _, _, rfl⟩, H0⟩
          case round =>
            obtain ⟨k, hk, rfl, ⟨ra, rn, rc, rfl⟩, hO⟩ := hrel
            by_cases hlt : k < L.length
            · obtain ⟨hMx, b4x, b5x, hrx, hsx, hbwx, hov, hmg, hLok⟩ := HX.out
              have hb := hO.out.below
              obtain ⟨g, cp, e, _, _, hgl, hc⟩ := hov.cells k hlt
              injection e with e _ e2
              subst e e2
              have hgg : g < w10.heap.size := cell_lt hc
              have hc' := (hb.cell (p := ⟨g, k, none⟩) hgg).trans hc
              obtain ⟨x, hx, hok, hal⟩ := hLok k hlt
              obtain ⟨v, hlk, hev⟩ := (hMx.bel hb).look hok
              rw [hx] at hev
              obtain ⟨ao, ac, hints, rfl⟩ := hev
              simp only [entAgg] at hlk
              have hfb := fun W => field_block x.id x.kind x.story x.ref x.lab.till x.lab.appr x.lab.denied x.text ao x.lab.after.length ac true W
              have c4 := (boxed_bel b4x hb).cell
              have hsq := hsx.bel hb
              have HSt := Lib.hid (fun (w' w2 : World) (v : Value) (h1 : Below wr.heap.size wr w') h2 h3 => Lib.hid (OutK.step (w' := w') (w2 := w2) (v := v) hO.out hlt hx h1 h2 h3))
              have hrow := hO.out.row
              have hsz := hb.size
              have hBk := (((L.take k).filterMap fun i => (pickAt base a b i).1)).length
              have hlen : (((L.take k).filterMap fun i => (pickAt base a b i).1)).length ≤ 100000 := by
                have := List.length_filterMap_le (fun i => (pickAt base a b i).1) (L.take k)
                rw [List.length_take] at this; omega
              clear hMx b4x b5x hrx hsx hbwx hov hmg hLok hb hc hx hBk
              generalize (L.take k).filterMap (fun i => (pickAt base a b i).1) = Lk at *
              generalize L[k] = y at *
              have hB : w10.heap.size ≤ wr.heap.size := hsz
              go_wp2_with (first
                | (at_builtin; refine wpList_app_after rfl _ _ rfl rfl ao ac x.lab.after rfl hints (hsq.alloc _) (by omega) ?_; intro v' w11 hI hg11
                   have hh := (hg11.block wr.heap.size (by simp) (by simp)).trans (World.alloc_heap_new _ _)
                   have f0 := blk_free hh 6
                   have d0 := blk_cell hh 0; have d1 := blk_cell hh 1; have d2 := blk_cell hh 2; have d3 := blk_cell hh 3; have d4 := blk_cell hh 4; have d5 := blk_cell hh 5; have d6 := blk_cell hh 6; have d7 := blk_cell hh 7; have d8 := blk_cell hh 8
                   obtain ⟨va, vc, rfl⟩ := hI.shape
                   simp only [List.getElem?_toArray, List.getElem?_cons_zero, List.getElem?_cons_succ] at d0 d1 d2 d3 d4 d5 d6 d7 d8)
                | (at_builtin
                   obtain ⟨r1, r2, r3⟩ := app_ready hrow hB hI hg11 (.cells (blkCells x (.slice va x.lab.after.length vc)) 39)
                   refine wpList_app_blk rfl _ _ rfl w10.heap.size _ Lk rfl r1 x va vc r2 w11.heap.size 1 rfl (by rw [← show (w11.setCell ⟨wr.heap.size, 6, none⟩ (.slice va x.lab.after.length vc)).heap.size = w11.heap.size by simp [World.setCell]]; exact World.alloc_heap_new _ _) hlen (Nat.le_trans hB r3.size) ?_
                   intro v2 w12 h12 hg12
                   have HFin := HSt.out _ _ _ r3 h12 hg12
                   obtain ⟨qa, qn, qc, rfl⟩ := h12.sl
                   clear h12 hg12 r1 r2 r3 hI hg11 hh HSt))
              go_roundw
              case rel => exact ⟨k + 1, by omega, by go_num, ⟨_, _, _, rfl⟩, HFin⟩
              case measure => simp [Go.RowKit.intOf]; omega
            · have e : k = L.length := by omega
              subst e
              obtain ⟨hMx, b4x, b5x, hrx, hsx, hbwx, hov, hmg, hLok⟩ := HX.out
              have hb := hO.out.below
              have c5 := (boxed_bel b5x hb).cell
              have hrow := hO.out.row
              rw [List.take_length, ← hmg] at hrow
              have hrow2 := hrow.less hbwx.size
              have hcf := (hrx.bel hb).less (B' := w.heap.size) (by omega)
              have hbf := hbwx.trans (hb.mono hbwx.size)
              have HF := Lib.hid (And.intro hrow2 (And.intro hcf hbf))
              clear hMx b4x b5x hrx hsx hbwx hov hmg hLok hb hrow hrow2 hcf hbf
              go_wp2_with fail
              go_region
              all_goals (try go_wp2)
              all_goals go_ret3
              obtain ⟨hrow2, hcf, hbf⟩ := HF.out
              unfold MergePost
              rw [mergeF_yes HPV.out hn]
              exact ⟨_, _, rfl, hrow2.drew, hcf.drew, hbf.drew⟩
        · have hor : orderOf base a b = orderF (hasAt base a b) (ids b) (ids a) := by unfold orderOf; rw [if_neg (fun h => by have := hkp.2 h; cases this)]
          have cO := HCO.out _ _ _ _ HH.out.2.2 HH.out.2.1 HPV.out.2.2 HPV.out.2.1
          rw [← hor] at cO
          clear hor hkp
          go_wp2_with fail
          refine cO.mono ?_
          clear cO HCO
          rintro e w10 ⟨ov, rfl, hov, hb10⟩
          have hbx : Below wr.heap.size wr w10 := hbm.trans (hb10.mono hbm.size)
          have hMx := hM.bel hbx
          have b4x := boxed_bel b4r hbx
          have b5x := boxed_bel hb5 hbx
          have hrx := hr.bel hbx
          have hsx := (HS.out.bel hbr).bel hbx
          have hbwx : Below w.heap.size w w10 := hbr.trans (hbx.mono hbr.size)
          have hNx : w8.heap.size ≤ w10.heap.size := Nat.le_trans hu.size hbx.size
          obtain ⟨hoi, hom⟩ := orderOf_inv (base := base) HPV.out.2.1.2.2 HPV.out.2.2.2.2
          have hmg : merged base a b = (orderOf base a b).filterMap fun i => (pickAt base a b i).1 := rfl
          obtain ⟨L, HL⟩ := named (orderOf base a b)
          rw [← HL.out] at hov hom hoi hmg
          have hov' : IRow w10 w.heap.size ov L := hov.less (Nat.le_trans hbr.size hbm.size)
          have hLl : L.length ≤ 48 := by
            have h := congrArg List.length (merged_ids (base := base) HPV.out.2.1.2.2 HPV.out.2.2.2.2)
            rw [List.length_map, ← HL.out] at h
            omega
          have hLok : ∀ (k : Nat) (h : k < L.length), ∃ x, (pickAt base a b L[k]).1 = some x ∧ okI L[k] ∧ x.lab.after.length ≤ 64 := fun k h => by
            obtain ⟨x, hx⟩ := Option.isSome_iff_exists.1 ((hom L[k]).1 (List.getElem_mem h))
            obtain ⟨g1, g2⟩ := pickAt_id hx
            refine ⟨x, hx, ?_, ?_⟩
            · rw [← g1]
              rcases g2 with g2 | g2
              · have := HPV.out.2.1.range x.id (List.mem_map.2 ⟨x, g2, rfl⟩); unfold okI; omega
              · have := HPV.out.2.2.range x.id (List.mem_map.2 ⟨x, g2, rfl⟩); unfold okI; omega
            · exact g2.elim (valid_after HPV.out.2.1) (valid_after HPV.out.2.2)
          have HX := Lib.hid (And.intro hMx (And.intro b4x (And.intro b5x (And.intro hrx (And.intro hsx (And.intro hbwx (And.intro hov' (And.intro hmg hLok))))))))
          obtain ⟨oa, oc, rfl⟩ := hov.shape
          have H0 := Lib.hid (OutK.mk (base := base) (a := a) (b := b) (L := L) (W := w10) (k := 0) (BRow.nil _ _) (Below.refl _ w10))
          have c5x := b5x.cell
          clear hMx b4x b5x hrx hsx hbwx hov' hmg hLok hM hM2 b4r hb5 hr hbr hbx hom hoi hov hb10 hbm c4 c5 e1 hq
          go_wp2_with fail
          go_loopw [76, 19] (fun i r wq => ∃ k : Nat, k ≤ L.length ∧ i = .int .i64 k ∧ (∃ ra rn rc, r = .slice ra rn rc) ∧ Hid (OutK base a b L w10 k r wq)) (fun i _ _ => L.length - (Go.RowKit.intOf i).toNat)
          case atStart => exact ⟨0, Nat.zero_le _, rfl, ⟨_, _, _, rfl⟩, H0⟩
          case round =>
            obtain ⟨k, hk, rfl, ⟨ra, rn, rc, rfl⟩, hO⟩ := hrel
            by_cases hlt : k < L.length
            · obtain ⟨hMx, b4x, b5x, hrx, hsx, hbwx, hov, hmg, hLok⟩ := HX.out
              have hb := hO.out.below
              obtain ⟨g, cp, e, _, _, hgl, hc⟩ := hov.cells k hlt
              injection e with e _ e2
              subst e e2
              have hgg : g < w10.heap.size := cell_lt hc
              have hc' := (hb.cell (p := ⟨g, k, none⟩) hgg).trans hc
              obtain ⟨x, hx, hok, hal⟩ := hLok k hlt
              obtain ⟨v, hlk, hev⟩ := (hMx.bel hb).look hok
              rw [hx] at hev
              obtain ⟨ao, ac, hints, rfl⟩ := hev
              simp only [entAgg] at hlk
              have hfb := fun W => field_block x.id x.kind x.story x.ref x.lab.till x.lab.appr x.lab.denied x.text ao x.lab.after.length ac true W
              have c4 := (boxed_bel b4x hb).cell
              have hsq := hsx.bel hb
              have HSt := Lib.hid (fun (w' w2 : World) (v : Value) (h1 : Below wr.heap.size wr w') h2 h3 => Lib.hid (OutK.step (w' := w') (w2 := w2) (v := v) hO.out hlt hx h1 h2 h3))
              have hrow := hO.out.row
              have hsz := hb.size
              have hBk := (((L.take k).filterMap fun i => (pickAt base a b i).1)).length
              have hlen : (((L.take k).filterMap fun i => (pickAt base a b i).1)).length ≤ 100000 := by
                have := List.length_filterMap_le (fun i => (pickAt base a b i).1) (L.take k)
                rw [List.length_take] at this; omega
              clear hMx b4x b5x hrx hsx hbwx hov hmg hLok hb hc hx hBk
              generalize (L.take k).filterMap (fun i => (pickAt base a b i).1) = Lk at *
              generalize L[k] = y at *
              have hB : w10.heap.size ≤ wr.heap.size := hsz
              go_wp2_with (first
                | (at_builtin; refine wpList_app_after rfl _ _ rfl rfl ao ac x.lab.after rfl hints (hsq.alloc _) (by omega) ?_; intro v' w11 hI hg11
                   have hh := (hg11.block wr.heap.size (by simp) (by simp)).trans (World.alloc_heap_new _ _)
                   have f0 := blk_free hh 6
                   have d0 := blk_cell hh 0; have d1 := blk_cell hh 1; have d2 := blk_cell hh 2; have d3 := blk_cell hh 3; have d4 := blk_cell hh 4; have d5 := blk_cell hh 5; have d6 := blk_cell hh 6; have d7 := blk_cell hh 7; have d8 := blk_cell hh 8
                   obtain ⟨va, vc, rfl⟩ := hI.shape
                   simp only [List.getElem?_toArray, List.getElem?_cons_zero, List.getElem?_cons_succ] at d0 d1 d2 d3 d4 d5 d6 d7 d8)
                | (at_builtin
                   obtain ⟨r1, r2, r3⟩ := app_ready hrow hB hI hg11 (.cells (blkCells x (.slice va x.lab.after.length vc)) 39)
                   refine wpList_app_blk rfl _ _ rfl w10.heap.size _ Lk rfl r1 x va vc r2 w11.heap.size 1 rfl (by rw [← show (w11.setCell ⟨wr.heap.size, 6, none⟩ (.slice va x.lab.after.length vc)).heap.size = w11.heap.size by simp [World.setCell]]; exact World.alloc_heap_new _ _) hlen (Nat.le_trans hB r3.size) ?_
                   intro v2 w12 h12 hg12
                   have HFin := HSt.out _ _ _ r3 h12 hg12
                   obtain ⟨qa, qn, qc, rfl⟩ := h12.sl
                   clear h12 hg12 r1 r2 r3 hI hg11 hh HSt))
              go_roundw
              case rel => exact ⟨k + 1, by omega, by go_num, ⟨_, _, _, rfl⟩, HFin⟩
              case measure => simp [Go.RowKit.intOf]; omega
            · have e : k = L.length := by omega
              subst e
              obtain ⟨hMx, b4x, b5x, hrx, hsx, hbwx, hov, hmg, hLok⟩ := HX.out
              have hb := hO.out.below
              have c5 := (boxed_bel b5x hb).cell
              have hrow := hO.out.row
              rw [List.take_length, ← hmg] at hrow
              have hrow2 := hrow.less hbwx.size
              have hcf := (hrx.bel hb).less (B' := w.heap.size) (by omega)
              have hbf := hbwx.trans (hb.mono hbwx.size)
              have HF := Lib.hid (And.intro hrow2 (And.intro hcf hbf))
              clear hMx b4x b5x hrx hsx hbwx hov hmg hLok hb hrow hrow2 hcf hbf
              go_wp2_with fail
              go_region
              all_goals (try go_wp2)
              all_goals go_ret3
              obtain ⟨hrow2, hcf, hbf⟩ := HF.out
              unfold MergePost
              rw [mergeF_yes HPV.out hn]
              exact ⟨_, _, rfl, hrow2.drew, hcf.drew, hbf.drew⟩
      · have HP := Lib.hid (mergePost_err (mergeF_long hn) hbr)
        go_wp2_with fail
        go_ret3
        exact HP.out
theorem merge_any {mem : Addr → Option Value} {v1 v2 v3 : Value} {base a b : List Blk} (h1 : BlksM mem v1 base) (h2 : BlksM mem v2 a) (h3 : BlksM mem v3 b) (w : World) (hs : Sees mem w) :
    Calls Tryz.prog 14 #[v1, v2, v3] w (MergePost base a b w) := by
  by_cases hv : ValidL base ∧ ValidL a ∧ ValidL b
  · exact merge_good h1 h2 h3 hv.1 hv.2.1 hv.2.2 w hs
  · exact merge_bad h1 h2 h3 hv w hs
end Go.Proofs.YtikpbknafhnieaaGreatDoor

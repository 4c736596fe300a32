/-
  WHAT IS PROVED HERE: the walk of merge.moved. Condition: at most 1000 blocks a list.
-/
import Derived.Test.YtikpbknafhnieaaGreatDoorPos
namespace Go.Proofs.YtikpbknafhnieaaGreatDoor
open Go.RowKit Mg Go.Shelf
attribute [local go_sem] Oper.semAt_some

/-- the last position, or none where a block was moved -/
def scanL (base : List Int) : Int → List Int → Option Int
  | last, [] => some last
  | last, i :: r => if i ∈ base then (if (base.idxOf i : Int) < last then none else scanL base (base.idxOf i) r) else scanL base last r
theorem scanL_moved (base : List Int) : ∀ (l : List Int) (last : Int), movedL base last l = (scanL base last l).isNone
  | [], _ => rfl
  | i :: r, last => by
    unfold movedL scanL
    split
    · split
      · rfl
      · exact scanL_moved base r _
    · exact scanL_moved base r _
theorem scanL_append (base : List Int) : ∀ (l r : List Int) (last : Int), scanL base last (l ++ r) = (scanL base last l).bind fun k => scanL base k r
  | [], _, _ => rfl
  | i :: l, r, last => by
    rw [List.cons_append, scanL, scanL]
    split
    · split
      · rfl
      · exact scanL_append base l r _
    · exact scanL_append base l r _
theorem scanL_snoc {base l : List Int} {last k i : Int} (h : scanL base last l = some k) : scanL base last (l ++ [i]) = if i ∈ base then (if (base.idxOf i : Int) < k then none else some (base.idxOf i : Int)) else some k := by
  rw [scanL_append, h]; rfl
theorem scanL_prefix {base l m : List Int} {last : Int} (h : l <+: m) (hn : scanL base last l = none) : scanL base last m = none := by
  obtain ⟨r, rfl⟩ := h
  rw [scanL_append, hn]; rfl
theorem okIds {mem : Addr → Option Value} {v : Value} {l : List Blk} (h : BlksM mem v l) : ∃ xs : List OkInt, vals xs = ids l := by
  obtain ⟨_, _, _, _, _, _, _, _, hb⟩ := h.open_
  have hk : ∀ i ∈ ids l, okI i := by
    intro i hi
    obtain ⟨b, hb1, rfl⟩ := List.mem_map.1 hi
    obtain ⟨j, hj, rfl⟩ := List.getElem_of_mem hb1
    exact (hb j hj).2.2.1.2.2
  clear hb
  generalize ids l = L at *
  induction L with
  | nil => exact ⟨[], rfl⟩
  | cons i r ih =>
    obtain ⟨xs, hx⟩ := ih (fun j hj => hk j (List.mem_cons_of_mem _ hj))
    exact ⟨⟨i, hk i List.mem_cons_self⟩ :: xs, by unfold vals at *; rw [List.map_cons, hx]⟩
theorem lists1 {mem : Addr → Option Value} {v : Value} {l : List Blk} (h : BlksM mem v l) {W : World} (hs : Sees mem W) {g : Nat} (hg : W.cell? ⟨g, 0, none⟩ = some v) : ListsM (fun a => W.cell? a) (.slice (some ⟨g, 0, none⟩) 1 1) [l] :=
  ⟨g, 1, rfl, by simp, by simp, by unfold maxLen; omega, fun j hj => by
    match j, hj with
    | 0, _ => exact ⟨v, hg, h.mono (fun a u e => hs a u e)⟩⟩
theorem idsOf_one (l : List Blk) : idsOf [l] = ids l := by simp [idsOf]
theorem cell_lt {W : World} {a : Addr} {u : Value} (h : W.cell? a = some u) : a.block < W.heap.size := World.block_lt_of_cell? W a h
/-- positions(each(l)) -/
theorem positions_each {mem : Addr → Option Value} {v : Value} {l : List Blk} (h : BlksM mem v l) (hl : l.length ≤ 100000) {W : World} (hs : Sees mem W) {g Bn : Nat} (hg : W.cell? ⟨g, 0, none⟩ = some v) (hB : W.cell? ⟨Bn, 0, none⟩ = some (.slice (some ⟨g, 0, none⟩) 1 1)) :
    Calls Tryz.prog 32 #[.func (.func 51) #[] #[.pointer (some ⟨Bn, 0, none⟩)]] W (PosPost (ids l) W) := by
  obtain ⟨xs, hx⟩ := okIds h
  have := positions_any Bn (fun a => W.cell? a) W (Sees.self W) (fun a u e => cell_lt e) _ [l] (lists1 h hs hg) hB xs (by rw [idsOf_one]; exact hx) (by have := congrArg List.length hx; simp at this; omega)
  rwa [hx] at this

set_option maxRecDepth 100000 in
set_option maxHeartbeats 4000000 in
theorem moved_wide (m : Nat) {mem : Addr → Option Value} {v u : Value} {base l : List Blk} (h1 : BlksM mem v base) (h2 : BlksM mem u l) (hl1 : base.length ≤ 100000) (w : World) (hs : Sees mem w) :
    CallsIn Fence.wide m Tryz.prog 34 #[v, u] w fun e w' => e = .returned (.bool (movedL (ids base) (-1) (ids l))) ∧ Below w.heap.size w w' := by
  refine callsIn_wide.2 ((callsIn_wide (n := 6)).1 ?_)
  obtain ⟨ao, cap, rfl⟩ := h1.slice
  obtain ⟨ao2, cap2, rfl⟩ := h2.slice
  obtain ⟨xs, hx⟩ := okIds h2
  refine callsIn_of_wp_marks Tryz.func34 rfl trivial ?_ rfl
  simp only [Tryz.ntmps34, List.size_toArray, List.length_cons, List.length_nil, Nat.reduceAdd, Nat.reduceSub, Array.replicate_succ, Array.replicate_zero, List.push_toArray, List.append_toArray, List.nil_append, List.cons_append]
  gi_wp2_with fail
  refine wpIn_scope_straight ?_
  gi_wp2_with fail
  refine ⟨trivial, ?_⟩
  refine (callsIn_wide.2 (each_any _ ⟨_, _, _, rfl⟩ _)).mono ?_
  rintro e w' ⟨rfl, rfl⟩
  obtain ⟨W2, HW2⟩ := named ((((w.alloc (.cells #[.bool false] 4)).alloc (.cells #[.slice ao base.length cap] 22)).alloc (.cells #[.slice (some ⟨w.heap.size + 1, 0, none⟩) 1 1] 68)))
  rw [← HW2.out]
  have hB2 : Below w.heap.size w W2 := by rw [HW2.out]; exact (((Below.refl _ w).alloc (Nat.le_refl _) _).alloc (by simp) _).alloc (by simp; omega) _
  have hz2 : W2.heap.size = w.heap.size + 3 := by rw [HW2.out]; simp
  have q0 : Boxed W2 w.heap.size 4 (.bool false) := by rw [HW2.out]; exact ((Boxed.new w _ _).alloc _).alloc _
  have q1 : W2.cell? ⟨w.heap.size + 1, 0, none⟩ = some (.slice ao base.length cap) := by rw [HW2.out]; exact cell_old (cell_new (by simp) rfl)
  have q2 : W2.cell? ⟨w.heap.size + 2, 0, none⟩ = some (.slice (some ⟨w.heap.size + 1, 0, none⟩) 1 1) := by rw [HW2.out]; exact cell_new (by simp) rfl
  have hz2i : w.heap.size + 3 ≤ W2.heap.size := by omega
  have cP := positions_each h1 hl1 (hs.bel hB2) q1 q2
  have HZ := Lib.hid hz2
  clear hz2 q1 q2
  gi_wp2_with fail
  refine ⟨trivial, ?_⟩
  refine (callsIn_wide.2 cP).mono ?_
  rintro e w3 ⟨K, es, rfl, hm, hp, hb3, hK⟩
  have hB3 : Below w.heap.size w w3 := hB2.trans (hb3.mono (by omega))
  have hz3 := hb3.size
  have q0' := q0.kept (grown_none hb3) (by simp)
  have HH := Lib.hid (And.intro hm (And.intro hp (And.intro hb3 q0)))
  clear hm hp hb3 q0 cP
  gi_wp2_with fail
  refine wpIn_label ?_
  gi_wp2_with fail
  refine ⟨trivial, ?_⟩
  refine (callsIn_wide.2 (each_any _ ⟨_, _, _, rfl⟩ _)).mono ?_
  rintro e w' ⟨rfl, rfl⟩
  gi_wp2_with fail
  obtain ⟨W5, HW5⟩ := named ((((w3.alloc (.cells #[.map (some K)] 52)).alloc (.cells #[.int .i64 (-1)] 3)).alloc (.cells #[.slice ao2 l.length cap2] 22)).alloc (.cells #[.slice (some ⟨w3.heap.size + 1 + 1, 0, none⟩) 1 1] 68))
  rw [← HW5.out]
  obtain ⟨hm, hp, hb3, q0⟩ := HH.out
  have hz5 : W5.heap.size = w3.heap.size + 4 := by rw [HW5.out]; simp
  have hB35 : Below w3.heap.size w3 W5 := by rw [HW5.out]; exact ((((Below.refl _ w3).alloc (Nat.le_refl _) _).alloc (by simp) _).alloc (by simp; omega) _).alloc (by simp; omega) _
  have hB5 : Below w.heap.size w W5 := hB3.trans (hB35.mono hB3.size)
  have r0 : Boxed W5 w.heap.size 4 (.bool false) := q0'.kept (grown_none hB35) (by simp)
  have r5 : Boxed W5 w3.heap.size 52 (.map (some K)) := by rw [HW5.out]; exact (((Boxed.new w3 _ _).alloc _).alloc _).alloc _
  have r6 : Boxed W5 (w3.heap.size + 1) 3 (.int .i64 (-1)) := by
    have h := (((Boxed.new (w3.alloc (.cells #[.map (some K)] 52)) 3 (.int .i64 (-1))).alloc (.cells #[.slice ao2 l.length cap2] 22)).alloc (.cells #[.slice (some ⟨w3.heap.size + 1 + 1, 0, none⟩) 1 1] 68))
    rw [World.size_alloc] at h
    rw [HW5.out]; exact h
  have r7 : W5.cell? ⟨w3.heap.size + 2, 0, none⟩ = some (.slice ao2 l.length cap2) := by rw [HW5.out]; exact cell_old (cell_new (by simp) rfl)
  have r8 : W5.cell? ⟨w3.heap.size + 3, 0, none⟩ = some (.slice (some ⟨w3.heap.size + 2, 0, none⟩) 1 1) := by rw [HW5.out]; exact cell_new (by simp) rfl
  have hmK : IMap Tryz.prog 3 W5 K es := hm.below hB35 hm.lt
  have hKl := hm.lt
  have hs5 : Sees mem W5 := hs.bel hB5
  have hin5 : ∀ a u, mem a = some u → memBut W5 (w3.heap.size + 1) a = some u := fun a u h => memBut_of (hs5 a u h) (by have h1 := cell_lt (hs a u h); have h2 := hB3.size; omega)
  have hls5 : ListsM (memBut W5 (w3.heap.size + 1)) (.slice (some ⟨w3.heap.size + 2, 0, none⟩) 1 1) [l] :=
    ⟨_, 1, rfl, by simp, by simp, by unfold maxLen; omega, fun j hj => by
      match j, hj with
      | 0, _ => exact ⟨_, memBut_of r7 (by simp), h2.mono hin5⟩⟩
  have hz : w.heap.size + 3 ≤ w3.heap.size := by omega
  clear HH HW5 HW2 HZ q0 q0'
  refine wpIn_rangeFunc_ownG rfl (by omega) (gf := 51) (lb := #[.pointer (some ⟨w3.heap.size + 3, 0, none⟩)]) rfl trivial (enters_of Tryz.func51 (by kernel_rfl) rfl)
    (each_stops _ (w3.heap.size + 3) (KeepB W5.heap.size (fun k => k = w3.heap.size + 1)) (memBut W5 (w3.heap.size + 1)) W5 (memBut_sees _ _) (sees_keepB memBut_lt) _ [l] hls5 (memBut_of r8 (by simp)) xs (by rw [idsOf_one]; exact hx)) keepB_t (keepB_b (Nat.le_refl _)) (Below.refl _ _) (fun _ => rfl)
    (fun pre W => ((Boxed W w.heap.size 4 (.bool false) ∧ Boxed W w3.heap.size 52 (.map (some K))) ∧ (∃ last : Int, scanL (ids base) (-1) (vals pre) = some last ∧ Boxed W (w3.heap.size + 1) 3 (.int .i64 last))) ∧ (IMap Tryz.prog 3 W K es ∧ Below w.heap.size w W))
    (fun c pre W => c = .ret ∧ Boxed W w.heap.size 4 (.bool true) ∧ scanL (ids base) (-1) (vals pre) = none ∧ Below w.heap.size w W)
    (OwnFrom.and (OwnFrom.and (OwnFrom.and (Own.from (boxed_own _ _ (fun _ => .bool false)) _) (Own.from (boxed_own _ _ (fun _ => .map (some K))) _))
        (fun s A B row ⟨last, g1, g2⟩ hg hr => ⟨last, g1, boxed_own _ _ (fun _ : Unit => .int .i64 last) () A B row g2 hg (fun r e => (hr r e).2)⟩))
      (OwnFrom.and (fun s A B row hs hg hr => hs.grown hg (fun e => by have := (hr _ e.symm).1; omega)) (ownFrom_below (Nat.le_refl _) (by omega))))
    (fun c s A B row ⟨g1, g2, g3, g4⟩ hg hr => ⟨g1, boxed_own _ _ (fun _ : Unit => .bool true) () A B row g2 hg (fun r e => (hr r e).2), g3, ownFrom_below (β := Unit) (B := W5.heap.size) (Nat.le_refl _) (by omega) () A B row g4 hg hr⟩)
    ⟨⟨⟨r0, r5⟩, -1, rfl, r6⟩, hmK, hB5⟩
    (fun x => { tmps := #[.slice ao base.length cap, .slice ao2 l.length cap2, undef, undef, .pointer (some ⟨w.heap.size, 0, none⟩), .pointer (some ⟨w3.heap.size, 0, none⟩), .pointer (some ⟨w3.heap.size + 1, 0, none⟩), .int .i64 x.1, undef, undef,
        .slice ao base.length cap, .slice (some ⟨w.heap.size + 1, 0, none⟩) 1 1, .func (.func 51) #[] #[.pointer (some ⟨w.heap.size + 1 + 1, 0, none⟩)], .map (some K), .slice ao2 l.length cap2, .slice (some ⟨w3.heap.size + 1 + 1, 0, none⟩) 1 1, .func (.func 51) #[] #[.pointer (some ⟨w3.heap.size + 1 + 1 + 1, 0, none⟩)], .int .i64 x.1, undef, undef, undef, undef, undef, undef, undef, undef, undef, undef, undef, undef], defers := [] }) ?assign ?body ?done ?stop
  case assign =>
    intro l x W K hK
    gi_wp2
    exact hK
  case body =>
    rintro l0 pre x W ⟨⟨⟨hb0, hb5⟩, last, hl, hb6⟩, hmW, hB⟩ hlt
    have c0 := hb0.cell
    have f0 := hb0.frozen
    have c5 := hb5.cell
    have c6 := hb6.cell
    have f6 := hb6.frozen
    have hlk := hmW.lookOk Tryz.underlying3 Tryz.underlying52 (zero_int W) x.2
    rw [hp.has, hp.val] at hlk
    have hsc := scanL_snoc (i := x.1) hl
    have HB := Lib.hid (And.intro hB (And.intro hb0 (And.intro hb5 (And.intro hb6 hmW))))
    have HV : Hid (vals (pre ++ [x]) = vals pre ++ [x.1]) := Lib.hid (by unfold vals; simp)
    clear hb0 hb5 hb6 hmW hB hl hlt hs hs5 hin5 hls5 hB2 hB3 hB35 hB5 hb3 h1 h2 hx hmK hm r0 r5 r6 r7 r8 hz5
    by_cases hmem : x.1 ∈ ids base
    · rw [decide_eq_true hmem, if_pos hmem] at hlk
      rw [if_pos hmem] at hsc
      clear hmem hp
      generalize (((ids base).idxOf x.1 : Nat) : Int) = z at *
      by_cases hlz : z < last
      · rw [if_pos hlz] at hsc
        have HS := Lib.hid hsc
        clear hsc
        gi_wp2
        obtain ⟨hB, hb0, hb5, hb6, hmW⟩ := HB.out
        exact ⟨(KeepsOthers.setCell _ _ _).from _, rfl, hb0.set _, by show scanL (ids base) (-1) (vals (pre ++ [x])) = _; rw [HV.out]; exact HS.out, hB.setCell (p := ⟨w.heap.size, 0, none⟩) (Nat.le_refl _) _⟩
      · rw [if_neg hlz] at hsc
        have HS := Lib.hid hsc
        clear hsc
        gi_wp2
        obtain ⟨hB, hb0, hb5, hb6, hmW⟩ := HB.out
        exact ⟨(KeepsOthers.setCell _ _ _).from _, fun k hk hf => Below.heap_setCell _ _ _ _ (fun e => hf e), ⟨⟨⟨hb0.other (by omega) _, hb5.other (by omega) _⟩, z, by show scanL (ids base) (-1) (vals (pre ++ [x])) = _; rw [HV.out]; exact HS.out, hb6.set _⟩, hmW.setCell _ (by simp; omega), hB.setCell (p := ⟨w3.heap.size + 1, 0, none⟩) (by simp; omega) _⟩⟩
    · rw [decide_eq_false hmem, if_neg hmem] at hlk
      rw [if_neg hmem] at hsc
      have HS := Lib.hid hsc
      clear hsc hmem hp
      gi_wp2
      obtain ⟨hB, hb0, hb5, hb6, hmW⟩ := HB.out
      exact ⟨KeepsFrom.refl _ _, fun k hk hf => rfl, ⟨⟨⟨hb0, hb5⟩, last, by show scanL (ids base) (-1) (vals (pre ++ [x])) = _; rw [HV.out]; exact HS.out, hb6⟩, hmW, hB⟩⟩
  case done =>
    rintro D ys W hD rfl ⟨⟨⟨hb0, hb5⟩, last, hl, hb6⟩, hmW, hB⟩ hK
    have c0 := hb0.cell
    have f0 := hb0.frozen
    have hmv := scanL_moved (ids base) (vals ys) (-1)
    rw [hl, hx] at hmv
    gi_wp2
    have hb1 := (hb0.set (.bool false)).kept (grownBy_putObj' _ D (.deferred none)) (fun e => by cases e; omega)
    have hK1 := (KeepsOthers.setCell W ⟨w.heap.size, 0, none⟩ (.bool false)).same D _ hK rfl
    have hc1 := hb1.cell
    have hBf := (hB.setCell (p := ⟨w.heap.size, 0, none⟩) (Nat.le_refl _) (.bool false)).trans (belowK_b (w := w) (Nat.le_refl _) _ D _ (.deferred none) (by omega) hK1 rfl rfl)
    rw [noGoto_ret]
    refine ⟨by simp, .inl ⟨_, _, rfl, run_takeDeferred hK1, ?_⟩⟩
    exact ⟨.bool false, by simp [results, Tryz.results34, go_sem, hc1], ret_false hmv, hBf⟩
  case stop =>
    rintro D c pre W hD hpre ⟨rfl, hb0, hsc, hB⟩ hK
    have hmv := scanL_moved (ids base) (vals xs) (-1)
    rw [scanL_prefix (List.IsPrefix.map _ hpre) hsc, hx] at hmv
    have hb1 := hb0.kept (grownBy_putObj' _ D (.deferred none)) (fun e => by cases e; omega)
    have hc1 := hb1.cell
    have hBf := hB.trans (belowK_b (w := w) (Nat.le_refl _) _ D _ (.deferred none) (by omega) hK rfl rfl)
    gi_wp2
    rw [noGoto_ret]
    refine ⟨by simp, .inl ⟨_, _, rfl, run_takeDeferred hK, ?_⟩⟩
    exact ⟨.bool true, by simp [results, Tryz.results34, go_sem, hc1], ret_true hmv, hBf⟩
theorem moved_any {mem : Addr → Option Value} {v u : Value} {base l : List Blk} (h1 : BlksM mem v base) (h2 : BlksM mem u l) (hl1 : base.length ≤ 100000) (w : World) (hs : Sees mem w) :
    Calls Tryz.prog 34 #[v, u] w fun e w' => e = .returned (.bool (movedL (ids base) (-1) (ids l))) ∧ Below w.heap.size w w' := callsIn_wide.1 (moved_wide 5 h1 h2 hl1 w hs)
end Go.Proofs.YtikpbknafhnieaaGreatDoor

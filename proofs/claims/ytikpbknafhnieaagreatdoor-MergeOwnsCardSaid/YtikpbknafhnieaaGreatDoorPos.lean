/-
  WHAT IS PROVED HERE: merge.positions over the iterator of merge.each: the first position of each id. No condition but that the lists lie in memory.
-/
import Derived.Test.YtikpbknafhnieaaGreatDoorEach
namespace Go.Proofs.YtikpbknafhnieaaGreatDoor
open Go.RowKit Mg Go.Shelf
attribute [local go_sem] Oper.semAt_some

abbrev vals (xs : List OkInt) : List Int := xs.map Subtype.val
/-- the entries are the first positions -/
def PosI (L : List Int) (es : List (Int × Value)) : Prop := ∀ i, getL es i = if i ∈ L then some (.int .i64 (L.idxOf i : Nat)) else none
theorem PosI.nil : PosI [] [] := fun _ => rfl
theorem PosI.keys {L : List Int} {es : List (Int × Value)} (h : PosI L es) (i : Int) : i ∈ keysL es ↔ i ∈ L := by
  have h1 := getL_isSome (l := es) (i := i)
  rw [h i] at h1
  by_cases hm : i ∈ L
  · rw [if_pos hm] at h1
    exact ⟨fun _ => hm, fun _ => of_decide_eq_true h1.symm⟩
  · rw [if_neg hm] at h1
    exact ⟨fun hk => absurd h1.symm (by rw [decide_eq_true hk]; simp), fun h => absurd h hm⟩
theorem PosI.old {L : List Int} {es : List (Int × Value)} (h : PosI L es) {x : Int} (hx : x ∈ L) : PosI (L ++ [x]) es := fun i => by
  rw [h i]
  by_cases hm : i ∈ L
  · rw [if_pos hm, if_pos (List.mem_append_left _ hm), List.idxOf_append, if_pos hm]
  · rw [if_neg hm, if_neg (fun hh => hm (by rcases List.mem_append.1 hh with h1 | h1; exact h1; simp at h1; subst h1; exact hx))]
theorem PosI.new {L : List Int} {es : List (Int × Value)} (h : PosI L es) {x : Int} (hx : x ∉ L) : PosI (L ++ [x]) (es ++ [(x, .int .i64 (L.length : Nat))]) := fun i => by
  by_cases e : i = x
  · subst e
    rw [getL_snoc_same (fun hk => hx ((h.keys i).1 hk)), if_pos (by simp), List.idxOf_append, if_neg hx]
    simp
  · rw [getL_snoc_other (Ne.symm e), h i]
    by_cases hm : i ∈ L
    · rw [if_pos hm, if_pos (List.mem_append_left _ hm), List.idxOf_append, if_pos hm]
    · rw [if_neg hm, if_neg (fun hh => hm (by rcases List.mem_append.1 hh with h1 | h1; exact h1; simp at h1; exact absurd h1 e))]
theorem PosI.val {L : List Int} {es : List (Int × Value)} (h : PosI L es) (i : Int) : (getL es i).getD (.int .i64 0) = .int .i64 (if i ∈ L then (L.idxOf i : Nat) else 0 : Nat) := by
  rw [h i]
  by_cases hm : i ∈ L
  · rw [if_pos hm, if_pos hm]; rfl
  · rw [if_neg hm, if_neg hm]; rfl
theorem PosI.has {L : List Int} {es : List (Int × Value)} (h : PosI L es) (i : Int) : (getL es i).isSome = decide (i ∈ L) := by
  rw [h i]
  by_cases hm : i ∈ L
  · rw [if_pos hm, decide_eq_true hm]; rfl
  · rw [if_neg hm, decide_eq_false hm]; rfl
theorem PosI.len {L : List Int} {es : List (Int × Value)} (h : PosI L es) (hn : (keysL es).Nodup) : es.length ≤ L.length := by
  have h1 : (keysL es).length ≤ L.length := List.Nodup.length_le_of_subset hn (fun i hi => (h.keys i).1 hi)
  unfold keysL at h1
  rwa [List.length_map] at h1
/-- what positions hands back -/
def PosPost (L : List Int) (w : World) (e : Ending) (w' : World) : Prop :=
  ∃ K es, e = .returned (.map (some K)) ∧ IMap Tryz.prog 3 w' K es ∧ PosI L es ∧ Below w.heap.size w w' ∧ w.heap.size ≤ K

theorem zero_int (w : World) : (zeroValue 3).run Tryz.prog w = .ok (.int .i64 0) w := Tryz.zeroValue3 w

set_option maxRecDepth 100000 in
set_option maxHeartbeats 4000000 in
theorem positions_wide (m : Nat) (Bn : Nat) (mem : Addr → Option Value) (w : World) (hs : Sees mem w) (hmem : ∀ a u, mem a = some u → a.block < w.heap.size) (v : Value) (ls : List (List Blk)) (hv : ListsM mem v ls) (hBn : mem ⟨Bn, 0, none⟩ = some v) (xs : List OkInt) (hxs : vals xs = idsOf ls) (hlen : xs.length ≤ 100000) :
    CallsIn Fence.wide m Tryz.prog 32 #[.func (.func 51) #[] #[.pointer (some ⟨Bn, 0, none⟩)]] w (PosPost (vals xs) w) := by
  refine callsIn_wide.2 ((callsIn_wide (n := 5)).1 ?_)
  have hmm := @run_makeMap Tryz.prog
  refine callsIn_of_wp_marks Tryz.func32 rfl trivial ?_ rfl
  simp only [Tryz.ntmps32, List.size_toArray, List.length_cons, List.length_nil, Nat.reduceAdd, Nat.reduceSub, Array.replicate_succ, Array.replicate_zero, List.push_toArray, List.append_toArray, List.nil_append, List.cons_append]
  gi_wp2
  have b1 : Boxed (((w.alloc (.map #[] 0)).alloc (.cells #[.map (some w.heap.size)] 52)).alloc (.cells #[.int .i64 0] 3)) (w.heap.size + 1) 52 (.map (some w.heap.size)) := by
    have := (Boxed.new (w.alloc (.map #[] 0)) 52 (.map (some w.heap.size))).alloc (.cells #[.int .i64 0] 3)
    rwa [World.size_alloc] at this
  have b2 : Boxed (((w.alloc (.map #[] 0)).alloc (.cells #[.map (some w.heap.size)] 52)).alloc (.cells #[.int .i64 0] 3)) (w.heap.size + 2) 3 (.int .i64 0) := by
    have := Boxed.new ((w.alloc (.map #[] 0)).alloc (.cells #[.map (some w.heap.size)] 52)) 3 (.int .i64 0)
    rwa [World.size_alloc, World.size_alloc] at this
  have hm0 : IMap Tryz.prog 3 (((w.alloc (.map #[] 0)).alloc (.cells #[.map (some w.heap.size)] 52)).alloc (.cells #[.int .i64 0] 3)) w.heap.size [] := ((IMap.made Tryz.prog 3 w).alloc _).alloc _
  have hB0 : Below w.heap.size w (((w.alloc (.map #[] 0)).alloc (.cells #[.map (some w.heap.size)] 52)).alloc (.cells #[.int .i64 0] 3)) := (((Below.refl _ w).alloc (Nat.le_refl _) _).alloc (by simp) _).alloc (by simp; omega) _
  refine wpIn_rangeFunc_ownG rfl (by omega) (gf := 51) (lb := #[.pointer (some ⟨Bn, 0, none⟩)]) rfl trivial (enters_of Tryz.func51 (by kernel_rfl) rfl)
    (each_stops _ Bn (Below w.heap.size) mem _ (hs.bel hB0) (sees_below hmem) v ls hv hBn xs hxs) belowK_t (belowK_b (by simp; omega)) (Below.refl _ _) (fun _ => rfl)
    (fun pre W => (Boxed W (w.heap.size + 1) 52 (.map (some w.heap.size)) ∧ Boxed W (w.heap.size + 2) 3 (.int .i64 (pre.length : Nat))) ∧ ((∃ es, IMap Tryz.prog 3 W w.heap.size es ∧ PosI (vals pre) es) ∧ Below w.heap.size w W))
    (fun _ _ _ => False)
    (OwnFrom.and (OwnFrom.and (Own.from (boxed_own _ _ (fun _ => .map (some w.heap.size))) _) (Own.from (boxed_own _ _ (fun pre : List OkInt => .int .i64 (pre.length : Nat))) _))
      (OwnFrom.and (fun s A B row hs hg hr => by
        obtain ⟨es, h1, h2⟩ := hs
        exact ⟨es, h1.grown hg (fun e => by have := (hr _ e.symm).1; simp at this; omega), h2⟩) (ownFrom_below (Nat.le_refl _) (by simp; omega))))
    (fun _ _ _ _ _ hs _ _ => hs)
    ⟨⟨b1, b2⟩, ⟨[], hm0, PosI.nil⟩, hB0⟩
    (fun x => { tmps := #[.func (.func 51) #[] #[.pointer (some ⟨Bn, 0, none⟩)], undef, .map none, .pointer (some ⟨w.heap.size + 1, 0, none⟩), .pointer (some ⟨w.heap.size + 1 + 1, 0, none⟩), .int .i64 x.1, undef, undef, .map (some w.heap.size), .func (.func 51) #[] #[.pointer (some ⟨Bn, 0, none⟩)], .int .i64 x.1, undef, undef, undef, undef, undef, undef, undef, undef, undef, undef, undef, undef, undef, undef], defers := [] }) ?assign ?body ?done ?stop
  case assign =>
    intro l x W K hK
    gi_wp2
    exact hK
  case body =>
    rintro l pre x W ⟨⟨hb1, hb2⟩, ⟨es, hm, hp⟩, hB⟩ hlt
    have hc1 := hb1.cell
    have hc2 := hb2.cell
    have hf2 := hb2.frozen
    have hpl : (pre.length : Int) ≤ 100000 := by omega
    have hlk := hm.lookOk Tryz.underlying3 Tryz.underlying52 (zero_int W) x.2
    rw [hp.has, hp.val] at hlk
    generalize (((if x.1 ∈ vals pre then (vals pre).idxOf x.1 else 0 : Nat)) : Int) = z at hlk
    have HB := Lib.hid (And.intro hB (And.intro hb1 hb2))
    have HM := Lib.hid hm
    by_cases hx : x.1 ∈ vals pre
    · rw [decide_eq_true hx] at hlk
      have HX := Lib.hid (hp.old hx)
      clear hp hB hb1 hb2 hx hm
      gi_wp2
      obtain ⟨hB, hb1, hb2⟩ := HB.out
      refine ⟨(KeepsOthers.setCell _ _ _).from _, (Below.refl _ W).setCell (p := ⟨w.heap.size + 1 + 1, 0, none⟩) (by simp; omega) _, ⟨⟨hb1.other (by omega) _, ?_⟩, ⟨es, HM.out.setCell _ (by simp; omega), ?_⟩, hB.setCell (p := ⟨w.heap.size + 1 + 1, 0, none⟩) (by simp; omega) _⟩⟩
      · have := hb2.set (.int .i64 ((pre ++ [x]).length : Nat))
        rw [List.length_append] at this ⊢
        exact this
      · unfold vals; rw [List.map_append]; exact HX.out
    · rw [decide_eq_false hx] at hlk
      have HX := Lib.hid (hp.new hx)
      have hel := hp.len hm.nodup
      obtain ⟨w2, hst, hm2, hg2⟩ := hm.store Tryz.underlying3 Tryz.underlying52 (by rw [List.length_map] at hel; unfold maxLen; omega) x.2 (fun hk => hx ((hp.keys _).1 hk)) (.int .i64 (pre.length : Nat))
      have k1 := (hb1.kept hg2 (by simp)).cell
      have k2 := (hb2.kept hg2 (by simp)).cell
      have k3 := (hb2.kept hg2 (by simp)).frozen
      have HM2 := Lib.hid hm2
      have HG2 := Lib.hid hg2
      clear hp hB hb1 hb2 hx hel hm hm2 hg2
      gi_wp2
      obtain ⟨hB, hb1, hb2⟩ := HB.out
      have hg2 := HG2.out
      have hbl : Below w.heap.size W w2 := (Below.refl _ W).grown hg2 hB.size (fun k e => by cases e; exact Nat.le_refl _)
      refine ⟨(KeepsFrom.of_grownBy hg2 (fun j e => by cases e; simp; omega)).trans ((KeepsOthers.setCell _ _ _).from _), hbl.setCell (p := ⟨w.heap.size + 1 + 1, 0, none⟩) (by simp; omega) _, ⟨⟨(hb1.kept hg2 (by simp)).other (by omega) _, ?_⟩, ⟨_, HM2.out.setCell _ (by simp; omega), ?_⟩, (hB.trans hbl).setCell (p := ⟨w.heap.size + 1 + 1, 0, none⟩) (by simp; omega) _⟩⟩
      · have := (hb2.kept hg2 (by simp)).set (.int .i64 ((pre ++ [x]).length : Nat))
        rw [List.length_append] at this ⊢
        exact this
      · have := HX.out
        rw [List.length_map] at this
        unfold vals; rw [List.map_append]; exact this
  case done =>
    rintro D ys W hD rfl ⟨⟨hb1, hb2⟩, ⟨es, hm, hp⟩, hB⟩ hK
    have hc1 := hb1.cell
    gi_wp2
    refine ⟨by simp, .inl ⟨_, _, rfl, run_takeDeferred hK, ?_⟩⟩
    exact ⟨_, results_tmp rfl _ _ _, w.heap.size, es, rfl, hm.grown (grownBy_putObj' _ D _) (fun e => by cases e; simp at hD; omega), hp, hB.trans (belowK_b (w := w) (Nat.le_refl _) W D _ _ (by simp at hD; omega) hK rfl rfl), Nat.le_refl _⟩
  case stop =>
    rintro D c pre W _ _ h _
    exact h.elim
theorem positions_any (Bn : Nat) (mem : Addr → Option Value) (w : World) (hs : Sees mem w) (hmem : ∀ a u, mem a = some u → a.block < w.heap.size) (v : Value) (ls : List (List Blk)) (hv : ListsM mem v ls) (hBn : mem ⟨Bn, 0, none⟩ = some v) (xs : List OkInt) (hxs : vals xs = idsOf ls) (hlen : xs.length ≤ 100000) :
    Calls Tryz.prog 32 #[.func (.func 51) #[] #[.pointer (some ⟨Bn, 0, none⟩)]] w (PosPost (vals xs) w) := callsIn_wide.1 (positions_wide 5 Bn mem w hs hmem v ls hv hBn xs hxs hlen)
end Go.Proofs.YtikpbknafhnieaaGreatDoor

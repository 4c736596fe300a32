/-
  WHAT IS PROVED HERE: merge.each and its iterator: the ids of lists of blocks, one list after the other. No condition but that the lists lie in memory.
-/
import Derived.Test.YtikpbknafhnieaaGreatDoorFol
import Derived.Test.YtikpbknafhnieaaGreatDoorScope
import Derived.RangeFuncNested
import Derived.RangeFuncBound
import Derived.RangeFuncCalls
import Derived.RangeFuncLeaves
import Derived.RangeFuncWrites
import Derived.RangeFuncBox
import Derived.Shelf.Abstract
import Derived.Shelf.RegionOpen
import Derived.OwnWalkIn
import Derived.TacticsInMore
import Derived.LoopNIn
import Derived.LoopIn
import Derived.Maps.AppendAt
namespace Go.Proofs.YtikpbknafhnieaaGreatDoor
open Go.RowKit Mg Go.Shelf
attribute [local go_sem] Oper.semAt_some

abbrev OkInt := { x : Int // okI x }
/-- the ids of lists of blocks -/
abbrev idsOf (ls : List (List Blk)) : List Int := ls.flatMap ids
/-- v is a slice of slices that holds the lists -/
def ListsM (mem : Addr → Option Value) (v : Value) (ls : List (List Blk)) : Prop :=
  ∃ g cap, v = .slice (some ⟨g, 0, none⟩) ls.length cap ∧ ls.length ≤ cap ∧ ls.length ≤ 1000 ∧ cap ≤ maxLen ∧ ∀ j (h : j < ls.length), ∃ u, mem ⟨g, j, none⟩ = some u ∧ BlksM mem u ls[j]
theorem take_flat {α β : Type} (f : α → List β) (ls : List α) (k : Nat) (hk : k < ls.length) : (ls.take (k + 1)).flatMap f = (ls.take k).flatMap f ++ f ls[k] := by
  rw [List.take_succ_eq_append_getElem hk, List.flatMap_append]; simp
theorem flat_get {ls : List (List Blk)} {i j : Nat} (hi : i < ls.length) (hj : j < ls[i].length) : (idsOf ls)[(idsOf (ls.take i)).length + j]? = some ls[i][j].id := by
  have e : ls = ls.take i ++ (ls[i] :: ls.drop (i + 1)) := by rw [← List.drop_eq_getElem_cons hi, List.take_append_drop]
  have e2 : idsOf ls = idsOf (ls.take i) ++ (ids ls[i] ++ idsOf (ls.drop (i + 1))) := by
    conv => lhs; rw [e]
    unfold idsOf
    rw [List.flatMap_append, List.flatMap_cons]
  rw [e2, List.getElem?_append_right (by omega), Nat.add_sub_cancel_left, List.getElem?_append_left (by unfold ids; simpa using hj)]
  unfold ids
  rw [List.getElem?_map, List.getElem?_eq_getElem hj]; rfl
theorem grown_none {a b : World} (h : Below a.heap.size a b) : a.grownBy b none := ⟨h.os, h.tape, h.output, h.size, fun k hk _ => h.block k hk⟩

theorem each_any (v : Value) (hv : ∃ ao n cap, v = .slice ao n cap) (w : World) : Calls Tryz.prog 33 #[v] w fun e w' => e = .returned (.func (.func 51) #[] #[.pointer (some ⟨w.heap.size, 0, none⟩)]) ∧ w.alloc (.cells #[v] 68) = w' := by
  obtain ⟨ao, n, cap, rfl⟩ := hv
  go_enter Tryz.func33, Tryz.ntmps33
  go_wp2_with fail
  go_ret
  exact ⟨rfl, rfl⟩

set_option maxRecDepth 100000 in
set_option maxHeartbeats 4000000 in
theorem each1 (n l Bn : Nat) (Kp : World → World → Prop) (mem : Addr → Option Value) (hmem : ∀ A B, Kp A B → Sees mem A → Sees mem B) (v : Value) (ls : List (List Blk)) (hv : ListsM mem v ls) (hBn : mem ⟨Bn, 0, none⟩ = some v) (xs : List OkInt) (hxs : xs.map Subtype.val = idsOf ls)
    (J Jx : List OkInt → World → Prop)
    (hY : ∀ pre x W, J pre W → pre.length < xs.length → YieldAt Fence.wide (n - 1) Tryz.prog l #[.int .i64 x.1] W fun e W' =>
      (e = .returned (.bool true) ∧ J (pre ++ [x]) W' ∧ Kp W W') ∨ (e = .returned (.bool false) ∧ Jx (pre ++ [x]) W'))
    (W : World) (hJ : AbidesFrom W.heap.size J) (hs : Sees mem W) (h0 : J [] W) :
    CallsIn Fence.wide n Tryz.prog 51 #[.func (.yield l) #[] #[], .pointer (some ⟨Bn, 0, none⟩)] W fun e W' => (∃ v, e = .returned v) ∧
      ((∃ ys, ys = xs ∧ J ys W') ∨ (∃ pre, pre <+: xs ∧ Jx pre W')) := by
  obtain ⟨g, cap, rfl, hcap, h1000, hcm, hls⟩ := hv
  have hB0 := hs _ _ hBn
  have HLS := Lib.hid hls
  have HM := Lib.hid hmem
  have HY := Lib.hid hY
  have HJ := Lib.hid hJ
  have HX := Lib.hid hxs
  clear hls hmem hY hJ hxs
  refine callsIn_of_wp Tryz.func51 rfl trivial ?_ rfl
  simp only [Tryz.ntmps51, List.size_toArray, List.length_cons, List.length_nil, Nat.reduceAdd, Nat.reduceSub, Array.replicate_succ, Array.replicate_zero, List.push_toArray, List.append_toArray, List.nil_append, List.cons_append]
  gi_wp2_with fail
  gi_loopw [9] (fun i wr => ∃ k : Nat, k ≤ ls.length ∧ i = .int .i64 k ∧ Sees mem wr ∧ J (xs.take (idsOf (ls.take k)).length) wr) (fun i _ => ls.length - (intOf i).toNat)
  case atStart => exact ⟨0, Nat.zero_le _, rfl, hs, by simpa using h0⟩
  case round =>
    obtain ⟨k, hk, rfl, hsw, hJk⟩ := hrel
    obtain ⟨wo, rfl⟩ : ∃ wo, wo = wr := ⟨_, rfl⟩
    by_cases hlt : k < ls.length
    · obtain ⟨u, hu, hbm⟩ := HLS.out k hlt
      have hcu := hsw _ _ hu
      have hgl : g < wo.heap.size := World.block_lt_of_cell? wo _ hcu
      obtain ⟨ao, cap2, b, o, rfl, hc2, hm2, hao, hblks⟩ := hbm.open_
      have HAO := Lib.hid hao
      have HB := Lib.hid hblks
      have HO : Hid ((idsOf (ls.take (k + 1))).length = (idsOf (ls.take k)).length + ls[k].length) := Lib.hid (by unfold idsOf; rw [take_flat ids ls k hlt, List.length_append]; simp)
      have HG : Hid (∀ j (hj : j < ls[k].length), ∃ h : (idsOf (ls.take k)).length + j < xs.length, (xs[(idsOf (ls.take k)).length + j]'h).1 = ls[k][j].id) := Lib.hid (fun j hj => by
        have e := flat_get hlt hj
        rw [← HX.out, List.getElem?_map, Option.map_eq_some_iff] at e
        obtain ⟨x, h1, h2⟩ := e
        obtain ⟨h3, h4⟩ := List.getElem?_eq_some_iff.1 h1
        exact ⟨h3, by rw [h4]; exact h2⟩)
      have hl2 : (ls[k].length : Int) ≤ 9223372036854775807 := by unfold maxLen at hm2; omega
      clear hu hbm hao hblks
      generalize ls[k] = L at *
      generalize (idsOf (ls.take k)).length = p at *
      gi_wp2_with fail
      gi_loopw [15] (fun i wi => ∃ j : Nat, j ≤ L.length ∧ i = .int .i64 j ∧ Sees mem wi ∧ J (xs.take (p + j)) wi) (fun i _ => L.length - (intOf i).toNat)
      case atStart => exact ⟨0, Nat.zero_le _, rfl, hsw, hJk⟩
      case round =>
        obtain ⟨j, hj, rfl, hsi, hJj⟩ := hrel
        by_cases hjl : j < L.length
        · obtain ⟨_, lo, lc, _, c9⟩ := (HB.out j hjl).nine hsi
          obtain rfl := HAO.out (by omega)
          obtain ⟨c0, c1, c2, c3, c4, c5, c6, c7, c8⟩ := c9
          obtain ⟨hp, hid⟩ := HG.out j hjl
          have hbl : b < wr.heap.size := World.block_lt_of_cell? wr _ c0
          rw [← hid] at c0
          have HTK : Hid (xs.take (p + j) ++ [xs[p + j]] = xs.take (p + (j + 1))) := Lib.hid (by rw [← Nat.add_assoc, List.take_succ_eq_append_getElem hp])
          have hpl : (xs.take (p + j)).length < xs.length := by rw [List.length_take]; omega
          clear hid
          generalize xs[p + j] = x at *
          generalize L[j] = y at *
          obtain ⟨id, kind, text, story, ref, till, after, appr, denied⟩ := y
          dsimp only at *
          have hJ1 := HJ.out _ wr (wr.alloc (.cells #[.int .i64 x.1, .int .i64 kind, .string text, .int .i64 story, .int .i64 ref, .int .i64 till, .slice lo after.length lc, .int .i64 appr, .int .i64 denied] 39)) none hJj (World.grownBy_alloc wr _ none) (fun r e => by cases e)
          obtain ⟨fn, tmps, assign, body, hy, hR⟩ := HY.out _ x _ hJ1 hpl
          have HS1 := Lib.hid hsi
          clear hsi hJ1 hJj hpl
          gi_wp2_with fail
          refine ⟨(fun h => by cases h), ?_⟩
          refine hR.mono ?_
          rintro e W3 (⟨rfl, hJ3, hk3⟩ | ⟨rfl, hJx3⟩)
          · have hs3 : Sees mem W3 := HM.out _ _ hk3 (HS1.out.alloc _)
            rw [HTK.out] at hJ3
            clear hk3
            gi_wp2_with fail
            go_roundw
            case rel => exact ⟨j + 1, by omega, by go_num, hs3, hJ3⟩
            case measure => simp [intOf]; omega
          · gi_wp2_with fail
            refine bodyPost_ret (results_none rfl _ _ _) rfl ?_
            exact ⟨⟨_, rfl⟩, .inr ⟨_, ⟨xs.drop (p + (j + 1)), by rw [HTK.out, List.take_append_drop]⟩, hJx3⟩⟩
        · have e : j = L.length := by omega
          subst e
          gi_wp2_with fail
          go_roundw
          case rel => exact ⟨k + 1, by omega, by go_num, hsi, by rw [HO.out]; exact hJj⟩
          case measure => simp [intOf]; omega
    · have e : k = ls.length := by omega
      subst e
      have hfin : xs.take (idsOf (ls.take ls.length)).length = xs := by
        rw [List.take_length, ← HX.out, List.length_map, List.take_length]
      rw [hfin] at hJk
      clear hfin
      gi_wp2_with fail
      go_end0
      exact ⟨⟨_, rfl⟩, .inl ⟨_, rfl, hJk⟩⟩

/-- the iterator of merge.each -/
theorem each_stops (n Bn : Nat) (Kp : World → World → Prop) (mem : Addr → Option Value) (w : World) (hs : Sees mem w) (hmem : ∀ A B, Kp A B → Sees mem A → Sees mem B) (v : Value) (ls : List (List Blk)) (hv : ListsM mem v ls) (hBn : mem ⟨Bn, 0, none⟩ = some v) (xs : List OkInt) (hxs : xs.map Subtype.val = idsOf ls) :
    SeqStopsK Fence.wide n Tryz.prog 51 #[.pointer (some ⟨Bn, 0, none⟩)] (fun x : OkInt => #[.int .i64 x.1]) Kp (fun ys => ys = xs) (fun pre => pre <+: xs) xs.length w :=
  fun l J Jx W hW hJ _ hY h0 => each1 n l Bn Kp mem hmem v ls hv hBn xs hxs J Jx hY W hJ (hs.bel hW) h0
theorem sees_below {mem : Addr → Option Value} {B : Nat} (hmem : ∀ a u, mem a = some u → a.block < B) (X Y : World) (h : Below B X Y) (hs : Sees mem X) : Sees mem Y := fun a u e => (h.cell (hmem a u e)).trans (hs a u e)
/-- what a round keeps: the blocks below N that are not in F -/
def KeepB (N : Nat) (F : Nat → Prop) (X Y : World) : Prop := ∀ k, k < N → ¬ F k → Y.heap[k]? = X.heap[k]?
theorem keepB_t {N : Nat} {F : Nat → Prop} {X Y Z : World} (h : KeepB N F X Y) (k : KeepB N F Y Z) : KeepB N F X Z := fun i hi hf => (k i hi hf).trans (h i hi hf)
theorem keepB_b {N : Nat} {F : Nat → Prop} {w : World} (hN : N ≤ w.heap.size) (W : World) (l : Nat) (o o' : Obj) (hl : w.heap.size ≤ l) (_ : W.heap[l]? = some o) (_ : o.isCells = false) (_ : o.isWalk = false) : KeepB N F W (W.putObj l o') :=
  fun k hk _ => World.putObj_heap_other (by omega)
theorem keepB_upd {N : Nat} {F : Nat → Prop} {X Y : World} (h : Upd F X Y) (hN : N ≤ X.heap.size) : KeepB N F X Y := fun k hk hf => h.block k (by omega) hf
theorem sees_keepB {mem : Addr → Option Value} {N : Nat} {F : Nat → Prop} (hmem : ∀ a u, mem a = some u → a.block < N ∧ ¬ F a.block) (X Y : World) (h : KeepB N F X Y) (hs : Sees mem X) : Sees mem Y :=
  fun a u e => (World.cell?_of_block (h a.block (hmem a u e).1 (hmem a u e).2)).trans (hs a u e)
/-- a world's cells, but for one block -/
def memBut (W : World) (B : Nat) (a : Addr) : Option Value := if a.block = B then none else W.cell? a
theorem memBut_sees (W : World) (B : Nat) : Sees (memBut W B) W := fun a u h => by
  unfold memBut at h
  split at h
  · cases h
  · exact h
theorem memBut_lt {W : World} {B : Nat} (a : Addr) (u : Value) (h : memBut W B a = some u) : a.block < W.heap.size ∧ ¬ (fun k => k = B) a.block := by
  unfold memBut at h
  split at h
  · cases h
  · next hne => exact ⟨World.block_lt_of_cell? W a h, hne⟩
theorem memBut_of {W : World} {B : Nat} {a : Addr} {u : Value} (h : W.cell? a = some u) (hne : a.block ≠ B) : memBut W B a = some u := by
  unfold memBut; rw [if_neg hne]; exact h
end Go.Proofs.YtikpbknafhnieaaGreatDoor

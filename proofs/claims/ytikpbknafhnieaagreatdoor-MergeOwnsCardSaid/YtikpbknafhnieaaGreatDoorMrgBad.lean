/-
  WHAT IS PROVED HERE: the walk of merge.Merge where a list is not valid. No condition.
-/
import Derived.Test.YtikpbknafhnieaaGreatDoorRow
namespace Go.Proofs.YtikpbknafhnieaaGreatDoor
open Go.RowKit Mg Go.Shelf

def MergePost (base a b : List Blk) (w : World) (e : Ending) (w' : World) : Prop :=
  ∃ v u, e = .returned (.tuple #[v, u, .int .i64 (mergeF base a b).2.2]) ∧ BRow w' w.heap.size v (mergeF base a b).1 ∧ IRow w' w.heap.size u (mergeF base a b).2.1 ∧ Below w.heap.size w w'
theorem mergePost_err {base a b : List Blk} {w w' : World} (h : mergeF base a b = ([], [], 40)) (hb : Below w.heap.size w w') : MergePost base a b w (.returned (.tuple #[.slice none 0 0, .slice none 0 0, .int .i64 40])) w' := by
  unfold MergePost
  rw [h]
  exact ⟨_, _, rfl, BRow.nil _ _, World.ownsRow_nil _ _ _ _, hb⟩
theorem valid_bool {mem : Addr → Option Value} {v : Value} {l : List Blk} {q : Bool} (h : BlksM mem v l) (hq : decide (ValidL l) = q) (w : World) (hs : Sees mem w) :
    Calls Tryz.prog 18 #[v] w fun e w' => e = .returned (.bool q) ∧ Below w.heap.size w w' := by rw [← hq]; exact validList_any h w hs

set_option maxRecDepth 10000 in
set_option maxHeartbeats 2000000 in
theorem merge_bad {mem : Addr → Option Value} {v1 v2 v3 : Value} {base a b : List Blk} (h1 : BlksM mem v1 base) (h2 : BlksM mem v2 a) (h3 : BlksM mem v3 b) (hv : ¬ (ValidL base ∧ ValidL a ∧ ValidL b)) (w : World) (hs : Sees mem w) :
    Calls Tryz.prog 14 #[v1, v2, v3] w (MergePost base a b w) := by
  have HP := Lib.hid (fun (w' : World) (hb : Below w.heap.size w w') => mergePost_err (mergeF_bad hv) hb)
  by_cases p1 : ValidL base
  · have c1 := fun W hW => valid_bool h1 (decide_eq_true p1) W hW
    by_cases p2 : ValidL a
    · have c2 := fun W hW => valid_bool h2 (decide_eq_true p2) W hW
      have p3 : ¬ ValidL b := fun p3 => hv ⟨p1, p2, p3⟩
      have c3 := fun W hW => valid_bool h3 (decide_eq_false p3) W hW
      clear h1 h2 h3 hv p1 p2 p3
      go_enter Tryz.func14, Tryz.ntmps14
      go_wp2_with fail
      refine (c1 w hs).mono ?_
      rintro e w1 ⟨rfl, hb1⟩
      go_wp2_with fail
      refine (c2 w1 (hs.bel hb1)).mono ?_
      rintro e w2 ⟨rfl, hb2⟩
      go_wp2_with fail
      refine (c3 w2 ((hs.bel hb1).bel hb2)).mono ?_
      rintro e w3 ⟨rfl, hb3⟩
      go_wp2_with fail
      go_ret3
      exact HP.out _ ((hb1.trans (hb2.mono hb1.size)).trans (hb3.mono (Nat.le_trans hb1.size hb2.size)))
    · have c2 := fun W hW => valid_bool h2 (decide_eq_false p2) W hW
      clear h1 h2 h3 hv p1 p2
      go_enter Tryz.func14, Tryz.ntmps14
      go_wp2_with fail
      refine (c1 w hs).mono ?_
      rintro e w1 ⟨rfl, hb1⟩
      go_wp2_with fail
      refine (c2 w1 (hs.bel hb1)).mono ?_
      rintro e w2 ⟨rfl, hb2⟩
      go_wp2_with fail
      go_ret3
      exact HP.out _ (hb1.trans (hb2.mono hb1.size))
  · have c1 := fun W hW => valid_bool h1 (decide_eq_false p1) W hW
    clear h1 h2 h3 hv p1
    go_enter Tryz.func14, Tryz.ntmps14
    go_wp2_with fail
    refine (c1 w hs).mono ?_
    rintro e w1 ⟨rfl, hb1⟩
    go_wp2_with fail
    go_ret3
    exact HP.out _ hb1
end Go.Proofs.YtikpbknafhnieaaGreatDoor

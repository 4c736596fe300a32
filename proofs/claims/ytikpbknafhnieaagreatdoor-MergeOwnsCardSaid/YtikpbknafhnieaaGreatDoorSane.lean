/-
  WHAT IS PROVED HERE: the walks of the law's helpers text, sane. No condition.
-/
import Derived.Test.YtikpbknafhnieaaGreatDoorHlp
import Derived.Laws.Rows
namespace Go.Proofs.YtikpbknafhnieaaGreatDoor
open Go.RowKit Mg Go.Shelf

def tB (i : Int) (c : UInt8) : Blk := ⟨i, 2, ⟨#[c]⟩, 0, 0, ⟨0, [], 0, 0⟩⟩
def zB : Blk := ⟨0, 0, .empty, 0, 0, ⟨0, [], 0, 0⟩⟩
theorem sane1 : mergeF [tB 1 97, tB 2 98, tB 3 99] [tB 1 97, tB 2 120, tB 3 99] [tB 1 97, tB 2 98, tB 3 99, tB 4 100] = ([tB 1 97, tB 2 120, tB 3 99, tB 4 100], [], 0) := by kernel_rfl
theorem sane2 : mergeF [tB 1 97, tB 2 98, tB 3 99] [tB 1 97, tB 2 120, tB 3 99] [tB 1 97, tB 2 121, tB 3 99] = ([tB 1 97, tB 2 121, tB 3 99], [2], 0) := by kernel_rfl
theorem sane3 : mergeF [tB 1 97, tB 2 98, tB 3 99] [zB] [tB 1 97, tB 2 98, tB 3 99, tB 4 100] = ([], [], 40) := by kernel_rfl
theorem text_any (i : Int) (s : ByteArray) (w : World) : Calls Tryz.prog 26 #[.int .i64 i, .string s] w fun e w' => e = .returned (.agg #[.int .i64 i, .int .i64 2, .string s, .int .i64 0, .int .i64 0, .int .i64 0, .slice none 0 0, .int .i64 0, .int .i64 0]) ∧ w' = w.alloc (.cells #[.int .i64 i, .int .i64 2, .string s, .int .i64 0, .int .i64 0, .int .i64 0, .slice none 0 0, .int .i64 0, .int .i64 0] 39) := by
  go_enter Tryz.func26, Tryz.ntmps26
  go_wp2_with fail
  exact bodyPost_ret (results_cell_row rfl _ _ w.heap.size 39 _ (0, 0) _ rfl (World.alloc_heap_new _ _) Tryz.underlying39 rfl (by kernel_rfl)) rfl ⟨rfl, rfl⟩
/-- blocks without stories, as the call lays them -/
def flatB (l : List Blk) : Array Value := (l.flatMap fun x => blkVals x (.slice none 0 0)).toArray
theorem bvals_flat (mem : Addr → Option Value) : ∀ l : List Blk, (∀ x ∈ l, x.lab.after = []) → BVals mem l (l.flatMap fun x => blkVals x (.slice none 0 0))
  | [], _ => rfl
  | x :: l, h => by
    have hx := h x List.mem_cons_self
    refine ⟨none, 0, _, by rw [hx]; exact IntsM.nil mem, by rw [hx]; rfl, bvals_flat mem l (fun y hy => h y (List.mem_cons_of_mem _ hy))⟩
theorem blks_heap {w : World} {g : Nat} {l : List Blk} (hg : w.heap[g]? = some (.cells (flatB l) 39 (0, 0))) (h : ∀ x ∈ l, x.lab.after = [] ∧ x.text.size ≤ maxLen ∧ okI x.kind ∧ okI x.id) (hl : l.length ≤ 1000) : BlksM (fun a => w.cell? a) (.slice (some ⟨g, 0, none⟩) l.length l.length) l := by
  refine ⟨g, 0, ⟨by unfold maxLen; omega, _, _, rfl, Nat.le_refl _, by unfold maxLen; omega, fun _ => rfl⟩, fun j hj => ?_⟩
  obtain ⟨ao, cap, hi, hv⟩ := (bvals_flat (fun a => w.cell? a) l (fun x hx => (h x hx).1)).get j hj
  have hcell : ∀ t, t < 9 → w.cell? ⟨g, 0 + j * 9 + t, none⟩ = (blkVals l[j] (.slice ao l[j].lab.after.length cap))[t]? := fun t ht => by
    rw [blk_cell hg, ← hv t ht]
    unfold flatB
    rw [List.getElem?_toArray]
    congr 1; omega
  exact ⟨⟨hcell 0 (by omega), hcell 1 (by omega), hcell 2 (by omega), hcell 3 (by omega), hcell 4 (by omega)⟩, ⟨hcell 5 (by omega), hcell 7 (by omega), hcell 8 (by omega)⟩, (h _ (List.getElem_mem hj)).2, _, hcell 6 (by omega), hi⟩
theorem tB_ok (i : Int) (c : UInt8) (h : okI i) : (tB i c).lab.after = [] ∧ (tB i c).text.size ≤ maxLen ∧ okI (tB i c).kind ∧ okI (tB i c).id :=
  ⟨rfl, by show 1 ≤ maxLen; unfold maxLen; omega, by show okI 2; unfold okI; omega, h⟩
theorem zB_ok : zB.lab.after = [] ∧ zB.text.size ≤ maxLen ∧ okI zB.kind ∧ okI zB.id :=
  ⟨rfl, by show 0 ≤ maxLen; omega, by show okI 0; unfold okI; omega, by show okI 0; unfold okI; omega⟩
theorem see {w W : World} {v : Value} {l : List Blk} (h : BlksM (fun a => w.cell? a) v l) (hb : Below w.heap.size w W) : BlksM (fun a => W.cell? a) v l := h.mono (fun a u e => (Sees.self w).bel hb a u e)

abbrev bObj (l : List Blk) : Obj := .cells (flatB l) 39
abbrev sL1 : List Blk := [tB 1 97, tB 2 98, tB 3 99]
abbrev sL2 : List Blk := [tB 1 97, tB 2 120, tB 3 99]
abbrev sL3 : List Blk := [tB 1 97, tB 2 98, tB 3 99, tB 4 100]
abbrev sL4 : List Blk := [tB 1 97, tB 2 121, tB 3 99]
abbrev sL5 : List Blk := [tB 1 97, tB 2 120, tB 3 99, tB 4 100]
def withTexts (l : List Blk) : List Obj := l.map (fun x => bObj [x]) ++ [bObj l]
def saneOs : List Obj := withTexts sL1 ++ withTexts sL2 ++ withTexts sL3 ++ withTexts sL4
theorem tBs_ok (l : List (Int × UInt8)) (h : ∀ p ∈ l, okI p.1) : ∀ x ∈ l.map (fun p => tB p.1 p.2), x.lab.after = [] ∧ x.text.size ≤ maxLen ∧ okI x.kind ∧ okI x.id := fun x hx => by
  obtain ⟨p, hp, rfl⟩ := List.mem_map.1 hx
  exact tB_ok p.1 p.2 (h p hp)
theorem ok4 (a b c d : UInt8) : ∀ x ∈ [tB 1 a, tB 2 b, tB 3 c, tB 4 d], x.lab.after = [] ∧ x.text.size ≤ maxLen ∧ okI x.kind ∧ okI x.id := tBs_ok [(1, a), (2, b), (3, c), (4, d)] (fun p hp => by
  simp at hp
  rcases hp with rfl | rfl | rfl | rfl <;> (unfold okI; constructor <;> (dsimp only; omega)))
theorem ok3 (a b c : UInt8) : ∀ x ∈ [tB 1 a, tB 2 b, tB 3 c], x.lab.after = [] ∧ x.text.size ≤ maxLen ∧ okI x.kind ∧ okI x.id := tBs_ok [(1, a), (2, b), (3, c)] (fun p hp => by
  simp at hp
  rcases hp with rfl | rfl | rfl <;> (unfold okI; constructor <;> (dsimp only; omega)))
theorem ok1 : ∀ x ∈ [zB], x.lab.after = [] ∧ x.text.size ≤ maxLen ∧ okI x.kind ∧ okI x.id := fun x hx => by
  rw [List.mem_singleton] at hx; subst hx; exact zB_ok
theorem BRow.seen {w : World} {B : Nat} {v : Value} {l : List Blk} (h : BRow w B v l) (hp : ∀ x ∈ l, x.text.size ≤ maxLen ∧ okI x.kind ∧ okI x.id) : BlksM (fun a => w.cell? a) v l := (h.blks hp).mono (fun a u e => memFr_sees w _ a u e)

set_option maxRecDepth 100000 in
set_option maxHeartbeats 8000000 in
theorem sane_any (w : World) : Calls Tryz.prog 12 #[] w fun e w' => e = .returned (.bool true) ∧ Below w.heap.size w w' := by
  go_enter Tryz.func12, Tryz.ntmps12
  go_wp2_with (go_at_call 26; refine (text_any _ _ _).mono ?_; rintro e w' ⟨rfl, rfl⟩)
  change Calls _ _ _ (allocL w saneOs) _
  obtain ⟨W, HW⟩ := named (allocL w saneOs)
  rw [← HW.out]
  have hb : Below w.heap.size w W := by rw [HW.out]; exact allocL_below _ _
  have hcell : ∀ j o, saneOs[j]? = some o → W.heap[w.heap.size + j]? = some o := fun j o h => by rw [HW.out]; exact allocL_heap saneOs w j o h
  have l1 := blks_heap (l := sL1) (hcell 3 _ rfl) (ok3 _ _ _) (by decide)
  have l2 := blks_heap (l := sL2) (hcell 7 _ rfl) (ok3 _ _ _) (by decide)
  have l3 := blks_heap (l := sL3) (hcell 12 _ rfl) (ok4 _ _ _ _) (by decide)
  have l4 := blks_heap (l := sL4) (hcell 16 _ rfl) (ok3 _ _ _) (by decide)
  clear hcell HW
  have cM := merge_any l1 l2 l3 W (Sees.self W)
  unfold MergePost at cM
  rw [sane1] at cM
  refine cM.mono ?_
  rintro e w1 ⟨v1, u1, rfl, hr1, hi1, hb1⟩
  clear cM
  have r1 := hr1.seen (fun x hx => (ok4 _ _ _ _ x hx).2)
  obtain ⟨ra1, rn1, rc1, rfl⟩ := hr1.sl
  obtain ⟨ua1, uc1, rfl⟩ := hi1.shape
  replace l1 := see l1 hb1
  replace l2 := see l2 hb1
  replace l3 := see l3 hb1
  replace l4 := see l4 hb1
  replace hb := hb.trans (hb1.mono hb.size)
  clear hb1 hr1 hi1
  go_wp2_with fail
  have cM := merge_any l1 l2 l4 w1 (Sees.self w1)
  unfold MergePost at cM
  rw [sane2] at cM
  refine cM.mono ?_
  rintro e w2 ⟨v2, u2, rfl, hr2, hi2, hb2⟩
  clear cM
  have r2 := hr2.seen (fun x hx => (ok3 _ _ _ x hx).2)
  obtain ⟨g, uc2, e2, _, _, _, hc2⟩ := hi2.cells 0 (by decide)
  subst e2
  obtain ⟨ra2, rn2, rc2, rfl⟩ := hr2.sl
  replace l1 := see l1 hb2
  replace l3 := see l3 hb2
  replace l4 := see l4 hb2
  replace r1 := see r1 hb2
  replace hb := hb.trans (hb2.mono hb.size)
  clear hb2 hr2 hi2 l2
  go_wp2_with fail
  change Calls _ _ _ (w2.alloc (bObj [zB])) _
  obtain ⟨W2, HW2⟩ := named (w2.alloc (bObj [zB]))
  rw [← HW2.out]
  have hbz : Below w2.heap.size w2 W2 := by rw [HW2.out]; exact (Below.refl _ _).alloc (Nat.le_refl _) _
  have lz : BlksM (fun a => W2.cell? a) (.slice (some ⟨w2.heap.size, 0, none⟩) 1 1) [zB] := by rw [HW2.out]; exact blks_heap (l := [zB]) (World.alloc_heap_new _ _) ok1 (by decide)
  clear HW2
  have hc2' : w2.cell? ⟨g, 0, none⟩ = some (.int .i64 2) := hc2
  clear hc2
  have hc3 := (Sees.self w2).bel hbz _ _ hc2'
  clear hc2'
  replace l1 := see l1 hbz
  replace l3 := see l3 hbz
  replace l4 := see l4 hbz
  replace r1 := see r1 hbz
  replace r2 := see r2 hbz
  replace hb := hb.trans (hbz.mono hb.size)
  clear hbz
  have cM := merge_any l1 lz l3 W2 (Sees.self W2)
  unfold MergePost at cM
  rw [sane3] at cM
  refine cM.mono ?_
  rintro e w3 ⟨v3, u3, rfl, hr3, hi3, hb3⟩
  clear cM lz
  obtain ⟨ra3, rn3, rc3, rfl⟩ := hr3.sl
  obtain ⟨ua3, uc3, rfl⟩ := hi3.shape
  replace l4 := see l4 hb3
  replace r1 := see r1 hb3
  replace r2 := see r2 hb3
  have hc4 := (Sees.self W2).bel hb3 _ _ hc3
  replace hb := hb.trans (hb3.mono hb.size)
  clear hb3 hr3 hi3 l1 l3 hc3
  go_wp2_with (go_at_call 26; refine (text_any _ _ _).mono ?_; rintro e w' ⟨rfl, rfl⟩)
  change Calls _ _ _ (allocL w3 (withTexts sL5)) _
  obtain ⟨W3, HW3⟩ := named (allocL w3 (withTexts sL5))
  rw [← HW3.out]
  have hbt : Below w3.heap.size w3 W3 := by rw [HW3.out]; exact allocL_below _ _
  have hcell : ∀ j o, (withTexts sL5)[j]? = some o → W3.heap[w3.heap.size + j]? = some o := fun j o h => by rw [HW3.out]; exact allocL_heap (withTexts sL5) w3 j o h
  have l5 := blks_heap (l := sL5) (hcell 4 _ rfl) (ok4 _ _ _ _) (by decide)
  clear hcell HW3
  replace l4 := see l4 hbt
  replace r1 := see r1 hbt
  replace r2 := see r2 hbt
  have hc5 := (Sees.self w3).bel hbt _ _ hc4
  replace hb := hb.trans (hbt.mono hb.size)
  clear hbt hc4
  have cS := sameListR_any r1 l5 W3 (Sees.self W3)
  rw [decide_eq_true rfl] at cS
  refine cS.mono ?_
  rintro e w4 ⟨rfl, hb4⟩
  replace l4 := see l4 hb4
  replace r2 := see r2 hb4
  have hc6 := (Sees.self W3).bel hb4 _ _ hc5
  replace hb := hb.trans (hb4.mono hb.size)
  clear hb4 hc5 cS l5 r1
  go_wp2_with fail
  have cS := sameListR_any r2 l4 w4 (Sees.self w4)
  rw [decide_eq_true rfl] at cS
  refine cS.mono ?_
  rintro e w5 ⟨rfl, hb5⟩
  have hc7 := (Sees.self w4).bel hb5 _ _ hc6
  replace hb := hb.trans (hb5.mono hb.size)
  clear hb5 hc6 cS l4 r2
  go_wp2_with fail
  go_ret
  exact ⟨rfl, hb⟩
end Go.Proofs.YtikpbknafhnieaaGreatDoor

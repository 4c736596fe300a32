/-
  WHAT IS PROVED HERE: the walks of block.rules and block.follows: a block is valid. Conditions: the text's length fits an int, the kind is an int.
-/
import Derived.Test.YtikpbknafhnieaaGreatDoorTxt
import Derived.Test.YtikpbknafhnieaaGreatDoorLab2
import Derived.Shelf.Abstract
namespace Go.Proofs.YtikpbknafhnieaaGreatDoor
open Go.RowKit Mg Go.Shelf

def ruleV (f : Nat) (q : Bool) (g : Nat) : Value := .agg #[.func (.func f) #[] #[], .bool q, .func (.func g) #[] #[]]
def rulesL : List (Int × Value) := [(1, ruleV 57 false 59), (2, ruleV 57 false 60), (3, ruleV 58 true 63), (4, ruleV 57 false 64), (5, ruleV 65 false 66)]
abbrev RMap (w : World) (K : Nat) : Prop := IMap Tryz.prog 3 w K rulesL
theorem okI_small {n : Int} (h : 0 ≤ n) (h2 : n ≤ 1000000) : okI n := ⟨by omega, by omega⟩

set_option maxRecDepth 10000 in
set_option maxHeartbeats 1000000 in
theorem rules_any (w : World) : Calls Tryz.prog 42 #[] w fun e w' => e = .returned (.map (some w.heap.size)) ∧ RMap w' w.heap.size ∧ Below w.heap.size w w' := by
  have hmm := @run_makeMap Tryz.prog
  have h0 := IMap.made Tryz.prog 3 w
  have hb0 : Below w.heap.size w (w.alloc (.map #[] 0)) := (Below.refl _ w).alloc (Nat.le_refl _) _
  have hG : ∀ {a b : World}, Below w.heap.size w a → a.grownBy b (some w.heap.size) → Below w.heap.size w b := fun h g => h.grown g h.size (fun k e => by cases e; exact Nat.le_refl _)
  obtain ⟨w1, r1, h1, g1⟩ := h0.store Tryz.underlying3 Tryz.underlying60 (by decide) (i := 1) (okI_small (by omega) (by omega)) (by simp [keysL]) (ruleV 57 false 59)
  replace g1 := hG hb0 g1
  obtain ⟨w2, r2, h2, g2⟩ := h1.store Tryz.underlying3 Tryz.underlying60 (by decide) (i := 2) (okI_small (by omega) (by omega)) (by simp [keysL]) (ruleV 57 false 60)
  replace g2 := hG g1 g2
  obtain ⟨w3, r3, h3, g3⟩ := h2.store Tryz.underlying3 Tryz.underlying60 (by decide) (i := 3) (okI_small (by omega) (by omega)) (by simp [keysL]) (ruleV 58 true 63)
  replace g3 := hG g2 g3
  obtain ⟨w4, r4, h4, g4⟩ := h3.store Tryz.underlying3 Tryz.underlying60 (by decide) (i := 4) (okI_small (by omega) (by omega)) (by simp [keysL]) (ruleV 57 false 64)
  replace g4 := hG g3 g4
  obtain ⟨w5, r5, h5, g5⟩ := h4.store Tryz.underlying3 Tryz.underlying60 (by decide) (i := 5) (okI_small (by omega) (by omega)) (by simp [keysL]) (ruleV 65 false 66)
  replace g5 := hG g4 g5
  simp only [ruleV] at r1 r2 r3 r4 r5
  clear h0 h1 h2 h3 h4 g1 g2 g3 g4 hb0 hG
  go_enter Tryz.func42, Tryz.ntmps42
  go_wp2_with fail
  go_ret
  exact ⟨rfl, h5, g5⟩

theorem size_pos (s : ByteArray) : (s.toList.isEmpty = true ∧ (!s.toList.isEmpty) = false ∧ decide (1 ≤ s.size) = false) ∨ (s.toList.isEmpty = false ∧ (!s.toList.isEmpty) = true ∧ decide (1 ≤ s.size) = true) := by
  rw [ByteArray.toList_eq]
  by_cases h : s.size = 0
  · left
    have e : s.data.toList = [] := List.eq_nil_of_length_eq_zero (by rw [size_list]; exact h)
    rw [e, h]; exact ⟨rfl, rfl, rfl⟩
  · right
    have e : s.data.toList.isEmpty = false := by
      rw [List.isEmpty_eq_false_iff]; intro e; exact h (by rw [← size_list, e]; rfl)
    rw [e]; exact ⟨rfl, rfl, decide_eq_true (by omega)⟩
theorem filled_any (s : ByteArray) (w : World) (hs : s.size ≤ maxLen) : Calls Tryz.prog 57 #[.string s] w fun e w' => e = .returned (.bool (decide (1 ≤ s.size) && textOK s)) ∧ w = w' := by
  rcases size_pos s with ⟨h1, h2, h3⟩ | ⟨h1, h2, h3⟩
  · have H3 := Lib.hid h3
    clear h3
    go_enter Tryz.func57, Tryz.ntmps57
    go_wp2_with (go_at_call 58; refine (isText_any s _ hs).mono ?_; rintro e w' ⟨rfl, rfl⟩)
    go_ret
    exact ⟨ret_bool (by rw [H3.out]; rfl), rfl⟩
  · have H3 := Lib.hid h3
    clear h3
    go_enter Tryz.func57, Tryz.ntmps57
    go_wp2_with (go_at_call 58; refine (isText_any s _ hs).mono ?_; rintro e w' ⟨rfl, rfl⟩)
    go_ret
    exact ⟨ret_bool (by rw [H3.out]; rfl), rfl⟩
def zeroRule : Value := .agg #[.nilFunc, .bool false, .nilFunc]
theorem zero_rule (w : World) : (zeroValue 76).run Tryz.prog w = .ok zeroRule w := Tryz.zeroValue76 w
theorem ret_false {b : Bool} (h : b = false) : Ending.returned (.bool false) = .returned (.bool b) := by rw [h]
theorem ret_true {b : Bool} (h : b = true) : Ending.returned (.bool true) = .returned (.bool b) := by rw [h]

theorem run_store_func (P : Program) (w : World) (a : Addr) (m : Mode) (fn : Fn) (p q : Array Value) : (store a (.func fn p q) m).run P w = stored P w a (.func fn p q) m := run_store P w a _ m rfl
theorem run_store_nilFunc (P : Program) (w : World) (a : Addr) (m : Mode) : (store a .nilFunc m).run P w = stored P w a .nilFunc m := run_store P w a _ m rfl
attribute [local go_sem] run_store_func run_store_nilFunc

set_option maxRecDepth 10000 in
set_option maxHeartbeats 4000000 in
/-- a block of a kind that is known: T says whether its text is valid, q whether it quotes -/
theorem follows_known {mem : Addr → Option Value} (x : Blk) (av : Value) (hi : IntsM mem av x.lab.after) (hk : okI x.kind) (K : Nat) (f : Nat) (q : Bool) (g : Nat) (T : Bool) (hg : getL rulesL x.kind = some (ruleV f q g))
    (hen : ∀ args w, (callFunc f args).run Tryz.prog w = .ok (.enter f args) w) (hT : ∀ W, Calls Tryz.prog f #[.string x.text] W fun e w' => e = .returned (.bool T) ∧ W = w')
    (hV : validBlk x = (decide (1 ≤ x.id ∧ x.id ≤ 1000) && validLab x.lab && T && (if q then decide ((1 ≤ x.story ∧ x.story ≤ 64) ∧ (1 ≤ x.ref ∧ x.ref ≤ 1000)) else decide (x.story = 0 ∧ x.ref = 0))))
    (w : World) (hs : Sees mem w) (hm : RMap w K) : Calls Tryz.prog 43 #[.agg (blkCells x av), .map (some K)] w fun e w' => e = .returned (.bool (validBlk x)) ∧ Below w.heap.size w w' := by
  obtain ⟨id, kind, text, story, ref, lab⟩ := x
  obtain ⟨ao, cap, rfl⟩ := hi.slice
  dsimp only at *
  have HLV := Lib.hid (fun W hW => labValid_any lab _ hi W hW)
  have HV := Lib.hid hV
  have HT := Lib.hid hT
  have HM := Lib.hid hm
  have HS := Lib.hid hs
  have HG := Lib.hid hg
  have HB0 := Lib.hid (fun o o' => (((Below.refl w.heap.size w).alloc (Nat.le_refl _) o).alloc (by simp) o' : Below w.heap.size w ((w.alloc o).alloc o')))
  clear hi hV hT hm hs hg
  go_enter Tryz.func43, Tryz.ntmps43
  by_cases hid : 1 ≤ id ∧ id ≤ 1000
  · obtain ⟨i1, i2⟩ := hid
    go_wp2_with (at_lookup; refine wpList_imap_lookOk _ rfl _ _ 60 rfl 3 76 Tryz.underlying3 Tryz.underlying60 (zero_rule _) K rulesL rfl (HM.out.alloc _) kind rfl hk (.agg #[.func (.func f) #[] #[], .bool q, .func (.func g) #[] #[]]) true (by rw [HG.out]; rfl) (by rw [HG.out]; rfl) ?_)
    obtain ⟨W1, HW1⟩ := named ((w.alloc (.cells (blkCells ⟨id, kind, text, story, ref, lab⟩ (.slice ao lab.after.length cap)) 39)).alloc (.cells #[.func (.func f) #[] #[], .bool q, .func (.func g) #[] #[]] 76))
    rw [← HW1.out]
    have hb1 : Below w.heap.size w W1 := by rw [HW1.out]; exact HB0.out _ _
    have hc : ∀ (j : Nat) (u : Value), (blkCells ⟨id, kind, text, story, ref, lab⟩ (.slice ao lab.after.length cap))[j]? = some u → W1.cell? ⟨w.heap.size, j, none⟩ = some u := fun j u hu => by rw [HW1.out]; exact cell_old (cell_new rfl hu)
    have hc' : ∀ (j : Nat) (u : Value), (#[.func (.func f) #[] #[], .bool q, .func (.func g) #[] #[]] : Array Value)[j]? = some u → W1.cell? ⟨w.heap.size + 1, j, none⟩ = some u := fun j u hu => by rw [HW1.out]; exact cell_new (by simp) hu
    have hz : w.heap.size + 1 < W1.heap.size := by rw [HW1.out]; simp
    have hs1 := HS.out.bel hb1
    have c2 := hc 2 _ rfl
    have c3 := hc 3 _ rfl
    have c4 := hc 4 _ rfl
    have r0 := hc' 0 _ rfl
    have r1 := hc' 1 _ rfl
    have HSS := Lib.hid hs1
    clear hc hc' hs1
    go_wp2_with fail
    refine (HLV.out _ HSS.out).mono ?_
    rintro e w1 ⟨rfl, hb⟩
    replace c2 := (hb.cell (p := ⟨w.heap.size, 2, none⟩) (by simp <;> omega)).trans c2
    replace c3 := (hb.cell (p := ⟨w.heap.size, 3, none⟩) (by simp <;> omega)).trans c3
    replace c4 := (hb.cell (p := ⟨w.heap.size, 4, none⟩) (by simp <;> omega)).trans c4
    replace r0 := (hb.cell (p := ⟨w.heap.size + 1, 0, none⟩) (by simp <;> omega)).trans r0
    replace r1 := (hb.cell (p := ⟨w.heap.size + 1, 1, none⟩) (by simp <;> omega)).trans r1
    have hB : Below w.heap.size w w1 := hb1.trans (hb.mono (by omega))
    generalize validLab lab = V at *
    have HI : Hid (decide (1 ≤ id ∧ id ≤ 1000) = true) := Lib.hid (decide_eq_true ⟨i1, i2⟩)
    clear hb hb1 HSS HLV
    cases V with
    | false =>
      go_wp2_with fail
      go_ret
      exact ⟨ret_false (by rw [HV.out, HI.out]; rfl), hB⟩
    | true =>
      go_wp2_with fail
      refine (HT.out _).mono ?_
      rintro e w2 ⟨rfl, rfl⟩
      cases T with
      | false =>
        go_wp2_with fail
        go_ret
        exact ⟨ret_false (by rw [HV.out, HI.out]; rfl), hB⟩
      | true =>
        cases q with
        | false =>
          have HF : Hid (validBlk ⟨id, kind, text, story, ref, lab⟩ = decide (story = 0 ∧ ref = 0)) := Lib.hid (by rw [HV.out, HI.out]; rfl)
          by_cases h1 : story = 0
          · subst h1
            by_cases h2 : ref = 0
            · subst h2
              go_wp2_with fail
              go_ret
              exact ⟨ret_true (by rw [HF.out]; rfl), hB⟩
            · have n2 : (ref == 0) = false := by simpa using h2
              have HN : Hid (validBlk ⟨id, kind, text, 0, ref, lab⟩ = false) := Lib.hid (by rw [HF.out]; exact decide_eq_false (fun h => h2 h.2))
              clear h2
              go_wp2_with fail
              go_ret
              exact ⟨ret_false HN.out, hB⟩
          · have n1 : (story == 0) = false := by simpa using h1
            have HN : Hid (validBlk ⟨id, kind, text, story, ref, lab⟩ = false) := Lib.hid (by rw [HF.out]; exact decide_eq_false (fun h => h1 h.1))
            clear h1
            go_wp2_with fail
            go_ret
            exact ⟨ret_false HN.out, hB⟩
        | true =>
          have HF : Hid (validBlk ⟨id, kind, text, story, ref, lab⟩ = decide ((1 ≤ story ∧ story ≤ 64) ∧ (1 ≤ ref ∧ ref ≤ 1000))) := Lib.hid (by rw [HV.out, HI.out]; rfl)
          have HN : Hid (¬ ((1 ≤ story ∧ story ≤ 64) ∧ (1 ≤ ref ∧ ref ≤ 1000)) → validBlk ⟨id, kind, text, story, ref, lab⟩ = false) := Lib.hid (fun h => by rw [HF.out]; exact decide_eq_false h)
          by_cases h1 : 1 ≤ story
          · by_cases h2 : story ≤ 64
            · by_cases h3 : 1 ≤ ref
              · by_cases h4 : ref ≤ 1000
                · have HY : Hid (validBlk ⟨id, kind, text, story, ref, lab⟩ = true) := Lib.hid (by rw [HF.out]; exact decide_eq_true ⟨⟨h1, h2⟩, h3, h4⟩)
                  go_wp2_with fail
                  go_ret
                  exact ⟨ret_true HY.out, hB⟩
                · have HX := Lib.hid (HN.out (fun h => h4 h.2.2))
                  have n4 : decide (ref ≤ 1000) = false := decide_eq_false h4
                  clear HN h4
                  go_wp2_with fail
                  go_ret
                  exact ⟨ret_false HX.out, hB⟩
              · have HX := Lib.hid (HN.out (fun h => h3 h.2.1))
                have n3 : decide (1 ≤ ref) = false := decide_eq_false h3
                clear HN h3
                go_wp2_with fail
                go_ret
                exact ⟨ret_false HX.out, hB⟩
            · have HX := Lib.hid (HN.out (fun h => h2 h.1.2))
              have n2 : decide (story ≤ 64) = false := decide_eq_false h2
              clear HN h2
              go_wp2_with fail
              go_ret
              exact ⟨ret_false HX.out, hB⟩
          · have HX := Lib.hid (HN.out (fun h => h1 h.1.1))
            have n1 : decide (1 ≤ story) = false := decide_eq_false h1
            clear HN h1
            go_wp2_with fail
            go_ret
            exact ⟨ret_false HX.out, hB⟩
  · have HN : Hid (validBlk ⟨id, kind, text, story, ref, lab⟩ = false) := Lib.hid (by rw [HV.out, decide_eq_false hid]; rfl)
    have HI := Lib.hid hid
    clear hid
    go_wp2_with (at_lookup; refine wpList_imap_lookOk _ rfl _ _ 60 rfl 3 76 Tryz.underlying3 Tryz.underlying60 (zero_rule _) K rulesL rfl (HM.out.alloc _) kind rfl hk (.agg #[.func (.func f) #[] #[], .bool q, .func (.func g) #[] #[]]) true (by rw [HG.out]; rfl) (by rw [HG.out]; rfl) ?_)
    all_goals first
      | (go_ret
         exact ⟨ret_false HN.out, HB0.out _ _⟩)
      | (exfalso; exact HI.out ⟨by omega, by omega⟩)
theorem follows_unknown (x : Blk) (av : Value) (hk : okI x.kind) (K : Nat) (hg : getL rulesL x.kind = none) (hV : validBlk x = false) (hav : ∃ ao n cap, av = .slice ao n cap) (w : World) (hm : RMap w K) :
    Calls Tryz.prog 43 #[.agg (blkCells x av), .map (some K)] w fun e w' => e = .returned (.bool (validBlk x)) ∧ Below w.heap.size w w' := by
  obtain ⟨id, kind, text, story, ref, lab⟩ := x
  obtain ⟨ao, n, cap, rfl⟩ := hav
  dsimp only at *
  have HV := Lib.hid hV
  have HM := Lib.hid hm
  have HG := Lib.hid hg
  have HB0 := Lib.hid (fun o o' => (((Below.refl w.heap.size w).alloc (Nat.le_refl _) o).alloc (by simp) o' : Below w.heap.size w ((w.alloc o).alloc o')))
  clear hV hm hg
  go_enter Tryz.func43, Tryz.ntmps43
  go_wp2_with (at_lookup; refine wpList_imap_lookOk _ rfl _ _ 60 rfl 3 76 Tryz.underlying3 Tryz.underlying60 (zero_rule _) K rulesL rfl (HM.out.alloc _) kind rfl hk (.agg #[.nilFunc, .bool false, .nilFunc]) false (by rw [HG.out]; rfl) (by rw [HG.out]; rfl) ?_)
  go_ret
  exact ⟨ret_false HV.out, HB0.out _ _⟩
theorem getL_cons (k : Int) (v : Value) (l : List (Int × Value)) (i : Int) : getL ((k, v) :: l) i = if k = i then some v else getL l i := by
  unfold getL
  rw [List.find?_cons]
  by_cases h : k = i
  · simp [h]
  · simp [h]
/-- block.follows: a block is valid -/
theorem follows_any {mem : Addr → Option Value} (x : Blk) (av : Value) (hi : IntsM mem av x.lab.after) (ht : x.text.size ≤ maxLen) (hk : okI x.kind) (K : Nat) (w : World) (hs : Sees mem w) (hm : RMap w K) :
    Calls Tryz.prog 43 #[.agg (blkCells x av), .map (some K)] w fun e w' => e = .returned (.bool (validBlk x)) ∧ Below w.heap.size w w' := by
  by_cases h3 : x.kind = 3
  · refine follows_known x av hi hk K 58 true 63 (textOK x.text) (by rw [h3]; rfl) (enters_of Tryz.func58 (by kernel_rfl) rfl) (fun W => isText_any _ W ht) ?_ w hs hm
    unfold validBlk kindOK
    rw [if_neg (by omega), if_neg (by omega), if_pos h3, if_pos rfl, Bool.decide_and, Bool.decide_and, Bool.decide_and, Bool.decide_and]
    simp only [Bool.and_assoc]
  by_cases h5 : x.kind = 5
  · refine follows_known x av hi hk K 65 false 66 (nameOK x.text) (by rw [h5]; rfl) (enters_of Tryz.func65 (by kernel_rfl) rfl) (fun W => isName_any _ W ht) ?_ w hs hm
    unfold validBlk kindOK
    rw [if_neg (by omega), if_pos h5, if_neg (by decide), Bool.decide_and, Bool.decide_and]
    simp only [Bool.and_assoc]
  have hT : validBlk x = (decide (1 ≤ x.id ∧ x.id ≤ 1000) && validLab x.lab && (if x.kind = 1 ∨ x.kind = 2 ∨ x.kind = 4 then (decide (1 ≤ x.text.size) && textOK x.text) && decide (x.story = 0 ∧ x.ref = 0) else false)) := by
    unfold validBlk kindOK
    rw [if_neg h5, if_neg h3, Bool.decide_and, Bool.decide_and]
    simp only [Bool.and_assoc]
  by_cases h1 : x.kind = 1
  · rw [if_pos (.inl h1), ← Bool.and_assoc] at hT
    exact follows_known x av hi hk K 57 false 59 _ (by rw [h1]; rfl) (enters_of Tryz.func57 (by kernel_rfl) rfl) (fun W => filled_any _ W ht) (by rw [if_neg (by decide : ¬ (false = true))]; exact hT) w hs hm
  by_cases h2 : x.kind = 2
  · rw [if_pos (.inr (.inl h2)), ← Bool.and_assoc] at hT
    exact follows_known x av hi hk K 57 false 60 _ (by rw [h2]; rfl) (enters_of Tryz.func57 (by kernel_rfl) rfl) (fun W => filled_any _ W ht) (by rw [if_neg (by decide : ¬ (false = true))]; exact hT) w hs hm
  by_cases h4 : x.kind = 4
  · rw [if_pos (.inr (.inr h4)), ← Bool.and_assoc] at hT
    exact follows_known x av hi hk K 57 false 64 _ (by rw [h4]; rfl) (enters_of Tryz.func57 (by kernel_rfl) rfl) (fun W => filled_any _ W ht) (by rw [if_neg (by decide : ¬ (false = true))]; exact hT) w hs hm
  rw [if_neg (by omega), Bool.and_false] at hT
  refine follows_unknown x av hk K ?_ hT ?_ w hm
  · unfold rulesL
    rw [getL_cons, if_neg (by omega), getL_cons, if_neg (by omega), getL_cons, if_neg (by omega), getL_cons, if_neg (by omega), getL_cons, if_neg (by omega)]; rfl
  · obtain ⟨ao, cap, h⟩ := hi.slice; exact ⟨ao, _, cap, h⟩
end Go.Proofs.YtikpbknafhnieaaGreatDoor

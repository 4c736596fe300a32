/-
  WHAT IS PROVED HERE: the walks of the reference's Valid and ValidList for blocks. No condition. (Printed by tools/valr.py.)
-/
import Derived.Test.YtikpbknafhnieaaGreatDoorSame
namespace Go.Proofs.YtikpbknafhnieaaGreatDoor
open Go.RowKit Mg Go.Shelf

theorem name_text {s : ByteArray} (h : nameOK s = true) : textOK s = true := by
  unfold nameOK at h
  simp only [Bool.and_eq_true, decide_eq_true_eq] at h
  obtain ⟨⟨_, h2⟩, h3⟩ := h
  rw [textOK_eq, decide_eq_true (by omega), Bool.true_and, List.all_eq_true]
  intro c hc
  have h4 := (nameB_iff c).1 (List.all_eq_true.1 h3 c hc)
  exact okT_yes (by omega)
/-- when a block is valid, by its kind -/
structure KindF (kind : Int) (text : ByteArray) (story ref : Int) (r : Bool) : Prop where
  plain : kind = 1 ∨ kind = 2 ∨ kind = 4 → r = (decide (1 ≤ text.size) && decide (story = 0) && decide (ref = 0))
  count : kind = 5 → r = (nameOK text && decide (story = 0) && decide (ref = 0))
  quote : kind = 3 → r = (decide (1 ≤ story) && decide (story ≤ 64) && decide (1 ≤ ref) && decide (ref ≤ 1000))
  none_ : kind ≠ 1 → kind ≠ 2 → kind ≠ 4 → kind ≠ 5 → kind ≠ 3 → r = false
theorem kindF_of (x : Blk) (h1 : 1 ≤ x.id ∧ x.id ≤ 1000) (h2 : validLab x.lab = true) (h3 : textOK x.text = true) : KindF x.kind x.text x.story x.ref (validBlk x) := by
  have e : validBlk x = kindOK x := by unfold validBlk; rw [decide_eq_true h1.1, decide_eq_true h1.2, h2]; rfl
  refine ⟨fun h => ?_, fun h => ?_, fun h => ?_, fun n1 n2 n4 n5 n3 => ?_⟩
  · rw [e]; unfold kindOK; rw [if_pos h, h3, Bool.and_true]
  · rw [e]; unfold kindOK; rw [if_neg (by omega), if_pos h]
  · rw [e]; unfold kindOK; rw [if_neg (by omega), if_neg (by omega), if_pos h, h3, Bool.true_and]
  · rw [e]; unfold kindOK; rw [if_neg (by omega), if_neg n5, if_neg n3]
theorem valid_no1 {x : Blk} (h : ¬ (1 ≤ x.id ∧ x.id ≤ 1000)) : validBlk x = false := by
  rw [Bool.eq_false_iff]; intro e; unfold validBlk at e; simp only [Bool.and_eq_true, decide_eq_true_eq] at e; exact h e.1.1
theorem valid_no2 {x : Blk} (h : validLab x.lab = false) : validBlk x = false := by unfold validBlk; rw [h]; simp
theorem valid_no3 {x : Blk} (h : textOK x.text = false) : validBlk x = false := by
  have hn : nameOK x.text = false := by
    rw [Bool.eq_false_iff]; intro e; have := name_text e; rw [h] at this; cases this
  unfold validBlk kindOK
  rw [h, hn]
  simp

set_option maxRecDepth 10000 in
set_option maxHeartbeats 8000000 in
theorem validR_any {mem : Addr → Option Value} (x : Blk) (av : Value) (hi : IntsM mem av x.lab.after) (ht : x.text.size ≤ maxLen) (w : World) (hs : Sees mem w) :
    Calls Tryz.prog 54 #[.agg (blkCells x av)] w fun e w' => e = .returned (.bool (validBlk x)) ∧ Below w.heap.size w w' := by
  have HK := Lib.hid (kindF_of x)
  have HN1 := Lib.hid (@valid_no1 x)
  have HN2 := Lib.hid (@valid_no2 x)
  have HN3 := Lib.hid (@valid_no3 x)
  have HT := Lib.hid (fun W => isTextR_any x.text W ht)
  have HNM := Lib.hid (fun W => isNameR_any x.text W ht)
  have HL := Lib.hid (fun W hW => labValidR_any x.lab _ hi W hW)
  obtain ⟨ao, cap, rfl⟩ := hi.slice
  have HS := Lib.hid hs
  clear hi ht hs
  generalize validBlk x = R at *
  obtain ⟨id, kind, text, story, ref, lab⟩ := x
  dsimp only at *
  go_enter Tryz.func54, Tryz.ntmps54
  go_wp2_with fail
  refine (HT.out _).mono ?_
  rintro e w1 ⟨rfl, rfl⟩
  go_wp2_with fail
  refine (HL.out _ (HS.out.alloc _)).mono ?_
  rintro e w1 ⟨rfl, hb⟩
  have hB : Below w.heap.size w w1 := ((Below.refl _ w).alloc (Nat.le_refl _) _).trans (hb.mono (by simp))
  have hz : w.heap.size < w1.heap.size := by have := hb.size; simp at this; omega
  have hc : ∀ (j : Nat) (u : Value), (blkCells ⟨id, kind, text, story, ref, lab⟩ (.slice ao lab.after.length cap))[j]? = some u → w1.cell? ⟨w.heap.size, j, none⟩ = some u := fun j u hu => (hb.cell (p := ⟨w.heap.size, j, none⟩) (by simp)).trans (cell_new rfl hu)
  have c0 := hc 0 _ rfl
  have c1 := hc 1 _ rfl
  have c2 := hc 2 _ rfl
  have c3 := hc 3 _ rfl
  have c4 := hc 4 _ rfl
  clear hc hb HT HL HS
  generalize hTT : textOK text = T at *
  generalize hVV : validLab lab = V at *
  clear hTT hVV
  by_cases hid : 1 ≤ id ∧ id ≤ 1000
  · cases T with
    | false =>
      have HX := Lib.hid (HN3.out rfl)
      clear HK HN1 HN2 HN3
      obtain ⟨i1, i2⟩ := hid
      go_wp2_with fail
      go_ret
      exact ⟨ret_false HX.out, hB⟩
    | true =>
      cases V with
      | false =>
        have HX := Lib.hid (HN2.out rfl)
        clear HK HN1 HN2 HN3
        obtain ⟨i1, i2⟩ := hid
        go_wp2_with fail
        go_ret
        exact ⟨ret_false HX.out, hB⟩
      | true =>
        have HF := Lib.hid (HK.out hid rfl rfl)
        clear HK HN1 HN2 HN3
        obtain ⟨i1, i2⟩ := hid
        by_cases k1 : kind = 1
        · have hk := HF.out.plain (by omega)
          have HH := Lib.hid hk
          clear hk
          subst k1
          rcases size_pos text with ⟨z1, z2, z3⟩ | ⟨z1, z2, z3⟩
          · have HY : Hid (R = false) := Lib.hid (by rw [HH.out, z3, Bool.false_and, Bool.false_and])
            clear HF z3 HH
            go_wp2_with fail
            go_ret
            exact ⟨ret_false HY.out, hB⟩
          · have HG : Hid (R = (decide (story = 0) && decide (ref = 0))) := Lib.hid (by rw [HH.out, z3, Bool.true_and])
            clear z3 HH
            by_cases s0 : story = 0
            · subst s0
              by_cases r0 : ref = 0
              · subst r0
                have HY : Hid (R = true) := Lib.hid (by rw [HG.out]; rfl)
                clear HF
                go_wp2_with fail
                go_ret
                exact ⟨ret_true HY.out, hB⟩
              · have HY : Hid (R = false) := Lib.hid (by rw [HG.out, decide_eq_false r0, Bool.and_false])
                have n : (ref == 0) = false := by simpa using r0
                clear HF r0
                go_wp2_with fail
                go_ret
                exact ⟨ret_false HY.out, hB⟩
            · have HY : Hid (R = false) := Lib.hid (by rw [HG.out, decide_eq_false s0, Bool.false_and])
              have n : (story == 0) = false := by simpa using s0
              clear HF s0
              go_wp2_with fail
              go_ret
              exact ⟨ret_false HY.out, hB⟩
        by_cases k2 : kind = 2
        · have hk := HF.out.plain (by omega)
          have HH := Lib.hid hk
          clear hk
          subst k2
          rcases size_pos text with ⟨z1, z2, z3⟩ | ⟨z1, z2, z3⟩
          · have HY : Hid (R = false) := Lib.hid (by rw [HH.out, z3, Bool.false_and, Bool.false_and])
            clear HF z3 HH
            go_wp2_with fail
            go_ret
            exact ⟨ret_false HY.out, hB⟩
          · have HG : Hid (R = (decide (story = 0) && decide (ref = 0))) := Lib.hid (by rw [HH.out, z3, Bool.true_and])
            clear z3 HH
            by_cases s0 : story = 0
            · subst s0
              by_cases r0 : ref = 0
              · subst r0
                have HY : Hid (R = true) := Lib.hid (by rw [HG.out]; rfl)
                clear HF
                go_wp2_with fail
                go_ret
                exact ⟨ret_true HY.out, hB⟩
              · have HY : Hid (R = false) := Lib.hid (by rw [HG.out, decide_eq_false r0, Bool.and_false])
                have n : (ref == 0) = false := by simpa using r0
                clear HF r0
                go_wp2_with fail
                go_ret
                exact ⟨ret_false HY.out, hB⟩
            · have HY : Hid (R = false) := Lib.hid (by rw [HG.out, decide_eq_false s0, Bool.false_and])
              have n : (story == 0) = false := by simpa using s0
              clear HF s0
              go_wp2_with fail
              go_ret
              exact ⟨ret_false HY.out, hB⟩
        by_cases k4 : kind = 4
        · have hk := HF.out.plain (by omega)
          have HH := Lib.hid hk
          clear hk
          subst k4
          rcases size_pos text with ⟨z1, z2, z3⟩ | ⟨z1, z2, z3⟩
          · have HY : Hid (R = false) := Lib.hid (by rw [HH.out, z3, Bool.false_and, Bool.false_and])
            clear HF z3 HH
            go_wp2_with fail
            go_ret
            exact ⟨ret_false HY.out, hB⟩
          · have HG : Hid (R = (decide (story = 0) && decide (ref = 0))) := Lib.hid (by rw [HH.out, z3, Bool.true_and])
            clear z3 HH
            by_cases s0 : story = 0
            · subst s0
              by_cases r0 : ref = 0
              · subst r0
                have HY : Hid (R = true) := Lib.hid (by rw [HG.out]; rfl)
                clear HF
                go_wp2_with fail
                go_ret
                exact ⟨ret_true HY.out, hB⟩
              · have HY : Hid (R = false) := Lib.hid (by rw [HG.out, decide_eq_false r0, Bool.and_false])
                have n : (ref == 0) = false := by simpa using r0
                clear HF r0
                go_wp2_with fail
                go_ret
                exact ⟨ret_false HY.out, hB⟩
            · have HY : Hid (R = false) := Lib.hid (by rw [HG.out, decide_eq_false s0, Bool.false_and])
              have n : (story == 0) = false := by simpa using s0
              clear HF s0
              go_wp2_with fail
              go_ret
              exact ⟨ret_false HY.out, hB⟩
        by_cases k5 : kind = 5
        · have hk := HF.out.count k5
          have HH := Lib.hid hk
          clear hk
          subst k5
          go_wp2_with fail
          refine (HNM.out _).mono ?_
          rintro e w2 ⟨rfl, rfl⟩
          generalize nameOK text = N at *
          cases N with
          | false =>
            have HY : Hid (R = false) := Lib.hid (by rw [HH.out, Bool.false_and, Bool.false_and])
            clear HF HH
            go_wp2_with fail
            go_ret
            exact ⟨ret_false HY.out, hB⟩
          | true =>
            have HG : Hid (R = (decide (story = 0) && decide (ref = 0))) := Lib.hid (by rw [HH.out, Bool.true_and])
            clear HH
            by_cases s0 : story = 0
            · subst s0
              by_cases r0 : ref = 0
              · subst r0
                have HY : Hid (R = true) := Lib.hid (by rw [HG.out]; rfl)
                clear HF
                go_wp2_with fail
                go_ret
                exact ⟨ret_true HY.out, hB⟩
              · have HY : Hid (R = false) := Lib.hid (by rw [HG.out, decide_eq_false r0, Bool.and_false])
                have n : (ref == 0) = false := by simpa using r0
                clear HF r0
                go_wp2_with fail
                go_ret
                exact ⟨ret_false HY.out, hB⟩
            · have HY : Hid (R = false) := Lib.hid (by rw [HG.out, decide_eq_false s0, Bool.false_and])
              have n : (story == 0) = false := by simpa using s0
              clear HF s0
              go_wp2_with fail
              go_ret
              exact ⟨ret_false HY.out, hB⟩
        by_cases k3 : kind = 3
        · have hk := HF.out.quote k3
          have HH := Lib.hid hk
          clear hk HF
          subst k3
          by_cases q4 : 1 ≤ story
          · by_cases q3 : story ≤ 64
            · by_cases q2 : 1 ≤ ref
              · by_cases q1 : ref ≤ 1000
                · have HY : Hid (R = true) := Lib.hid (by rw [HH.out, decide_eq_true q4, decide_eq_true q3, decide_eq_true q2, decide_eq_true q1]; rfl)
                  clear HH
                  go_wp2_with fail
                  go_ret
                  exact ⟨ret_true HY.out, hB⟩
                · have HY : Hid (R = false) := Lib.hid (by rw [HH.out, decide_eq_false q1]; simp)
                  have nq1 : decide (ref ≤ 1000) = false := decide_eq_false q1
                  clear HH q1
                  go_wp2_with fail
                  go_ret
                  exact ⟨ret_false HY.out, hB⟩
              · have HY : Hid (R = false) := Lib.hid (by rw [HH.out, decide_eq_false q2]; simp)
                have nq2 : decide (1 ≤ ref) = false := decide_eq_false q2
                clear HH q2
                go_wp2_with fail
                go_ret
                exact ⟨ret_false HY.out, hB⟩
            · have HY : Hid (R = false) := Lib.hid (by rw [HH.out, decide_eq_false q3]; simp)
              have nq3 : decide (story ≤ 64) = false := decide_eq_false q3
              clear HH q3
              go_wp2_with fail
              go_ret
              exact ⟨ret_false HY.out, hB⟩
          · have HY : Hid (R = false) := Lib.hid (by rw [HH.out, decide_eq_false q4]; simp)
            have nq4 : decide (1 ≤ story) = false := decide_eq_false q4
            clear HH q4
            go_wp2_with fail
            go_ret
            exact ⟨ret_false HY.out, hB⟩
        have HY : Hid (R = false) := Lib.hid (HF.out.none_ k1 k2 k4 k5 k3)
        have n1 : (kind == 1) = false := by simpa using k1
        have n2 : (kind == 2) = false := by simpa using k2
        have n4 : (kind == 4) = false := by simpa using k4
        have n5 : (kind == 5) = false := by simpa using k5
        have n3 : (kind == 3) = false := by simpa using k3
        clear HF k1 k2 k4 k5 k3
        go_wp2_with fail
        go_ret
        exact ⟨ret_false HY.out, hB⟩
  · have HX := Lib.hid (HN1.out hid)
    have HI := Lib.hid hid
    clear HK HN1 HN2 HN3 hid
    go_wp2_with fail
    all_goals first
      | (go_ret
         exact ⟨ret_false HX.out, hB⟩)
      | (exfalso; exact HI.out ⟨by omega, by omega⟩)

set_option maxRecDepth 10000 in
set_option maxHeartbeats 4000000 in
theorem validListR_any {mem : Addr → Option Value} {v : Value} {l : List Blk} (h : BlksM mem v l) (w : World) (hs : Sees mem w) :
    Calls Tryz.prog 36 #[v] w fun e w' => e = .returned (.bool (decide (ValidL l))) ∧ Below w.heap.size w w' := by
  obtain ⟨ao, cap, b, o, rfl, hcap, hm, hao, hblks⟩ := h.open_
  have HAO := Lib.hid hao
  have HB := Lib.hid hblks
  have HS := Lib.hid hs
  have hlen : (l.length : Int) ≤ 9223372036854775807 := by unfold maxLen at hm; omega
  clear h hao hblks hs hm
  by_cases h24 : l.length ≤ 24
  · have HOK : Hid (PreOK l l.length → decide (ValidL l) = true) := Lib.hid (fun h => decide_eq_true (validL_all h24 h))
    go_enter Tryz.func36, Tryz.ntmps36
    go_wp2_with fail
    go_loopw [3, 4, 5] (fun i _ _ wr => ∃ k : Nat, k ≤ l.length ∧ i = .int .i64 k ∧ Below w.heap.size w wr ∧ Hid (PreOK l k)) (fun i _ _ _ => l.length - (intOf i).toNat)
    case atStart => exact ⟨0, Nat.zero_le _, rfl, Below.refl _ _, Lib.hid (PreOK.zero l)⟩
    case round =>
      obtain ⟨k, hk, rfl, hb, hp⟩ := hrel
      obtain ⟨wo, rfl⟩ : ∃ wo, wo = wr := ⟨_, rfl⟩
      by_cases hlt : k < l.length
      · obtain ⟨⟨t1, _, _⟩, lo, lc, hi, hc9⟩ := (HB.out k hlt).nine (HS.out.bel hb)
        obtain rfl := HAO.out (by omega)
        obtain ⟨c0, c1, c2, c3, c4, c5, c6, c7, c8⟩ := hc9
        have hbl : b < wo.heap.size := World.block_lt_of_cell? wo _ c0
        have HF : Hid (Calls Tryz.prog 54 #[.agg (blkCells l[k] (.slice lo l[k].lab.after.length lc))] wo fun e w' => e = .returned (.bool (validBlk l[k])) ∧ Below wo.heap.size wo w') :=
          Lib.hid (validR_any l[k] _ hi t1 wo (HS.out.bel hb))
        have HNB : Hid (validBlk l[k] = false → decide (ValidL l) = false) := Lib.hid (fun h => decide_eq_false (validL_bad hlt h))
        have HNT : Hid (∀ j (hj : j < k), l[j].id = l[k].id → decide (ValidL l) = false) := Lib.hid (fun j hj e => decide_eq_false (validL_twice hj hlt e))
        have HST : Hid (validBlk l[k] = true → (∀ j (hj : j < k), l[j].id ≠ l[k].id) → PreOK l (k + 1)) := Lib.hid (fun h1 h2 => PreOK.succ hlt hp.out h1 h2)
        have hkc : (k : Int) ≤ cap := by omega
        have hk0 : (0 : Int) ≤ k := by omega
        have hk1 : (k : Int) < l.length := by omega
        clear hi t1 hp
        generalize hx : l[k] = x at *
        obtain ⟨id, kind, text, story, ref, till, after, appr, denied⟩ := x
        clear hx
        dsimp only at *
        go_wp2_with fail
        refine HF.out.mono ?_
        rintro e w3 ⟨rfl, hb3⟩
        have hB3 : Below w.heap.size w w3 := hb.trans (hb3.mono hb.size)
        replace c0 := (hb3.cell (p := ⟨b, o + k * 9, none⟩) hbl).trans c0
        have hbl3 : b < w3.heap.size := Nat.lt_of_lt_of_le hbl hb3.size
        generalize hV : validBlk ⟨id, kind, text, story, ref, ⟨till, after, appr, denied⟩⟩ = V at *
        clear hV
        cases V with
        | false =>
          have HNB2 := Lib.hid (HNB.out rfl)
          clear HNB HST HNT HF
          go_wp2_with fail
          go_ret
          exact ⟨ret_false HNB2.out, hB3⟩
        | true =>
          have HST2 := Lib.hid (HST.out rfl)
          clear HNB HST HF hb3 c1 c2 c3 c4 c5 c6 c7 c8
          go_wp2_with fail
          go_loopw [5] (fun i wi => ∃ j : Nat, j ≤ k ∧ i = .int .i64 j ∧ Below w3.heap.size w3 wi ∧ Hid (∀ m (hm : m < j) (hm2 : m < l.length), l[m].id ≠ id)) (fun i _ => k - (intOf i).toNat)
          case atStart => exact ⟨0, Nat.zero_le _, rfl, Below.refl _ _, Lib.hid (fun m hm => absurd hm (by omega))⟩
          case round =>
            obtain ⟨j, hj, rfl, hbi, hne⟩ := hrel
            have hBi : Below w.heap.size w wr := hB3.trans (hbi.mono hB3.size)
            by_cases hjk : j < k
            · have hjl : j < l.length := by omega
              have hj0 : (0 : Int) ≤ j := by omega
              have hj1 : (j : Int) < l.length := by omega
              obtain ⟨_, lo2, lc2, _, d9⟩ := (HB.out j hjl).nine (HS.out.bel hBi)
              have d0 := d9.c0
              have c0' := (hbi.cell (p := ⟨b, o + k * 9, none⟩) hbl3).trans c0
              have HEQ : Hid (l[j].id = id → decide (ValidL l) = false) := Lib.hid (fun e => HNT.out j hjk e)
              have HNE : Hid (l[j].id ≠ id → ∀ m (hm : m < j + 1) (hm2 : m < l.length), l[m].id ≠ id) := Lib.hid (fun e m hm hm2 => by
                by_cases h : m = j
                · subst h; exact e
                · exact hne.out m (by omega) hm2)
              clear hne d9
              generalize l[j].id = id2 at *
              by_cases he : id2 = id
              · have e1 : (id2 == id) = true := by simpa using he
                have HF := Lib.hid (HEQ.out he)
                clear he HEQ HNE
                go_wp2_with fail
                go_quiet (fail)
                go_wp2_with fail
                go_ret
                exact ⟨ret_false HF.out, below_drewN hBi _⟩
              · have e1 : (id2 == id) = false := by simpa using he
                have HF := Lib.hid (HNE.out he)
                clear he HEQ HNE
                go_wp2_with fail
                go_quiet (fail)
                go_wp2_with fail
                go_roundw
                case rel => exact ⟨j + 1, by omega, by go_num, below_drewN hbi _, HF⟩
                case measure => simp [intOf]; omega
            · have e : j = k := by omega
              subst e
              have HP : Hid (PreOK l (j + 1)) := Lib.hid (HST2.out (fun m hm => hne.out m hm (by omega)))
              go_wp2_with fail
              go_roundw
              case rel => exact ⟨j + 1, by omega, by go_num, hBi, HP⟩
              case measure => simp [intOf]; omega
      · have e : k = l.length := by omega
        subst e
        have HF := Lib.hid (HOK.out hp.out)
        go_wp2_with fail
        go_ret
        exact ⟨ret_true HF.out, hb⟩
  · have HF : Hid (decide (ValidL l) = false) := Lib.hid (decide_eq_false (fun h => h24 h.1))
    go_enter Tryz.func36, Tryz.ntmps36
    go_wp2_with fail
    go_ret
    exact ⟨ret_false HF.out, Below.refl _ _⟩
end Go.Proofs.YtikpbknafhnieaaGreatDoor

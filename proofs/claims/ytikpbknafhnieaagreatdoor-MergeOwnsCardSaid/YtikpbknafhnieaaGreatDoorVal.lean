/-
  WHAT IS PROVED HERE: the walks of block.ValidList and block.Same. No condition.
-/
import Derived.Test.YtikpbknafhnieaaGreatDoorFol
namespace Go.Proofs.YtikpbknafhnieaaGreatDoor
open Go.RowKit Mg Go.Shelf

def PreOK (l : List Blk) (k : Nat) : Prop := (∀ b ∈ l.take k, validBlk b = true) ∧ (ids (l.take k)).Nodup
theorem PreOK.zero (l : List Blk) : PreOK l 0 := ⟨by simp, by simp⟩
theorem PreOK.succ {l : List Blk} {k : Nat} (hk : k < l.length) (h : PreOK l k) (hv : validBlk l[k] = true) (hn : ∀ j (hj : j < k), l[j].id ≠ l[k].id) : PreOK l (k + 1) := by
  refine (valid_take k hk).2 ⟨h, hv, fun hm => ?_⟩
  obtain ⟨b, hb, e⟩ := List.mem_map.1 hm
  obtain ⟨j, hj, rfl⟩ := List.getElem_of_mem hb
  rw [List.length_take] at hj
  rw [List.getElem_take] at e
  exact hn j (by omega) e
theorem validL_bad {l : List Blk} {k : Nat} (hk : k < l.length) (hv : validBlk l[k] = false) : ¬ ValidL l := fun h => by
  have := h.2.1 l[k] (List.getElem_mem hk); rw [hv] at this; cases this
theorem validL_twice {l : List Blk} {j k : Nat} (hj : j < k) (hk : k < l.length) (e : l[j].id = l[k].id) : ¬ ValidL l := fun h => by
  have := (List.pairwise_iff_getElem.1 h.2.2) j k (by simp; omega) (by simpa using hk) hj
  simp at this
  exact this e
theorem validL_all {l : List Blk} (h : l.length ≤ 24) (hp : PreOK l l.length) : ValidL l := by
  unfold PreOK at hp
  rw [List.take_length] at hp
  exact ⟨h, hp⟩
theorem cells9_below {w w' : World} {b o : Nat} {x : Blk} {av : Value} (h : Cells9 w b o x av) {B : Nat} (hb : Below B w w') (hB : b < B) : Cells9 w' b o x av :=
  have k : ∀ {j : Nat} {v : Value}, w.cell? ⟨b, j, none⟩ = some v → w'.cell? ⟨b, j, none⟩ = some v := fun {j} {_} e => (hb.cell (p := ⟨b, j, none⟩) hB).trans e
  ⟨k h.c0, k h.c1, k h.c2, k h.c3, k h.c4, k h.c5, k h.c6, k h.c7, k h.c8⟩

set_option maxRecDepth 10000 in
set_option maxHeartbeats 4000000 in
theorem validList_any {mem : Addr → Option Value} {v : Value} {l : List Blk} (h : BlksM mem v l) (w : World) (hs : Sees mem w) :
    Calls Tryz.prog 18 #[v] w fun e w' => e = .returned (.bool (decide (ValidL l))) ∧ Below w.heap.size w w' := by
  obtain ⟨ao, cap, b, o, rfl, hcap, hm, hao, hblks⟩ := h.open_
  have HAO := Lib.hid hao
  have HB := Lib.hid hblks
  have HS := Lib.hid hs
  have hlen : (l.length : Int) ≤ 9223372036854775807 := by unfold maxLen at hm; omega
  clear h hao hblks hs
  by_cases h24 : l.length ≤ 24
  · have HOK : Hid (PreOK l l.length → decide (ValidL l) = true) := Lib.hid (fun h => decide_eq_true (validL_all h24 h))
    go_enter Tryz.func18, Tryz.ntmps18
    go_wp2_with fail
    refine (rules_any w).mono ?_
    rintro e w1 ⟨rfl, hM, hb1⟩
    have hlt1 := hM.lt
    have HM := Lib.hid hM
    have HS1 := Lib.hid (HS.out.bel hb1)
    clear hM
    go_wp2_with fail
    go_loopw [14] (fun i wr => ∃ k : Nat, k ≤ l.length ∧ i = .int .i64 k ∧ Below w1.heap.size w1 wr ∧ Hid (PreOK l k)) (fun i _ => l.length - (intOf i).toNat)
    case atStart => exact ⟨0, Nat.zero_le _, rfl, Below.refl _ _, Lib.hid (PreOK.zero l)⟩
    case round =>
      obtain ⟨k, hk, rfl, hb, hp⟩ := hrel
      obtain ⟨wo, rfl⟩ : ∃ wo, wo = wr := ⟨_, rfl⟩
      have hB : Below w.heap.size w wo := hb1.trans (hb.mono hb1.size)
      by_cases hlt : k < l.length
      · obtain ⟨⟨t1, t2, _⟩, lo, lc, hi, hc9⟩ := (HB.out k hlt).nine (HS1.out.bel hb)
        obtain rfl := HAO.out (by omega)
        have hbl : b < w1.heap.size := World.block_lt_of_cell? w1 _ (((HB.out k hlt).nine HS1.out).2.choose_spec.choose_spec.2.c0)
        have HC9 := Lib.hid hc9
        obtain ⟨c0, c1, c2, c3, c4, c5, c6, c7, c8⟩ := hc9
        have HF : Hid (∀ W, Sees mem W → RMap W w.heap.size → Calls Tryz.prog 43 #[.agg (blkCells l[k] (.slice lo l[k].lab.after.length lc)), .map (some w.heap.size)] W fun e w' => e = .returned (.bool (validBlk l[k])) ∧ Below W.heap.size W w') :=
          Lib.hid (fun W hS hM => follows_any l[k] _ hi t1 t2 _ W hS hM)
        have HNB : Hid (validBlk l[k] = false → decide (ValidL l) = false) := Lib.hid (fun h => decide_eq_false (validL_bad hlt h))
        have HNT : Hid (∀ j (hj : j < k), l[j].id = l[k].id → decide (ValidL l) = false) := Lib.hid (fun j hj e => decide_eq_false (validL_twice hj hlt e))
        have HST : Hid (validBlk l[k] = true → (∀ j (hj : j < k), l[j].id ≠ l[k].id) → PreOK l (k + 1)) := Lib.hid (fun h1 h2 => PreOK.succ hlt hp.out h1 h2)
        have hkc : (k : Int) ≤ cap := by omega
        have HX : Hid (l[k].id = l[k].id) := Lib.hid rfl
        clear hi t1 t2 hp
        generalize hx : l[k] = x at *
        obtain ⟨id, kind, text, story, ref, till, after, appr, denied⟩ := x
        have HXX := Lib.hid hx
        clear hx
        dsimp only at *
        go_wp2_with fail
        obtain ⟨W2, HW2⟩ := named (wo.alloc (.cells (blkCells ⟨id, kind, text, story, ref, ⟨till, after, appr, denied⟩⟩ (.slice lo after.length lc)) 39))
        rw [← HW2.out]
        have hb2 : Below wo.heap.size wo W2 := by rw [HW2.out]; exact (Below.refl _ wo).alloc (Nat.le_refl _) _
        have hz2 : wo.heap.size < W2.heap.size := by rw [HW2.out]; simp
        have hq : W2.cell? ⟨wo.heap.size, 0, none⟩ = some (.int .i64 id) := by rw [HW2.out]; exact cell_new rfl rfl
        have hb12 : Below w1.heap.size w1 W2 := hb.trans (hb2.mono hb.size)
        refine (HF.out W2 (HS1.out.bel hb12) (HM.out.below hb12 hlt1)).mono ?_
        rintro e w3 ⟨rfl, hb3⟩
        replace hq := (hb3.cell (p := ⟨wo.heap.size, 0, none⟩) hz2).trans hq
        have hb13 : Below w1.heap.size w1 w3 := hb12.trans (hb3.mono hb12.size)
        have hB3 : Below w.heap.size w w3 := hb1.trans (hb13.mono hb1.size)
        have hz3 : wo.heap.size < w3.heap.size := Nat.lt_of_lt_of_le hz2 hb3.size
        generalize hV : validBlk ⟨id, kind, text, story, ref, ⟨till, after, appr, denied⟩⟩ = V at *
        clear hV
        cases V with
        | false =>
          have HNB2 := Lib.hid (HNB.out rfl)
          clear HNB HST HNT
          go_wp2_with fail
          go_ret
          exact ⟨ret_false HNB2.out, hB3⟩
        | true =>
          have HST2 := Lib.hid (HST.out rfl)
          clear HNB HST
          go_wp2_with fail
          clear HF hb2 hb3 hb12 hz2 c0 c1 c2 c3 c4 c5 c6 c7 c8
          go_loopw [27] (fun i wi => ∃ j : Nat, j ≤ k ∧ i = .int .i64 j ∧ Below w3.heap.size w3 wi ∧ Hid (∀ m (hm : m < j) (hm2 : m < l.length), l[m].id ≠ id)) (fun i _ => k - (intOf i).toNat)
          case atStart => exact ⟨0, Nat.zero_le _, rfl, Below.refl _ _, Lib.hid (fun m hm => absurd hm (by omega))⟩
          case round =>
            obtain ⟨j, hj, rfl, hbi, hne⟩ := hrel
            have hBi : Below w.heap.size w wr := hB3.trans (hbi.mono hB3.size)
            by_cases hjk : j < k
            · have hjl : j < l.length := by omega
              obtain ⟨_, lo2, lc2, _, d9⟩ := (HB.out j hjl).nine (HS1.out.bel (hb13.trans (hbi.mono hb13.size)))
              obtain ⟨d0, d1, d2, d3, d4, d5, d6, d7, d8⟩ := d9
              have hq2 := (hbi.cell (p := ⟨wo.heap.size, 0, none⟩) hz3).trans hq
              have hz4 : wo.heap.size < wr.heap.size := Nat.lt_of_lt_of_le hz3 hbi.size
              have HEQ : Hid (l[j].id = id → decide (ValidL l) = false) := Lib.hid (fun e => HNT.out j hjk e)
              have HNE : Hid (l[j].id ≠ id → ∀ m (hm : m < j + 1) (hm2 : m < l.length), l[m].id ≠ id) := Lib.hid (fun e m hm hm2 => by
                by_cases h : m = j
                · subst h; exact e
                · exact hne.out m (by omega) hm2)
              clear hne
              generalize l[j] = y at *
              obtain ⟨id2, kind2, text2, story2, ref2, till2, after2, appr2, denied2⟩ := y
              dsimp only at *
              by_cases he : id2 = id
              · have e1 : (id2 == id) = true := by simpa using he
                have HF := Lib.hid (HEQ.out he)
                clear he HEQ HNE
                go_wp2_with fail
                go_ret
                exact ⟨ret_false HF.out, hBi.alloc hBi.size _⟩
              · have e1 : (id2 == id) = false := by simpa using he
                have HF := Lib.hid (HNE.out he)
                clear he HEQ HNE
                go_wp2_with fail
                go_roundw
                case rel => exact ⟨j + 1, by omega, by go_num, hbi.alloc hbi.size _, HF⟩
                case measure => simp [intOf]; omega
            · have e : j = k := by omega
              subst e
              have HP : Hid (PreOK l (j + 1)) := Lib.hid (HST2.out (fun m hm => hne.out m hm (by omega)))
              go_wp2_with fail
              go_roundw
              case rel => exact ⟨j + 1, by omega, by go_num, hb13.trans (hbi.mono hb13.size), HP⟩
              case measure => simp [intOf]; omega
      · have e : k = l.length := by omega
        subst e
        have HF := Lib.hid (HOK.out hp.out)
        go_wp2_with fail
        go_ret
        exact ⟨ret_true HF.out, hB⟩
  · have HF : Hid (decide (ValidL l) = false) := Lib.hid (decide_eq_false (fun h => h24 h.1))
    go_enter Tryz.func18, Tryz.ntmps18
    go_wp2_with fail
    go_ret
    exact ⟨ret_false HF.out, Below.refl _ _⟩
end Go.Proofs.YtikpbknafhnieaaGreatDoor

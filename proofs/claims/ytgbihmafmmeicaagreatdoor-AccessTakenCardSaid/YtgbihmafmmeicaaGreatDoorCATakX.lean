/-
  WHAT IS PROVED HERE: a law returns true and leaves its arguments as they were, for all arguments (3 texts joined). Conditions: those of the card.
-/
import Derived.Test.YtgbihmafmmeicaaGreatDoorBn5
/-
  WHAT IS PROVED HERE: plain: what AccessTaken asks of the visible facts. No program, no condition.
-/
namespace Go.Proofs.YtgbihmafmmeicaaGreatDoor
open Mg

def tkF (s : Int) : Fct := { fct0 with n := 30, kind := 6, story := s }
def tpF : Fct := { fct0 with n := 31, kind := 7, name := ⟨#[108, 97, 115, 116]⟩, text := ⟨#[120]⟩ }
theorem tk_valid {s : Int} (h1 : 1 ≤ s) (h2 : s ≤ 4) : validF (tkF s) = true := by
  refine valid_mk (by show (0 : Int) ≤ 30 ∧ (30 : Int) ≤ 500; omega) (by show (0 : Int) ≤ 0 ∧ (0 : Int) ≤ _; omega) ?_ rfl
  show storyOK (tkF s) = true
  unfold storyOK
  rw [inR_iff]
  show 1 ≤ s ∧ s ≤ 64
  omega
theorem tp_valid : validF tpF = true := by kernel_rfl
theorem tk_tidy (s : Int) : Tidy (tkF s) := ⟨.inr (.inr (.inr (.inr (.inr (.inl rfl))))), rfl⟩
theorem tp_tidy : Tidy tpF := ⟨.inr (.inr (.inr (.inr (.inr (.inr (.inl rfl)))))), rfl⟩
def lastN (l : List Fct) (i : Nat) : Int := if i = 0 then 0 else ((l[i - 1]?).map Fct.n).getD 0
theorem lastN_succ {l : List Fct} {i : Nat} (h : i < l.length) : lastN l (i + 1) = l[i].n := by
  unfold lastN
  rw [if_neg (by omega), Nat.add_sub_cancel, List.getElem?_eq_getElem h]
  rfl
theorem ns_up {l : List Fct} (h : (l.map Fct.n).Pairwise (· < ·)) (h1 : ∀ n ∈ l.map Fct.n, 1 ≤ n) {i : Nat} (hi : i < l.length) : lastN l i < l[i].n := by
  by_cases h0 : i = 0
  · subst h0
    unfold lastN
    rw [if_pos rfl]
    have := h1 l[0].n (List.mem_map_of_mem (List.getElem_mem hi))
    omega
  · obtain ⟨j, rfl⟩ : ∃ j, i = j + 1 := ⟨i - 1, by omega⟩
    rw [lastN_succ (by omega)]
    rw [List.pairwise_iff_getElem] at h
    have := h j (j + 1) (by rw [List.length_map]; omega) (by rw [List.length_map]; omega) (by omega)
    rwa [List.getElem_map, List.getElem_map] at this
theorem taken_law {xs : List Six} {s cls now : Int} {L : List Int} (h1 : 1 ≤ s) (h2 : s ≤ 4) (hc : 0 ≤ cls ∧ cls < 4) {V : List Fct} (hV : V = visOf ((logF xs ++ [tkF s, tpF]).filter validF) cls now L) :
    (∀ i (hi : i < V.length), lastN V i < V[i].n ∧ (V[i].kind = 7 ∨ V[i].story ∈ L) ∧ (V[i].kind = 7 ∨ V[i].story ≠ s ∨ V[i].kind = 3 ∨ V[i].kind = 6)) ∧ lastN V V.length = 31 := by
  have hD : (logF xs ++ [tkF s, tpF]).filter validF = ((logF xs).filter validF ++ [tkF s]) ++ [tpF] := by
    rw [List.filter_append, List.append_assoc]
    congr 1
    simp [tk_valid h1 h2, tp_valid]
  rw [hD] at hV
  unfold visOf at hV
  rw [if_pos hc] at hV
  have hns : ((((logF xs).filter validF ++ [tkF s]) ++ [tpF]).map Fct.n).Pairwise (· < ·) ∧ ∀ n ∈ (((logF xs).filter validF ++ [tkF s]) ++ [tpF]).map Fct.n, 1 ≤ n := by
    obtain ⟨q1, q2⟩ := logF_ns xs
    have hsub : List.Sublist (((logF xs).filter validF).map Fct.n) ((logF xs).map Fct.n) := List.Sublist.map _ List.filter_sublist
    have p1 := q1.sublist hsub
    have p2 : ∀ n ∈ ((logF xs).filter validF).map Fct.n, 1 ≤ n ∧ n ≤ 24 := fun n hn => q2 n (hsub.subset hn)
    have e : (((logF xs).filter validF ++ [tkF s]) ++ [tpF]).map Fct.n = ((logF xs).filter validF).map Fct.n ++ [30, 31] := by
      rw [List.append_assoc, List.map_append]; rfl
    rw [e]
    constructor
    · rw [List.pairwise_append]
      refine ⟨p1, by simp, fun a ha b hb => ?_⟩
      have := p2 a ha
      simp only [List.mem_cons, List.not_mem_nil, or_false] at hb
      omega
    · intro n hn
      rcases List.mem_append.1 hn with hn | hn
      · exact (p2 n hn).1
      · simp only [List.mem_cons, List.not_mem_nil, or_false] at hn
        omega
  have hs := visGo_ns ⟨((logF xs).filter validF ++ [tkF s]) ++ [tpF], cls, now, L⟩ (((logF xs).filter validF ++ [tkF s]) ++ [tpF]) (fun _ _ _ => false)
  have hs' : List.Sublist (V.map Fct.n) ((((logF xs).filter validF ++ [tkF s]) ++ [tpF]).map Fct.n) := by rw [hV]; exact hs
  have v1 := hns.1.sublist hs'
  have v2 : ∀ n ∈ V.map Fct.n, 1 ≤ n := fun n hn => hns.2 n (hs'.subset hn)
  have htk : takenF (((logF xs).filter validF ++ [tkF s]) ++ [tpF]) s = true := by
    unfold takenF
    rw [List.any_eq_true]
    refine ⟨tkF s, by simp, ?_⟩
    unfold isTake
    simp [tkF]
  refine ⟨fun i hi => ?_, ?_⟩
  · have hm : V[i] ∈ visC ⟨((logF xs).filter validF ++ [tkF s]) ++ [tpF], cls, now, L⟩ := by rw [← hV]; exact List.getElem_mem hi
    obtain ⟨o1, o2⟩ := visC_out _ _ hm
    refine ⟨ns_up v1 v2 hi, o1, ?_⟩
    by_cases hst : V[i].story = s
    · rcases o2 (by rw [hst]; exact htk) with h | h | h
      · exact .inl h
      · exact .inr (.inr (.inl h))
      · exact .inr (.inr (.inr h))
    · exact .inr (.inl hst)
  · have hl := visC_last (c := ⟨((logF xs).filter validF ++ [tkF s]) ++ [tpF], cls, now, L⟩) (D := (logF xs).filter validF ++ [tkF s]) (t := tpF) rfl rfl
    rw [← hV] at hl
    rw [hl, List.length_append, List.length_singleton, lastN_succ (by simp)]
    simp [stripF, tpF]
end Go.Proofs.YtgbihmafmmeicaaGreatDoor
/-
  WHAT IS PROVED HERE: the walk of the law AccessTaken. No condition but that the arguments lie in memory and are within Go's.
-/
namespace Go.Proofs.YtgbihmafmmeicaaGreatDoor
open Go.RowKit Mg Go.Shelf

theorem lt1 (s : Int) : Tryz.prog.built 45 [(0, .int .i64 30), (2, .int .i64 6), (3, .int .i64 s)] = some (plainE (tkF s)).cells := by kernel_rfl
theorem lt2 : Tryz.prog.built 45 [(0, .int .i64 31), (2, .int .i64 7), (16, .string ⟨#[108, 97, 115, 116]⟩), (15, .string ⟨#[120]⟩)] = some (plainE tpF).cells := by kernel_rfl
def tkEs (s : Int) : List FctE := [plainE (tkF s), plainE tpF]
theorem fillT (s : Int) : Instr.fill (fun i => some (i * 23, 23)) ((Array.range (2 * 23)).map (zeroF.cells[· % zeroF.cells.size]!)) [(0, .agg (plainE (tkF s)).cells), (1, .agg (plainE tpF).cells)] = some (rowVals (tkEs s)).toArray := by kernel_rfl
theorem tkEs_ok {s : Int} (h1 : 1 ≤ s) (h2 : s ≤ 4) : ∀ e ∈ tkEs s, ∀ mem, e.ok mem := fun e he mem => by
  have z := fok_zero
  rcases List.mem_cons.1 he with rfl | he
  · exact plain_ok ⟨okS (by show -1000 ≤ (30 : Int); omega) (by show (30 : Int) ≤ 1000; omega), z.i1, okS (by show -1000 ≤ (6 : Int); omega) (by show (6 : Int) ≤ 1000; omega), okS (by show -1000 ≤ s; omega) (by show s ≤ 1000; omega), z.s4, z.i5, z.i6, z.s7, z.s8, z.i11, z.i13, z.i14, z.i15, z.i16, z.i17, z.s18, z.s19, z.i20, z.i21, z.i22, z.bl⟩ rfl rfl rfl
  rcases List.mem_cons.1 he with rfl | he
  · exact plain_ok ⟨okS (by show -1000 ≤ (31 : Int); omega) (by show (31 : Int) ≤ 1000; omega), z.i1, okS (by show -1000 ≤ (7 : Int); omega) (by show (7 : Int) ≤ 1000; omega), z.i3, z.s4, z.i5, z.i6, z.s7, z.s8, z.i11, z.i13, z.i14, z.i15, z.i16, z.i17, ml _ (by decide), ml _ (by decide), z.i20, z.i21, z.i22, z.bl⟩ rfl rfl rfl
  cases he
set_option maxRecDepth 100000 in
set_option maxHeartbeats 8000000 in
theorem law_taken {mem : Addr → Option Value} {v : Value} {xs : List Six} (hx : SixM mem v xs) {a b dn : Int} (ha : okI a) (hb : okI b) (hd : okI dn) (w : World) (hs : Sees mem w) :
    Calls Tryz.prog 8 #[v, .agg #[.int .i64 a, .int .i64 b], .int .i64 dn] w fun e w' => e = .returned (.bool true) ∧ Below w.heap.size w w' := by
  have HX := Lib.hid hx
  obtain ⟨_, _, ⟨_, oa, oc, rfl, _⟩, _⟩ := hx
  have HB1 : Hid (Below w.heap.size w (w.alloc (.cells #[.int .i64 a, .int .i64 b] 23))) := Lib.hid ((Below.refl _ w).alloc (Nat.le_refl _) _)
  have HA1 := Lib.hid (World.alloc_heap_new w (.cells #[.int .i64 a, .int .i64 b] 23))
  have HS1 := Lib.hid (hs.bel HB1.out)
  have c1 := Lib.hid (fun W => pick_any dn 4 hd (by omega) (by omega) W)
  obtain ⟨p0, p1⟩ := pickF_lt (c := dn) (n := 4) (by omega)
  obtain ⟨q0, q1⟩ := pickF_lt (c := a) (n := 4) (by omega)
  obtain ⟨t0, t1⟩ := pickF_lt (c := b) (n := 25) (by omega)
  have c2 := Lib.hid (fun W => at_any2 a b ha hb W)
  generalize pickF dn 4 = pd at *
  generalize pickF a 4 = pa at *
  generalize pickF b 25 = pb at *
  obtain ⟨st, hst⟩ : ∃ st, st = 1 + pd := ⟨_, rfl⟩
  have HST := Lib.hid hst
  have hst1 : 1 ≤ st := by omega
  have hst4 : st ≤ 4 := by omega
  clear hs ha hb hd
  go_enter Tryz.func8, Tryz.ntmps8
  go_upto_region 1 with fail
  generalize hW1 : w.alloc _ = W1 at *
  clear hW1
  go_wp2_with fail
  refine (sane_any W1).mono ?_
  rintro e W2 ⟨rfl, hb2⟩
  have HB2 := Lib.hid (HB1.out.trans (hb2.mono HB1.out.size))
  have HA2 := Lib.hid ((hb2.block _ (Go.Proofs.YtgbihmafmmeicaaGreatDoor.hlt HA1.out)).trans HA1.out)
  have HS2 := Lib.hid (HS1.out.bel hb2)
  clear hb2
  go_wp2_with fail
  refine (c1.out _).mono ?_
  rintro e w3 ⟨rfl, rfl⟩
  go_wp2_with fail
  refine (log_any _ xs HX.out W2 HS2.out).mono ?_
  rintro e W3 ⟨lv, ys, rfl, hys, hI⟩
  obtain ⟨la, ln, lc, rfl⟩ := hI.row.sl
  have HI := Lib.hid hI
  have HYS := Lib.hid hys
  have hyl : ys.length ≤ 24 := by rw [← List.length_map (f := FctE.f), hys]; exact logF_len xs
  have HN3 : Hid (Below W3.heap.size W3 (W3.alloc (.cells (rowVals (tkEs st)).toArray 45))) := Lib.hid ((Below.refl _ W3).alloc (Nat.le_refl _) _)
  have HE3 := Lib.hid (FRow.es (frow_lit (B := W3.heap.size) (es := tkEs st) (Nat.le_refl _) (World.alloc_heap_new W3 (.cells (rowVals (tkEs st)).toArray 45)) (by show 2 ≤ 1000; omega)) (fun e he => tkEs_ok hst1 hst4 e he _))
  clear hI hys
  rw [← hst]
  clear hst p0 p1
  go_upto_region 4 with (first
    | ((with_reducible refine at_fbuild _ rfl ?_); go_must (refine wpList_buildTo rfl 45 _ rfl _ rfl _ (by simp [Act.eval, Act.put]; with_reducible (first | exact lt1 _ | exact lt2)) ?_))
    | ((with_reducible refine at_fslices _ _ rfl ?_); go_must (refine wpList_fct_slices rfl _ _ rfl _ (by omega) (by omega) _ (by simp [Act.eval, Act.put]) (fillT st) ?_))
    | (at_builtin
       go_must (refine wpList_app_facts rfl _ _ rfl W2.heap.size _ ys rfl ((HI.out.below HN3.out).row) (some ⟨W3.heap.size, 0, none⟩) 2 (tkEs st) rfl HE3.out (by show ys.length + 2 ≤ 100000; omega) (by have := HI.out.bel.size; have := HN3.out.size; omega) ?_)
       intro v4 W4 h4 hg4 hn4
       have H4 := Lib.hid (HI.out.apps HN3.out (tkEs_ok hst1 hst4) h4 hg4 hn4)
       obtain ⟨es, hes⟩ : ∃ e, e = ys ++ tkEs st := ⟨_, rfl⟩
       rw [← hes] at h4 H4
       obtain ⟨va, vc, rfl⟩ := h4.shape
       have HEQ := Lib.hid hes
       clear h4 hg4 hn4 hes))
  have HM : Hid (es.map FctE.f = logF xs ++ [tkF st, tpF]) := Lib.hid (by rw [HEQ.out, List.map_append, HYS.out]; rfl)
  have HTY : Hid (∀ e ∈ es, Tidy e.f) := Lib.hid (fun e he => by
    rw [HEQ.out] at he
    rcases List.mem_append.1 he with he | he
    · exact logF_tidy xs _ (by rw [← HYS.out]; exact List.mem_map_of_mem he)
    · rcases List.mem_cons.1 he with rfl | he
      · exact tk_tidy st
      · rcases List.mem_cons.1 he with rfl | he
        · exact tp_tidy
        · cases he)
  have hal : es.length ≤ 1000 := by rw [HEQ.out, List.length_append]; show ys.length + 2 ≤ 1000; omega
  have HB4 := Lib.hid (HB2.out.trans (H4.out.bel.mono HB2.out.size))
  have hA4 := (H4.out.bel.block _ (Go.Proofs.YtgbihmafmmeicaaGreatDoor.hlt HA2.out)).trans HA2.out
  have k0 : W4.cell? ⟨w.heap.size, 0, none⟩ = some (.int .i64 a) := blk_cell hA4 0
  have k1 : W4.cell? ⟨w.heap.size, 1, none⟩ = some (.int .i64 b) := blk_cell hA4 1
  have HES := Lib.hid H4.out.es
  clear hA4 H4 HI HN3 HE3 hyl
  go_wp2_with fail
  refine (c2.out _).mono ?_
  rintro e W5 ⟨rfl, hb5⟩
  have HB5 := Lib.hid (HB4.out.trans (hb5.mono HB4.out.size))
  have HES5 := Lib.hid (HES.out.mono (sees_bel hb5))
  clear k0 k1 hb5 HES HB4
  go_wp2_with fail
  refine (access_out_any _ es HES5.out HTY.out hal pa pb W5 (fun a u h => h) (cells_lt W5)).mono ?_
  rintro e W6 ⟨ov, L, rfl, hor, ho, hb6⟩
  obtain ⟨o1, o2, rfl⟩ := hor.shape
  rw [HM.out] at ho
  have HO := Lib.hid ho
  have HOR := Lib.hid hor.ints
  have HB6 := Lib.hid (HB5.out.trans (hb6.mono HB5.out.size))
  have HES6 := Lib.hid (HES5.out.mono (sees_bel hb6))
  clear ho hor hb6 HB5 HES5
  go_wp2_with fail
  refine (access_visible_any _ es HES6.out HTY.out hal pa pb W6 (fun a u h => h) (cells_lt W6)).mono ?_
  rintro e W7 ⟨vv, zs, L2, rfl, hL2, hzs, hzr, hzok, hb7⟩
  rw [HM.out] at hL2 hzs
  rw [out_one (hL2 q0 q1) HO.out] at hzs
  obtain ⟨za, zc, zb, zo, rfl, hzm, hza, hze⟩ := (hzr.es (fun y hy => (hzok y hy).mono (memFr_sees _ _))).open_
  unfold maxLen at hzm
  have hzl : (zs.length : Int) ≤ 9223372036854775807 := by omega
  have HZA := Lib.hid hza
  have HZE := Lib.hid hze
  have HB7 := Lib.hid (HB6.out.trans (hb7.mono HB6.out.size))
  have HOR7 := Lib.hid (HOR.out.mono (sees_bel hb7))
  have HL := Lib.hid (taken_law (xs := xs) hst1 hst4 ⟨q0, q1⟩ hzs)
  have hln : (zs.map FctE.f).length = zs.length := List.length_map _
  have HLN := Lib.hid hln
  have HC := Lib.hid (fun x => hasR_any (mem := fun a => W7.cell? a) (.slice o1 L.length o2) L HOR7.out x W7 (fun a u h => h))
  clear hL2 hzs hzr hzok hb7 hza hze HB6 HOR HES6 hln HO HTY
  go_wp2_with fail
  go_loop [7, 14, 15] (fun q m i => ∃ k : Nat, k ≤ zs.length ∧ i = .int .i64 k ∧ m = .int .i64 (lastN (zs.map FctE.f) k) ∧ q = .bool true) (fun _ _ i => zs.length - (intOf i).toNat)
  case atStart => exact ⟨0, Nat.zero_le _, rfl, rfl, rfl⟩
  case round =>
    obtain ⟨k, hk, rfl, rfl, rfl⟩ := hrel
    by_cases hlt : k < zs.length
    · obtain rfl := HZA.out (by omega)
      obtain ⟨_, hat⟩ := HZE.out k hlt
      have hk2 : k < (zs.map FctE.f).length := by rw [HLN.out]; exact hlt
      have hfk : (zs.map FctE.f)[k] = zs[k].f := List.getElem_map _
      obtain ⟨l1, l2, l3⟩ := HL.out.1 k hk2
      have hls := lastN_succ hk2
      rw [hfk] at l1 l2 l3 hls
      have k0 : W7.cell? ⟨zb, zo + k * 23, none⟩ = some (.int .i64 zs[k].f.n) := hat 0 _ rfl
      have k2 : W7.cell? ⟨zb, zo + k * 23 + 2, none⟩ = some (.int .i64 zs[k].f.kind) := hat 2 _ rfl
      have k3 : W7.cell? ⟨zb, zo + k * 23 + 3, none⟩ = some (.int .i64 zs[k].f.story) := hat 3 _ rfl
      have HLS := Lib.hid hls
      have HL2 := Lib.hid (And.intro l2 l3)
      generalize hlk : lastN (zs.map FctE.f) k = lk at *
      have HC1 := Lib.hid (HC.out zs[k].f.story)
      generalize zs[k].f.n = yn at *
      generalize zs[k].f.kind = yk at *
      generalize zs[k].f.story = ys at *
      clear hat hfk hls hlk l2 l3
      by_cases h7 : yk = 7
      · subst h7
        go_wp2_with fail
        go_round
        case rel => exact ⟨k + 1, by omega, by go_num, by rw [HLS.out], rfl⟩
        case measure => simp [intOf]; omega
      · have b7 : (yk == 7) = false := by simpa using h7
        have hin : decide (ys ∈ L) = true := by
          rcases HL2.out.1 with h | h
          · exact absurd h h7
          · exact decide_eq_true h
        have HC2 : Hid (Calls Tryz.prog 19 #[.slice o1 L.length o2, .int .i64 ys] W7 fun e w' => e = .returned (.bool true) ∧ W7 = w') := Lib.hid (by
          have h := HC1.out
          rw [hin] at h
          exact h)
        clear hin
        by_cases hss : ys = st
        · by_cases h3 : yk = 3
          · subst hss
            subst h3
            clear h7
            go_wp2_with fail
            refine HC2.out.mono ?_
            rintro e w8 ⟨rfl, rfl⟩
            go_wp2_with fail
            go_round
            case rel => exact ⟨k + 1, by omega, by go_num, by rw [HLS.out], rfl⟩
            case measure => simp [intOf]; omega
          · have h6 : yk = 6 := by
              rcases HL2.out.2 with h | h | h | h
              · exact absurd h h7
              · exact absurd hss h
              · exact absurd h h3
              · exact h
            subst hss
            subst h6
            clear h7 h3
            go_wp2_with fail
            refine HC2.out.mono ?_
            rintro e w8 ⟨rfl, rfl⟩
            go_wp2_with fail
            go_round
            case rel => exact ⟨k + 1, by omega, by go_num, by rw [HLS.out], rfl⟩
            case measure => simp [intOf]; omega
        · have bs : (ys != st) = true := by simpa using hss
          clear hss h7
          go_wp2_with fail
          refine HC2.out.mono ?_
          rintro e w8 ⟨rfl, rfl⟩
          go_wp2_with fail
          go_round
          case rel => exact ⟨k + 1, by omega, by go_num, by rw [HLS.out], rfl⟩
          case measure => simp [intOf]; omega
    · obtain rfl : k = zs.length := by omega
      have e31 := HL.out.2
      rw [HLN.out] at e31
      rw [e31]
      go_wp2_with fail
      go_ret
      exact ⟨rfl, HB7.out⟩
end Go.Proofs.YtgbihmafmmeicaaGreatDoor
/-
  WHAT IS PROVED HERE: AccessTaken returns true and leaves its arguments as they were, for all arguments. Conditions: those of the card (the listed tables of Go's library lie as their text lays them).
-/
namespace Go.Proofs.YtgbihmafmmeicaaGreatDoor.fnATak
open Go.ChangeShapes Go.WideShapes Go.ChangeAt Go.RowKit Go.ChangeMaps Mg

set_option maxRecDepth 100000 in
theorem contract (H : Type) (enc : TypeId × Value → H) (W : World) (base : Nat) (args : Array Value) (ds gs : List (DataW H)) (before : List MemPlace)
    (hval : ∀ (j : Nat) t v, Tryz.f8.params[j]? = some t → args[j]? = some v → Value.okWide Tryz.prog W .any base t v)
    (hW : DataW.Whole enc Tryz.prog Tryz.f8.params.toList Rows.accessTakenSpec.vars false W args.toList ds gs before) :
    Calls Tryz.prog 8 args W fun e W' => ∃ v, e = .returned v ∧ Rows.accessTakenSpec.post enc Tryz.prog Tryz.f8 false true false false W args v W' := by
  have hread : ∀ t ∈ Tryz.f8.params.toList, Tryz.prog.readableRec t = true ∧ t < Tryz.prog.types.size := by
    have hall : (Tryz.f8.params.toList.all fun t => Tryz.prog.readableRec t && decide (t < Tryz.prog.types.size)) = true := by kernel_rfl
    intro t ht
    have := List.all_eq_true.1 hall t ht
    simpa using this
  have hclose : ∀ W', Below W.heap.size W W' → (Rows.accessTakenSpec.fn H ds).results = [.lit (.bool true)] ∧ (Rows.accessTakenSpec.fn H ds).args = ds ∧ (Rows.accessTakenSpec.fn H ds).vars = [] → Rows.accessTakenSpec.post enc Tryz.prog Tryz.f8 false true false false W args (.bool true) W' :=
    fun W' hg hs => close_law hW rfl (by kernel_rfl) hs hread hg
  obtain ⟨p, q, hA0, hV, rfl, hfz, hnd⟩ := hW
  have hA : DataW.TrodAll enc Tryz.prog W 0 (fun _ => true) true Tryz.f8.params.toList args.toList ds p := hA0
  obtain ⟨rfl, rfl⟩ := trodVars_none hV
  rw [Tryz.params8] at hA hval
  clear hA0 hread hfz hnd hV
  obtain ⟨v0, vs0, d0, ds0, p0, q0, hargs, rfl, rfl, h0, r0⟩ := trodAll_cons hA
  obtain ⟨v1, vs1, d1, ds1, p1, q1, rfl, rfl, rfl, h1, r1⟩ := trodAll_cons r0
  obtain ⟨v2, vs2, d2, ds2, p2, q2, rfl, rfl, rfl, h2, r2⟩ := trodAll_cons r1
  obtain ⟨rfl, rfl, rfl⟩ := trodAll_nil r2
  obtain rfl : args = #[v0, v1, v2] := by cases args; simp_all
  obtain ⟨l0, b0⟩ := sixes_in (hval 0 22 v0 rfl rfl) h0
  obtain ⟨x1, y1, rfl, ka1, kb1⟩ := pair_in (hval 1 23 v1 rfl rfl) h1
  obtain ⟨x2, rfl, ka2⟩ := int_in (hval 2 3 v2 rfl rfl) h2
  refine (law_taken b0 ka1 kb1 ka2 W (Sees.self W)).mono fun e W' ⟨he, hg⟩ => ?_
  exact ⟨_, he, hclose W' hg ⟨rfl, rfl, rfl⟩⟩

theorem laid_met (os : Os) : laidMet Tryz.prog Rows.accessTakenRow.laid ((laidWorld os).forCall (fun _ _ => 0) ⟨#[], #[.slice none 0 0, .agg #[.int .i64 0, .int .i64 0], .int .i64 0], []⟩).memory :=
  laidMet_of_run' 8 (by kernel_rfl) (by kernel_rfl)
theorem reads (os : Os) {H : Type} (enc : TypeId × Value → H) : ∃ places, DataW.whole enc Tryz.prog ((laidWorld os).forCall (fun _ _ => 0) ⟨#[], #[.slice none 0 0, .agg #[.int .i64 0, .int .i64 0], .int .i64 0], []⟩).memory Tryz.f8.params.toList Rows.accessTakenSpec.vars false (#[Value.slice none 0 0, .agg #[.int .i64 0, .int .i64 0], .int .i64 0] : Array Value).toList 8 = some ([.nil, .agg [.lit (.int .i64 0), .lit (.int .i64 0)], .lit (.int .i64 0)], [], places) :=
  ⟨[], by kernel_rfl⟩

set_option maxRecDepth 100000 in
theorem lifted (os : Os) (started : os.Started) (H : Type) (enc : TypeId × Value → H) (F : Stop.Interp) :
    ReturnsInHanded {} Tryz.checked os 8 .any ((OpenSpec.ofChange Rows.accessTakenSpec).preRow enc Tryz.prog Tryz.f8 Rows.accessTakenRow.domain false Rows.accessTakenRow.laid) (((OpenSpec.ofChange Rows.accessTakenSpec).at F).post enc Tryz.prog Tryz.f8 false true false false) := by
  obtain ⟨places, hx⟩ := reads os enc
  refine returnsInHanded_of_row (C := Tryz.checked) (s := OpenSpec.ofChange Rows.accessTakenSpec) own started (by kernel_rfl) Tryz.func8
    (witness_row_at (enc := enc) (C := Tryz.checked) false (laidWorld os) #[.slice none 0 0, .agg #[.int .i64 0, .int .i64 0], .int .i64 0] rfl (by kernel_rfl) (by kernel_rfl) (by kernel_rfl)
      (OpenSpec.preRow_of_cond 8 hx (by kernel_rfl) (fun k hk => by cases hk) (by kernel_rfl) (laid_met os))) ?_
  intro W base args ds gs before hval hW _ _ _ _ _ _
  exact contract H enc W base args ds gs before hval hW

theorem said : Rows.AccessTakenSaid :=
  OpenClaim.holds_of_cond 8 Tryz.f8 rfl rfl rfl rfl rfl rfl rfl ⟨rfl, rfl, rfl, rfl, rfl⟩ rfl rfl rfl rfl rfl (by kernel_rfl) Tryz.func8 (by kernel_rfl)
    (of_decide_eq_true (by kernel_rfl)) (by unfold Func.isWrapper; first | (rw [if_pos (by decide +kernel)]; kernel_rfl) | (rw [if_neg (by decide +kernel)]; exact ⟨rfl, rfl⟩))
    (fun os started H enc _ F => by rw [OpenClaim.pre_eq_preRow]; exact lifted os started H enc F)

/-- No parameter wants a stand-in; the program's own looks are off: what both cards ask. -/
theorem plain (f : FuncId) (fn : Func) (hf : Tryz.pinned.checked.prog.funcNamed "copydesk/copydesklaw06.AccessTaken" = some f) (hfn : Tryz.pinned.checked.prog.funcs[f]? = some fn) :
    false = Tryz.pinned.checked.prog.looks [] ∧ ∀ (j : Nat) t, fn.params[j]? = some t → Tryz.pinned.checked.prog.wantsStandIn t = false := by
  obtain rfl : f = 8 := Option.some.inj ((show Tryz.prog.funcNamed "copydesk/copydesklaw06.AccessTaken" = some 8 by kernel_rfl).symm.trans hf) |>.symm
  obtain rfl : fn = Tryz.f8 := (Option.some.inj (Tryz.func8.symm.trans hfn)).symm
  refine ⟨by kernel_rfl, fun j t ht => ?_⟩
  have hall : Tryz.f8.params.all (fun t => !Tryz.prog.wantsStandIn t) = true := by kernel_rfl
  have := Array.all_eq_true'.1 hall t (Array.mem_of_getElem? ht)
  exact (by simpa using this : Tryz.prog.wantsStandIn t = false)

/-- ████ THE CARD ████ -/
theorem card : Rows.AccessTakenCardSaid :=
  Claim7.holds_tied_plain_at .later [] _ _ _ _ said (fun _ h => by cases h) (by kernel_rfl) (fun _ h => by cases h) accessTaken_row_tie rfl ⟨rfl, rfl⟩ (by kernel_rfl) rfl plain (by kernel_rfl)
end Go.Proofs.YtgbihmafmmeicaaGreatDoor.fnATak

/-
  WHAT IS PROVED HERE: the walk of the reference's Merge (printed by tools/refw.py). No condition.
-/
import Derived.Test.YtikpbknafhnieaaGreatDoorRefD
import Derived.Test.YtikpbknafhnieaaGreatDoorRefR
import Derived.Test.YtikpbknafhnieaaGreatDoorValR
namespace Go.Proofs.YtikpbknafhnieaaGreatDoor
open Go.RowKit Mg Go.Shelf

/-- what the reference's Merge gives -/
def RefPost (mem : Addr → Option Value) (base a b : List Blk) (w : World) (e : Ending) (w' : World) : Prop :=
  ∃ v u, e = .returned (.tuple #[v, u, .int .i64 (mergeF base a b).2.2]) ∧ SRow mem w' w.heap.size v (mergeF base a b).1 ∧ IRow w' w.heap.size u (mergeF base a b).2.1 ∧ Below w.heap.size w w'
theorem SRow.nil (mem : Addr → Option Value) (w : World) (B : Nat) : SRow mem w B (.slice none 0 0) [] := ⟨[], World.ownsRow_nil _ _ _ _, rfl⟩
theorem SRow.less {mem : Addr → Option Value} {w : World} {B B' : Nat} {v : Value} {l : List Blk} (h : SRow mem w B v l) (hB : B' ≤ B) : SRow mem w B' v l := by
  obtain ⟨vs, h1, h2⟩ := h
  refine ⟨vs, ⟨h1.1, ?_⟩, h2⟩
  rcases h1.2 with hq | ⟨g, cap, cur, e, hb, rest⟩
  · exact .inl hq
  · exact .inr ⟨g, cap, cur, e, by omega, rest⟩
theorem SRow.bel {mem : Addr → Option Value} {w w' : World} {B : Nat} {v : Value} {l : List Blk} (h : SRow mem w B v l) (hb : Below w.heap.size w w') : SRow mem w' B v l :=
  h.kept (Upd.of_below hb) (fun k hk => by have := (h.ge k hk).2; omega)
theorem refPost_err {mem : Addr → Option Value} {base a b : List Blk} {w w' : World} (h : mergeF base a b = ([], [], 40)) (hb : Below w.heap.size w w') : RefPost mem base a b w (.returned (.tuple #[.slice none 0 0, .slice none 0 0, .int .i64 40])) w' := by
  unfold RefPost
  rw [h]
  exact ⟨_, _, rfl, SRow.nil _ _ _, World.ownsRow_nil _ _ _ _, hb⟩
theorem validR_bool {mem : Addr → Option Value} {v : Value} {l : List Blk} {q : Bool} (h : BlksM mem v l) (hq : decide (ValidL l) = q) (w : World) (hs : Sees mem w) :
    Calls Tryz.prog 36 #[v] w fun e w' => e = .returned (.bool q) ∧ Below w.heap.size w w' := by rw [← hq]; exact validListR_any h w hs

set_option maxRecDepth 10000 in
set_option maxHeartbeats 2000000 in
theorem refmerge_bad {mem : Addr → Option Value} {v1 v2 v3 : Value} {base a b : List Blk} (h1 : BlksM mem v1 base) (h2 : BlksM mem v2 a) (h3 : BlksM mem v3 b) (hv : ¬ (ValidL base ∧ ValidL a ∧ ValidL b)) (w : World) (hs : Sees mem w) :
    Calls Tryz.prog 15 #[v1, v2, v3] w (RefPost mem base a b w) := by
  have HP := Lib.hid (fun (w' : World) (hb : Below w.heap.size w w') => refPost_err (mem := mem) (mergeF_bad hv) hb)
  have c1 := fun q hq W hW => validR_bool (q := q) h1 hq W hW
  have c2 := fun q hq W hW => validR_bool (q := q) h2 hq W hW
  have c3 := fun q hq W hW => validR_bool (q := q) h3 hq W hW
  have HQ : Hid (¬ (decide (ValidL base) = true ∧ decide (ValidL a) = true ∧ decide (ValidL b) = true)) := Lib.hid (by simpa using hv)
  replace c1 := c1 _ rfl
  replace c2 := c2 _ rfl
  replace c3 := c3 _ rfl
  generalize decide (ValidL base) = q1 at *
  generalize decide (ValidL a) = q2 at *
  generalize decide (ValidL b) = q3 at *
  clear h1 h2 h3 hv
  go_enter Tryz.func15, Tryz.ntmps15
  go_wp2_with fail
  refine (c1 w hs).mono ?_
  rintro e w1 ⟨rfl, hb⟩
  replace hs := hs.bel hb
  clear c1
  go_wp2_with fail
  refine (c2 w1 hs).mono ?_
  rintro e w2 ⟨rfl, hb'⟩
  replace hs := hs.bel hb'
  replace hb := hb.trans (hb'.mono hb.size)
  clear hb' c2
  go_wp2_with fail
  refine (c3 w2 hs).mono ?_
  rintro e w3 ⟨rfl, hb'⟩
  replace hb := hb.trans (hb'.mono hb.size)
  clear hb' c3 hs
  have hq := HQ.out
  have HF := Lib.hid (HP.out _ hb)
  clear hb HP HQ
  cases q1 <;> cases q2 <;> cases q3
  all_goals first
    | (exfalso; simp at hq; done)
    | (clear hq
       go_wp2_with fail
       go_ret3
       exact HF.out)

theorem fm_snoc {X Y Z : List Blk} {s : List Int} {k : Nat} (hk : k < s.length) : (s.take (k + 1)).filterMap (pk X Y Z) = (s.take k).filterMap (pk X Y Z) ++ (pk X Y Z s[k]).toList := by
  rw [List.take_succ_eq_append_getElem hk, List.filterMap_append]
  congr 1
theorem fm_filter (f : Int → Option Blk) : ∀ l : List Int, (l.filter fun i => (f i).isSome).filterMap f = l.filterMap f
  | [] => rfl
  | i :: r => by
    have ih := fm_filter f r
    cases h : f i with
    | none => rw [List.filter_cons_of_neg (by rw [h]; simp), List.filterMap_cons_none h, ih]
    | some x => rw [List.filter_cons_of_pos (by rw [h]; rfl), List.filterMap_cons_some h, List.filterMap_cons_some h, ih]
theorem filter_snoc {p : Int → Bool} {s : List Int} {k : Nat} (hk : k < s.length) : (s.take (k + 1)).filter p = (s.take k).filter p ++ if p s[k] = true then [s[k]] else [] := by
  rw [List.take_succ_eq_append_getElem hk, List.filter_append]
  congr 1
  by_cases h : p s[k] = true
  · rw [if_pos h]; exact List.filter_cons_of_pos h
  · rw [if_neg h]; exact List.filter_cons_of_neg h
theorem take_filter_len {p : Int → Bool} (s : List Int) (k : Nat) : ((s.take k).filter p).length ≤ s.length :=
  Nat.le_trans (List.length_filter_le _ _) (by rw [List.length_take]; omega)
/-- what one id of the following list does -/
theorem step_none {X Y Z : List Blk} {lead foll : List Int} {k : Nat} (hk : k < foll.length) (h : pk X Y Z foll[k] = none) : refSt X Y Z lead foll (k + 1) = refSt X Y Z lead foll k := by
  rw [refSt_succ hk]
  have e : hasAt X Y Z foll[k] = false := by rw [has_pk, h]; rfl
  unfold refStep
  rw [e]; simp
theorem step_in {X Y Z : List Blk} {lead foll : List Int} {k : Nat} (hk : k < foll.length) {x : Blk} (h : pk X Y Z foll[k] = some x) (hm : foll[k] ∈ lead) : refSt X Y Z lead foll (k + 1) = ((refSt X Y Z lead foll k).1, foll[k]) := by
  rw [refSt_succ hk]
  have e : hasAt X Y Z foll[k] = true := by rw [has_pk, h]; rfl
  unfold refStep
  rw [e]; simp [hm]
theorem step_out {X Y Z : List Blk} {lead foll : List Int} {k : Nat} (hk : k < foll.length) {x : Blk} (h : pk X Y Z foll[k] = some x) (hm : foll[k] ∉ lead) :
    refSt X Y Z lead foll (k + 1) = (insAt (refSt X Y Z lead foll k).1 (placeI (refSt X Y Z lead foll k).1 (refSt X Y Z lead foll k).2 + 1).toNat foll[k], foll[k]) := by
  rw [refSt_succ hk]
  have e : hasAt X Y Z foll[k] = true := by rw [has_pk, h]; rfl
  unfold refStep
  rw [e]; simp [hm]
theorem fm_ins {X Y Z : List Blk} {s : List Int} (hs : AllHas X Y Z s) {i : Int} {x : Blk} (h : pk X Y Z i = some x) (k : Nat) : (insAt s k i).filterMap (pk X Y Z) = ((s.filterMap (pk X Y Z)).take k ++ [x]) ++ (s.filterMap (pk X Y Z)).drop k := by
  obtain ⟨e1, e2⟩ := fm_take hs k
  unfold insAt
  rw [List.filterMap_append, List.filterMap_cons_some h, e1, e2, List.append_assoc]; rfl

set_option maxRecDepth 100000 in
set_option maxHeartbeats 8000000 in
theorem refmerge_good {mem : Addr → Option Value} {v1 v2 v3 : Value} {base a b : List Blk} (h1 : BlksM mem v1 base) (h2 : BlksM mem v2 a) (h3 : BlksM mem v3 b) (p1 : ValidL base) (p2 : ValidL a) (p3 : ValidL b) (w : World) (hs : Sees mem w) :
    Calls Tryz.prog 15 #[v1, v2, v3] w (RefPost mem base a b w) := by
  have c1 := fun W hW => validR_bool h1 (decide_eq_true p1) W hW
  have c2 := fun W hW => validR_bool h2 (decide_eq_true p2) W hW
  have c3 := fun W hW => validR_bool h3 (decide_eq_true p3) W hW
  have cI := fun W hW => idsR_any h1 h2 h3 W hW
  have HCH := Lib.hid (fun i W hW => chosenR_any h1 h2 h3 i W hW)
  have HAT2 := Lib.hid (fun i W hW => atR_any v2 a h2 i W hW)
  have HAT3 := Lib.hid (fun i W hW => atR_any v3 b h3 i W hW)
  have HOK := Lib.hid (fun i x (hx : pk base a b i = some x) => (pickAt_id hx).2.elim (h2.ok x) (h3.ok x))
  have cV := fun q (hq : movedL (ids base) (-1) (ids b) = q) W hW => (by rw [← hq]; exact movedR_any h3 h1 W hW : Calls Tryz.prog 39 #[v1, v3] W fun e w' => e = .returned (.bool q) ∧ Below W.heap.size W w')
  obtain ⟨a1, n1, rfl⟩ := h1.slice
  obtain ⟨ao2, cap2, g2, o2, rfl, _, hm2, hao2, hb2⟩ := h2.open_
  obtain ⟨ao3, cap3, g3, o3, rfl, _, hm3, hao3, hb3⟩ := h3.open_
  have HAO2 := Lib.hid hao2
  have HAO3 := Lib.hid hao3
  have HB2 := Lib.hid hb2
  have HB3 := Lib.hid hb3
  have hl2 : a.length ≤ 24 := p2.1
  have hl3 : b.length ≤ 24 := p3.1
  have HV := Lib.hid (And.intro p1 (And.intro p2 p3))
  have HS := Lib.hid hs
  have hQ : ∀ q, (movedL (ids base) (-1) (ids b) = q) ↔ (q = !decide (Keeps (ids b) (ids base))) := fun q => by
    have := movedL_keeps p1.2.2 p3.2.2
    by_cases hk : Keeps (ids b) (ids base)
    · rw [this.2 hk, decide_eq_true hk]; exact eq_comm
    · rw [decide_eq_false hk]
      cases hh : movedL (ids base) (-1) (ids b)
      · exact absurd (this.1 hh) hk
      · exact eq_comm
  have HKP := Lib.hid hQ
  clear h1 h2 h3 p1 p2 p3 hs hm2 hm3 hao2 hao3 hb2 hb3 hQ
  go_enter Tryz.func15, Tryz.ntmps15
  go_wp2_with fail
  refine (c1 w HS.out).mono ?_
  rintro e w1 ⟨rfl, hb⟩
  have hs := HS.out.bel hb
  clear c1
  go_wp2_with fail
  refine (c2 w1 hs).mono ?_
  rintro e w2 ⟨rfl, hb'⟩
  replace hs := hs.bel hb'
  replace hb := hb.trans (hb'.mono hb.size)
  clear hb' c2
  go_wp2_with fail
  refine (c3 w2 hs).mono ?_
  rintro e w3 ⟨rfl, hb'⟩
  replace hs := hs.bel hb'
  replace hb := hb.trans (hb'.mono hb.size)
  clear hb' c3
  go_wp2_with fail
  refine (cI w3 hs).mono ?_
  rintro e w4 ⟨sv, rfl, hall, hb'⟩
  replace hb := hb.trans (hb'.mono hb.size)
  clear hb' cI hs
  obtain ⟨S, HSn⟩ := named (idsTo base a b 1000)
  rw [← HSn.out] at hall
  have hSl : S.length ≤ 1000 := by rw [HSn.out]; exact idsTo_len _ _ _ _
  have HALL := Lib.hid (fun j hj => IRow.cells hall j hj)
  obtain ⟨sa, sc, rfl⟩ := hall.shape
  have hwz := hb.size
  have H0 : Hid (IRow w4 w.heap.size (.slice none 0 0) ((S.take 0).filter fun i => (pickAt base a b i).2)) := Lib.hid (World.ownsRow_nil _ _ _ _)
  clear hall
  go_wp2_with fail
  go_loopw [15, 13, 14] (fun i r n wr => ∃ k : Nat, k ≤ S.length ∧ i = .int .i64 k ∧ n = .int .i64 (((S.take k).filter (hasAt base a b)).length : Nat) ∧ (∃ ra rn rc, r = .slice ra rn rc) ∧ Below w4.heap.size w4 wr ∧ Hid (IRow wr w4.heap.size r ((S.take k).filter fun i => (pickAt base a b i).2))) (fun i _ _ _ => S.length - (Go.RowKit.intOf i).toNat)
  case atStart => exact ⟨0, Nat.zero_le _, rfl, rfl, ⟨_, _, _, rfl⟩, Below.refl _ _, Lib.hid (World.ownsRow_nil _ _ _ _)⟩
  case round =>
    obtain ⟨k, hk, rfl, rfl, ⟨ra, rn, rc, rfl⟩, hb4, hR⟩ := hrel
    have hwr := hb4.size
    by_cases hlt : k < S.length
    · obtain ⟨g, cp, e, _, _, hgl, hc⟩ := HALL.out k hlt
      injection e with e _ e2
      subst e e2
      have hc' := (hb4.cell (p := ⟨g, k, none⟩) (cell_lt hc)).trans hc
      have cC := HCH.out S[k] wr ((HS.out.bel hb).bel hb4)
      have HF1 := Lib.hid (filter_snoc (p := hasAt base a b) hlt)
      have HF2 := Lib.hid (filter_snoc (p := fun i => (pickAt base a b i).2) hlt)
      have hnl := take_filter_len (p := hasAt base a b) S k
      have hcl := take_filter_len (p := fun i => (pickAt base a b i).2) S k
      have HH : Hid (hasAt base a b S[k] = (pickAt base a b S[k]).1.isSome) := Lib.hid rfl
      clear hc
      generalize hp : pickAt base a b S[k] = p at *
      generalize S[k] = y at *
      generalize hx1 : (S.take k).filter (hasAt base a b) = L1 at *
      generalize hx2 : (S.take k).filter (fun i => (pickAt base a b i).2) = L2 at *
      have hw0 : k + 1 ≤ S.length := hlt
      clear hx1 hx2
      go_wp2_with fail
      refine cC.mono ?_
      clear cC
      rintro e w5 ⟨v, rfl, hv, hb5⟩
      have hR5 := hR.out.bel hb5
      have hb45 := hb4.trans (hb5.mono hwr)
      have hw5 := hb45.size
      have hc5 := (hb5.cell (p := ⟨g, k, none⟩) (cell_lt hc')).trans hc'
      have hg5 : g < w5.heap.size := cell_lt hc5
      clear hb5 hc'
      obtain ⟨px, pq⟩ := p
      cases px with
      | none =>
        have HN : Hid (((S.take (k + 1)).filter (hasAt base a b)).length = L1.length) := Lib.hid (by rw [HF1.out, HH.out]; simp)
        subst hv
        cases pq with
        | false =>
          have HL : Hid ((S.take (k + 1)).filter (fun i => (pickAt base a b i).2) = L2) := Lib.hid (by rw [HF2.out]; simp)
          clear hp HF1 HF2 HH
          go_wp2_with fail
          go_roundw
          case rel => exact ⟨k + 1, hw0, by go_num, by rw [HN.out], ⟨_, _, _, rfl⟩, (hb45.alloc hw5 _), Lib.hid (by rw [HL.out]; exact IRow.alloc hR5 _)⟩
          case measure => simp [Go.RowKit.intOf]; omega
        | true =>
          have HL : Hid ((S.take (k + 1)).filter (fun i => (pickAt base a b i).2) = L2 ++ [y]) := Lib.hid (by rw [HF2.out]; simp)
          clear hp HF1 HF2 HH
          go_wp2_with (at_builtin; refine wpList_app_int rfl _ _ rfl w4.heap.size _ _ rfl (IRow.alloc (IRow.alloc hR5 _) _) y (w5.heap.size + 1) 1 rfl (cell_new (by simp) rfl) (by omega) (by simp; omega) ?_; intro v2 w2 h2 hg2 _; have HR2 := Lib.hid (by rw [HL.out]; exact h2 : IRow w2 w4.heap.size v2 ((S.take (k + 1)).filter fun i => (pickAt base a b i).2)); have hb2 : Below w4.heap.size w4 w2 := ((hb45.alloc hw5 _).alloc (by simp; omega) _).grown hg2 (by simp; omega) (fun j e => IRow.ge hR5 j e); obtain ⟨qa, qn, qc, rfl⟩ := h2.sl; clear h2 hg2)
          go_roundw
          case rel => exact ⟨k + 1, hw0, by go_num, by rw [HN.out], ⟨_, _, _, rfl⟩, hb2, HR2⟩
          case measure => simp [Go.RowKit.intOf]; omega
      | some x =>
        have HN : Hid (((S.take (k + 1)).filter (hasAt base a b)).length = L1.length + 1) := Lib.hid (by rw [HF1.out, HH.out]; simp)
        obtain ⟨xo, xc, _, rfl⟩ := hv
        cases pq with
        | false =>
          have HL : Hid ((S.take (k + 1)).filter (fun i => (pickAt base a b i).2) = L2) := Lib.hid (by rw [HF2.out]; simp)
          clear hp HF1 HF2 HH
          go_wp2_with fail
          go_roundw
          case rel => exact ⟨k + 1, hw0, by go_num, by rw [HN.out]; go_num, ⟨_, _, _, rfl⟩, (hb45.alloc hw5 _), Lib.hid (by rw [HL.out]; exact IRow.alloc hR5 _)⟩
          case measure => simp [Go.RowKit.intOf]; omega
        | true =>
          have HL : Hid ((S.take (k + 1)).filter (fun i => (pickAt base a b i).2) = L2 ++ [y]) := Lib.hid (by rw [HF2.out]; simp)
          clear hp HF1 HF2 HH
          go_wp2_with (at_builtin; refine wpList_app_int rfl _ _ rfl w4.heap.size _ _ rfl (IRow.alloc (IRow.alloc hR5 _) _) y (w5.heap.size + 1) 1 rfl (cell_new (by simp) rfl) (by omega) (by simp; omega) ?_; intro v2 w2 h2 hg2 _; have HR2 := Lib.hid (by rw [HL.out]; exact h2 : IRow w2 w4.heap.size v2 ((S.take (k + 1)).filter fun i => (pickAt base a b i).2)); have hb2 : Below w4.heap.size w4 w2 := ((hb45.alloc hw5 _).alloc (by simp; omega) _).grown hg2 (by simp; omega) (fun j e => IRow.ge hR5 j e); obtain ⟨qa, qn, qc, rfl⟩ := h2.sl; clear h2 hg2)
          go_roundw
          case rel => exact ⟨k + 1, hw0, by go_num, by rw [HN.out]; go_num, ⟨_, _, _, rfl⟩, hb2, HR2⟩
          case measure => simp [Go.RowKit.intOf]; omega
    · have e : k = S.length := by omega
      subst e
      have hcnt : (((S.take S.length).filter (hasAt base a b)).length) = (merged base a b).length := by rw [List.take_length, HSn.out]; exact count_has HV.out.2.1 HV.out.2.2
      have hcf : (S.take S.length).filter (fun i => (pickAt base a b i).2) = confs base a b := by rw [List.take_length, HSn.out]; exact confs_ids _ _ _
      rw [hcnt]
      rw [hcf] at hR
      clear hcnt hcf hk hlt HALL HSn H0
      by_cases hn : (merged base a b).length ≤ 24
      rotate_left
      · have HP := Lib.hid (refPost_err (mem := mem) (mergeF_long hn) (hb.trans (hb4.mono hb.size)))
        go_wp2_with fail
        go_ret3
        exact HP.out
      have HME := Lib.hid (mergeF_yes HV.out hn)
      have HREF := Lib.hid (ref_merged (X := base) HV.out.2.1 HV.out.2.2)
      have hb3 := hb.trans (hb4.mono hb.size)
      have hz3 := hb3.size
      have hR3 := hR.out.less hwz
      clear hb hb4 hR hwz hwr
      by_cases hkp : Keeps (ids b) (ids base)
      · have hmv : movedL (ids base) (-1) (ids b) = false := (HKP.out false).2 (by rw [decide_eq_true hkp]; rfl)
        have cM := cV _ hmv
        have hlead : leadOf base a b = ids a := by unfold leadOf; rw [if_pos hkp]
        have hfoll : follOf base a b = ids b := by unfold follOf; rw [if_pos hkp]
        have HREF2 : Hid ((refSt base a b (ids a) (ids b) b.length).1.filterMap (pk base a b) = merged base a b) := Lib.hid (by
          have := HREF.out
          rw [hlead, hfoll] at this
          unfold refSt
          rw [List.take_of_length_le (by rw [List.length_map]; omega)]
          exact this)
        have HALL0 := Lib.hid (refSt_all base a b (ids a) (ids b))
        have HLEN0 := Lib.hid (refSt_len base a b (ids a) (ids b))
        clear hmv hlead hfoll HREF hkp cV
        go_wp2_with fail
        refine (cM wr (HS.out.bel hb3)).mono ?_
        rintro e w5 ⟨rfl, hb5⟩
        have hb35 := hb3.trans (hb5.mono hz3)
        have hR5 := Lib.hid (hR3.bel hb5)
        have hs5 := HS.out.bel hb35
        have HS5 := Lib.hid hs5
        have hz5 := hb35.size
        clear hb3 hb5 hz3 hR3 cM hs5
        go_wp2_with fail
        go_loopw [23, 22] (fun i r wq => ∃ k : Nat, k ≤ a.length ∧ i = .int .i64 k ∧ (∃ ra rn rc, r = .slice ra rn rc) ∧ Below w5.heap.size w5 wq ∧ Hid (SRow mem wq w5.heap.size r (((ids a).take k).filterMap (pk base a b)))) (fun i _ _ => a.length - (Go.RowKit.intOf i).toNat)
        case atStart => exact ⟨0, Nat.zero_le _, rfl, ⟨_, _, _, rfl⟩, Below.refl _ _, Lib.hid (SRow.nil _ _ _)⟩
        case round =>
          obtain ⟨k, hk, rfl, ⟨ra, rn, rc, rfl⟩, hb6, hO⟩ := hrel
          have hw6 := hb6.size
          by_cases hlt : k < a.length
          · obtain ⟨_, lo, lc, _, c9⟩ := (HB2.out k hlt).nine (HS5.out.bel hb6)
            have c0 := c9.c0
            obtain rfl := HAO2.out (by omega)
            have hki : k < (ids a).length := by rw [List.length_map]; exact hlt
            have HF := Lib.hid (fm_snoc (X := base) (Y := a) (Z := b) hki)
            have hid : (ids a)[k] = a[k].id := List.getElem_map _
            have hfl : (((ids a).take k).filterMap (pk base a b)).length ≤ 48 := by
              have := List.length_filterMap_le (pk base a b) ((ids a).take k)
              rw [List.length_take, List.length_map] at this; omega
            rw [hid] at HF
            clear c9 hid hki
            generalize a[k].id = y at *
            have cC := HCH.out y wr ((HS5.out).bel hb6)
            generalize hgl : ((ids a).take k).filterMap (pk base a b) = Lk at *
            clear hgl
            have hpk : Hid (pk base a b y = (pickAt base a b y).1) := Lib.hid rfl
            generalize hp : pickAt base a b y = p at *
            have hlt0 : k + 1 ≤ a.length := hlt
            go_wp2_with fail
            refine cC.mono ?_
            clear cC
            rintro e w6 ⟨v, rfl, hv, hb7⟩
            have hO7 := hO.out.bel hb7
            have hb67 := hb6.trans (hb7.mono hw6)
            have hw7 := hb67.size
            clear hb7 hp
            obtain ⟨px, pq⟩ := p
            cases px with
            | none =>
              subst hv
              have HL : Hid (((ids a).take (k + 1)).filterMap (pk base a b) = Lk) := Lib.hid (by rw [HF.out, hpk.out]; simp)
              clear HF hpk
              go_wp2_with fail
              go_roundw
              case rel => exact ⟨k + 1, hlt0, by go_num, ⟨_, _, _, rfl⟩, (hb67.alloc hw7 _), Lib.hid (by rw [HL.out]; exact hO7.bel ((Below.refl _ _).alloc (Nat.le_refl _) _))⟩
              case measure => simp [Go.RowKit.intOf]; omega
            | some x =>
              obtain ⟨xo, xc, hxi, rfl⟩ := hv
              have HL : Hid (((ids a).take (k + 1)).filterMap (pk base a b) = Lk ++ [x]) := Lib.hid (by rw [HF.out, hpk.out]; simp)
              have HXI := Lib.hid hxi
              clear HF hpk hxi
              go_wp2_with (at_builtin; refine wpList_app_sblk rfl _ _ rfl w5.heap.size _ Lk rfl (hO7.bel (((Below.refl _ _).alloc (Nat.le_refl _) _).alloc (by simp) _)) x xo xc HXI.out (w6.heap.size + 1) 1 rfl (heap_new2 w6 _ _) (by omega) (by simp; omega) ?_; intro v2 w2 h2 hg2; have HR2 := Lib.hid (by rw [HL.out]; exact h2 : SRow mem w2 w5.heap.size v2 (((ids a).take (k + 1)).filterMap (pk base a b))); have hb2 : Below w5.heap.size w5 w2 := ((hb67.alloc hw7 _).alloc (by simp; omega) _).grown hg2 (by simp; omega) (fun j e => (hO7.ge j e).1); obtain ⟨qa, qn, qc, rfl⟩ := h2.sl; clear h2 hg2)
              go_roundw
              case rel => exact ⟨k + 1, hlt0, by go_num, ⟨_, _, _, rfl⟩, hb2, HR2⟩
              case measure => simp [Go.RowKit.intOf]; omega
          · have e : k = a.length := by omega
            subst e
            have HO0 : Hid (SRow mem wr w5.heap.size (.slice ra rn rc) ((refSt base a b (ids a) (ids b) 0).1.filterMap (pk base a b))) := Lib.hid (by
              have h := hO.out
              rw [List.take_of_length_le (by rw [List.length_map]; omega)] at h
              have e2 : (refSt base a b (ids a) (ids b) 0).1.filterMap (pk base a b) = (ids a).filterMap (pk base a b) := by
                show ((ids a).filter (hasAt base a b)).filterMap (pk base a b) = _
                exact fm_filter (pk base a b) _
              rw [e2]; exact h)
            clear hO hk hlt
            go_wp2_with fail
            go_loopw [28, 22, 27] (fun i r la wq => ∃ k : Nat, k ≤ b.length ∧ i = .int .i64 k ∧ la = .int .i64 (refSt base a b (ids a) (ids b) k).2 ∧ (∃ ra rn rc, r = .slice ra rn rc) ∧ Below w5.heap.size w5 wq ∧ Hid (SRow mem wq w5.heap.size r ((refSt base a b (ids a) (ids b) k).1.filterMap (pk base a b)))) (fun i _ _ _ => b.length - (Go.RowKit.intOf i).toNat)
            case atStart => exact ⟨0, Nat.zero_le _, rfl, rfl, ⟨_, _, _, rfl⟩, hb6, HO0⟩
            case round =>
              obtain ⟨k, hk, rfl, rfl, ⟨ra, rn, rc, rfl⟩, hb8, hO⟩ := hrel
              have hw8 := hb8.size
              by_cases hlt : k < b.length
              · obtain ⟨_, lo, lc, _, c9⟩ := (HB3.out k hlt).nine (HS5.out.bel hb8)
                have c0 := c9.c0
                obtain rfl := HAO3.out (by omega)
                have hki : k < (ids b).length := by rw [List.length_map]; exact hlt
                have hid : (ids b)[k] = b[k].id := List.getElem_map _
                have HSN := Lib.hid (fun h => step_none (X := base) (Y := a) (Z := b) (lead := ids a) hki h)
                have HSI := Lib.hid (fun x h hm => step_in (X := base) (Y := a) (Z := b) (lead := ids a) hki (x := x) h hm)
                have HSO := Lib.hid (fun x h hm => step_out (X := base) (Y := a) (Z := b) (lead := ids a) hki (x := x) h hm)
                rw [hid] at HSN HSI HSO
                have HAL := Lib.hid (HALL0.out.2 k (by rw [List.length_map]; omega))
                have hlen := HLEN0.out k
                rw [List.length_map] at hlen
                clear c9 hid hki
                generalize b[k].id = y at *
                have cC := HCH.out y wr ((HS5.out).bel hb8)
                have hpk : Hid (pk base a b y = (pickAt base a b y).1) := Lib.hid rfl
                generalize hst : refSt base a b (ids a) (ids b) k = st at *
                clear hst
                obtain ⟨s, la⟩ := st
                generalize hp : pickAt base a b y = p at *
                have hlt0 : k + 1 ≤ b.length := hlt
                have hsl : s.length ≤ 48 := by simp at hlen; omega
                clear hlen
                go_wp2_with fail
                refine cC.mono ?_
                clear cC
                rintro e w6 ⟨v, rfl, hv, hb7⟩
                have hO7 := hO.out.bel hb7
                have hb67 := hb8.trans (hb7.mono hw8)
                have hw7 := hb67.size
                clear hb7 hp hO
                obtain ⟨px, pq⟩ := p
                cases px with
                | none =>
                  subst hv
                  have HST := Lib.hid (HSN.out hpk.out)
                  have HR2 : Hid (SRow mem w6 w5.heap.size (.slice ra rn rc) ((refSt base a b (ids a) (ids b) (k + 1)).1.filterMap (pk base a b))) := Lib.hid (by rw [HST.out]; exact hO7)
                  clear HSN HSI HSO hpk hO7
                  go_wp2_with fail
                  go_roundw
                  case rel => exact ⟨k + 1, hlt0, by go_num, by rw [HST.out], ⟨_, _, _, rfl⟩, (hb67.alloc hw7 _), Lib.hid (HR2.out.bel ((Below.refl _ _).alloc (Nat.le_refl _) _))⟩
                  case measure => simp [Go.RowKit.intOf]; omega
                | some x =>
                  obtain ⟨xo, xc, hxi, rfl⟩ := hv
                  have hpx : pk base a b y = some x := hpk.out
                  obtain rfl := pk_id hpx
                  have HXI := Lib.hid hxi
                  have hs6 : Sees mem w6 := HS5.out.bel hb67
                  have cA := HAT2.out x.id (w6.alloc (.cells (blkCells x (.slice xo x.lab.after.length xc)) 39)) (hs6.alloc _)
                  by_cases hm : x.id ∈ ids a
                  · have e1 : idxI (ids a) x.id = ((ids a).idxOf x.id : Nat) := by unfold idxI; rw [if_pos hm]
                    rw [e1] at cA
                    have HST := Lib.hid (HSI.out x hpx hm)
                    have HR2 : Hid (SRow mem w6 w5.heap.size (.slice ra rn rc) ((refSt base a b (ids a) (ids b) (k + 1)).1.filterMap (pk base a b))) := Lib.hid (by rw [HST.out]; exact hO7)
                    generalize (ids a).idxOf x.id = j at *
                    clear HSN HSI HSO hpk hO7 hpx hm hxi e1 hs6
                    go_wp2_with fail
                    refine cA.mono ?_
                    rintro e w' ⟨rfl, rfl⟩
                    clear cA
                    go_wp2_with fail
                    go_roundw
                    case rel => exact ⟨k + 1, hlt0, by go_num, by rw [HST.out], ⟨_, _, _, rfl⟩, (hb67.alloc hw7 _), Lib.hid (HR2.out.bel ((Below.refl _ _).alloc (Nat.le_refl _) _))⟩
                    case measure => simp [Go.RowKit.intOf]; omega
                  · have e1 : idxI (ids a) x.id = -1 := by unfold idxI; rw [if_neg hm]
                    rw [e1] at cA
                    have HST := Lib.hid (HSO.out x hpx hm)
                    have hOA := hO7.bel ((Below.refl _ w6).alloc (Nat.le_refl _) (.cells (blkCells x (.slice xo x.lab.after.length xc)) 39))
                    have hblk := hOA.blks (hs6.alloc _) (fun z hz => by
                      obtain ⟨i, _, hi⟩ := List.mem_filterMap.1 hz
                      exact HOK.out i z hi)
                    have cO := atR_any _ _ hblk la _ (Sees.self _)
                    rw [ids_of HAL.out] at cO
                    obtain ⟨hb0, hb1⟩ := placeI_bound s la
                    have hidx : idxI s la = placeI s la := rfl
                    rw [hidx] at cO
                    have HIN := Lib.hid (fm_ins HAL.out hpx (placeI s la + 1).toNat)
                    have hfl := fm_len HAL.out
                    obtain ⟨kk, hkk⟩ : ∃ kk : Nat, placeI s la = (kk : Int) - 1 := ⟨(placeI s la + 1).toNat, by omega⟩
                    rw [hkk] at cO hb0 hb1
                    have hkt : (placeI s la + 1).toNat = kk := by rw [hkk]; omega
                    rw [hkt] at HIN HST
                    generalize hLk : s.filterMap (pk base a b) = Lk at *
                    obtain ⟨vs, hn, hnc, hcm, hrd, hbv⟩ := hOA.reads
                    subst hn
                    have hkl : kk ≤ Lk.length := by omega
                    have hll : Lk.length ≤ 48 := by omega
                    have hcm2 : (rc : Int) ≤ 9223372036854775807 := by unfold maxLen at hcm; omega
                    have hek : kk = (Lk.take kk).length := by rw [List.length_take]; omega
                    have hed : Lk.length - kk = (Lk.drop kk).length := by rw [List.length_drop]
                    have hzA : (w6.alloc (.cells (blkCells x (.slice xo x.lab.after.length xc)) 39)).heap.size = w6.heap.size + 1 := by simp
                    rw [hzA] at hrd
                    have hrdp := hrd.pre hkl
                    rw [show Reads _ _ _ _ kk _ = Reads _ _ _ _ (Lk.take kk).length _ by rw [← hek]] at hrdp
                    have hrdd := hrd.cut hkl hnc
                    rw [hed] at hrdd
                    have HRP := Lib.hid hrdp
                    have HRD := Lib.hid hrdd
                    have HBP := Lib.hid (hbv.take kk)
                    have HBD := Lib.hid (hbv.drop kk)
                    have HEK := Lib.hid hek
                    have HED := Lib.hid hed
                    have hk0 : (0 : Int) ≤ kk := by omega
                    have hkr : (kk : Int) ≤ rc := by omega
                    have hkl2 : (kk : Int) ≤ Lk.length := by omega
                    have tok1 : True := trivial
                    have tok2 : True := trivial
                    have tok3 : True := trivial
                    clear HSN HSI HSO hpk hpx hm hxi e1 hs6 hblk hidx hkt hfl hLk hek hed hzA hrdp hrdd hrd hbv hcm hb0 hb1 hkk hOA
                    go_wp2_with fail
                    refine cA.mono ?_
                    rintro e w' ⟨rfl, rfl⟩
                    clear cA
                    go_wp2_with fail
                    refine cO.mono ?_
                    rintro e w' ⟨rfl, rfl⟩
                    clear cO
                    go_wp2_with (first
                      | (at_builtin; have _t := tok1; refine wpList_app_sblks rfl _ _ rfl (w6.heap.size + 1) (.slice none 0 0) [] rfl (SRow.nil _ _ _) (Lk.take kk) (vs.take (kk * 9)) (w6.heap.size + 1) ra kk rc rfl HEK.out HRP.out HBP.out (by simp; omega) (by simp) ?_; intro v2 w10 h2 hg2; clear tok1 _t
                         rw [List.nil_append] at h2
                         have hh := (hg2.block w6.heap.size (by simp) (by intro e; cases e)).trans (World.alloc_heap_new _ _)
                         have hz10 : w6.heap.size + 1 ≤ w10.heap.size := by have := hg2.size; simpa using this
                         have HG2 := Lib.hid hg2
                         have d0 := blk_cell hh 0; have d1 := blk_cell hh 1; have d2 := blk_cell hh 2; have d3 := blk_cell hh 3; have d4 := blk_cell hh 4; have d5 := blk_cell hh 5; have d6 := blk_cell hh 6; have d7 := blk_cell hh 7; have d8 := blk_cell hh 8
                         simp only [List.getElem?_toArray, List.getElem?_cons_zero, List.getElem?_cons_succ] at d0 d1 d2 d3 d4 d5 d6 d7 d8
                         obtain ⟨na, nn, nc, rfl⟩ := h2.sl
                         have HH := Lib.hid hh
                         clear hg2 hh)
                      | (at_builtin; have _t := tok2; refine wpList_app_sblk rfl _ _ rfl (w6.heap.size + 1) _ (Lk.take kk) rfl (h2.bel ((Below.refl _ _).alloc (Nat.le_refl _) _)) x xo xc HXI.out w10.heap.size 1 rfl (World.alloc_heap_new _ _) (by rw [List.length_take]; omega) (by simp; omega) ?_; intro v3 w11 h3 hg3; clear tok2 _t
                         have hge := h2.ge
                         have HRD11 := Lib.hid (((HRD.out.grown HG2.out (by simp) (fun g e => by cases e)).alloc hz10 _).grown hg3 (by simp; omega) (fun g e => (hge g e).1))
                         have hh11 := (hg3.block w6.heap.size (by simp; omega) (fun e => by have := (hge _ e.symm).1; omega)).trans ((Below.heap_alloc _ _ _ (by omega)).trans HH.out)
                         have hz11 : w6.heap.size + 1 ≤ w11.heap.size := by have := hg3.size; simp at this; omega
                         have HG3 := Lib.hid hg3
                         have HGE := Lib.hid hge
                         have d0 := blk_cell hh11 0
                         simp only [List.getElem?_toArray, List.getElem?_cons_zero] at d0
                         obtain ⟨ma, mn, mc, rfl⟩ := h3.sl
                         have HH11 := Lib.hid hh11
                         clear hg3 hh11 hge h2)
                      | (at_builtin; have _t := tok3; refine wpList_app_sblks rfl _ _ rfl (w6.heap.size + 1) _ (Lk.take kk ++ [x]) rfl h3 (Lk.drop kk) (vs.drop (kk * 9)) (w6.heap.size + 1) (if rc = kk then ra else ra.map (·.add (kk * 9))) (Lk.length - kk) (rc - kk) rfl HED.out HRD11.out HBD.out (by simp; omega) (by omega) ?_; intro v4 w12 h4 hg4; clear tok3 _t
                         have hge := h3.ge
                         have hh12 := (hg4.block w6.heap.size (by omega) (fun e => by have := (hge _ e.symm).1; omega)).trans HH11.out
                         have d0 := blk_cell hh12 0
                         simp only [List.getElem?_toArray, List.getElem?_cons_zero] at d0
                         have HR2 : Hid (SRow mem w12 w5.heap.size v4 ((refSt base a b (ids a) (ids b) (k + 1)).1.filterMap (pk base a b))) := Lib.hid (by
                           rw [HST.out]
                           show SRow mem w12 w5.heap.size v4 ((insAt s kk x.id).filterMap (pk base a b))
                           rw [HIN.out]
                           exact h4.less (by omega))
                         have hb12 : Below w5.heap.size w5 w12 := ((((hb67.alloc hw7 _).grown HG2.out (by simp; omega) (fun j e => by cases e)).alloc (by omega) _).grown HG3.out (by simp; omega) (fun j e => by have := (HGE.out j e).1; omega)).grown hg4 (by omega) (fun j e => by have := (hge j e).1; omega)
                         obtain ⟨qa, qn, qc, rfl⟩ := h4.sl
                         clear hg4 hh12 hge h3 h4))
                    go_roundw
                    case rel => exact ⟨k + 1, hlt0, by go_num, by rw [HST.out], ⟨_, _, _, rfl⟩, hb12, HR2⟩
                    case measure => simp [Go.RowKit.intOf]; omega
              · have e : k = b.length := by omega
                subst e
                have hrow := hO.out
                rw [HREF2.out] at hrow
                have hrow2 := hrow.less hz5
                have hcf := hR5.out.bel hb8
                have hbf := hb35.trans (hb8.mono hz5)
                have HF := Lib.hid (And.intro hrow2 (And.intro hcf hbf))
                clear hrow hrow2 hcf hbf hO
                go_wp2_with fail
                go_ret3
                obtain ⟨hrow2, hcf, hbf⟩ := HF.out
                unfold RefPost
                rw [HME.out]
                exact ⟨_, _, rfl, hrow2, hcf, hbf⟩
      · have hmv : movedL (ids base) (-1) (ids b) = true := (HKP.out true).2 (by rw [decide_eq_false hkp]; rfl)
        have cM := cV _ hmv
        have hlead : leadOf base a b = ids b := by unfold leadOf; rw [if_neg hkp]
        have hfoll : follOf base a b = ids a := by unfold follOf; rw [if_neg hkp]
        have HREF2 : Hid ((refSt base a b (ids b) (ids a) a.length).1.filterMap (pk base a b) = merged base a b) := Lib.hid (by
          have := HREF.out
          rw [hlead, hfoll] at this
          unfold refSt
          rw [List.take_of_length_le (by rw [List.length_map]; omega)]
          exact this)
        have HALL0 := Lib.hid (refSt_all base a b (ids b) (ids a))
        have HLEN0 := Lib.hid (refSt_len base a b (ids b) (ids a))
        clear hmv hlead hfoll HREF hkp cV
        go_wp2_with fail
        refine (cM wr (HS.out.bel hb3)).mono ?_
        rintro e w5 ⟨rfl, hb5⟩
        have hb35 := hb3.trans (hb5.mono hz3)
        have hR5 := Lib.hid (hR3.bel hb5)
        have hs5 := HS.out.bel hb35
        have HS5 := Lib.hid hs5
        have hz5 := hb35.size
        clear hb3 hb5 hz3 hR3 cM hs5
        go_wp2_with fail
        go_loopw [23, 22] (fun i r wq => ∃ k : Nat, k ≤ b.length ∧ i = .int .i64 k ∧ (∃ ra rn rc, r = .slice ra rn rc) ∧ Below w5.heap.size w5 wq ∧ Hid (SRow mem wq w5.heap.size r (((ids b).take k).filterMap (pk base a b)))) (fun i _ _ => b.length - (Go.RowKit.intOf i).toNat)
        case atStart => exact ⟨0, Nat.zero_le _, rfl, ⟨_, _, _, rfl⟩, Below.refl _ _, Lib.hid (SRow.nil _ _ _)⟩
        case round =>
          obtain ⟨k, hk, rfl, ⟨ra, rn, rc, rfl⟩, hb6, hO⟩ := hrel
          have hw6 := hb6.size
          by_cases hlt : k < b.length
          · obtain ⟨_, lo, lc, _, c9⟩ := (HB3.out k hlt).nine (HS5.out.bel hb6)
            have c0 := c9.c0
            obtain rfl := HAO3.out (by omega)
            have hki : k < (ids b).length := by rw [List.length_map]; exact hlt
            have HF := Lib.hid (fm_snoc (X := base) (Y := a) (Z := b) hki)
            have hid : (ids b)[k] = b[k].id := List.getElem_map _
            have hfl : (((ids b).take k).filterMap (pk base a b)).length ≤ 48 := by
              have := List.length_filterMap_le (pk base a b) ((ids b).take k)
              rw [List.length_take, List.length_map] at this; omega
            rw [hid] at HF
            clear c9 hid hki
            generalize b[k].id = y at *
            have cC := HCH.out y wr ((HS5.out).bel hb6)
            generalize hgl : ((ids b).take k).filterMap (pk base a b) = Lk at *
            clear hgl
            have hpk : Hid (pk base a b y = (pickAt base a b y).1) := Lib.hid rfl
            generalize hp : pickAt base a b y = p at *
            have hlt0 : k + 1 ≤ b.length := hlt
            go_wp2_with fail
            refine cC.mono ?_
            clear cC
            rintro e w6 ⟨v, rfl, hv, hb7⟩
            have hO7 := hO.out.bel hb7
            have hb67 := hb6.trans (hb7.mono hw6)
            have hw7 := hb67.size
            clear hb7 hp
            obtain ⟨px, pq⟩ := p
            cases px with
            | none =>
              subst hv
              have HL : Hid (((ids b).take (k + 1)).filterMap (pk base a b) = Lk) := Lib.hid (by rw [HF.out, hpk.out]; simp)
              clear HF hpk
              go_wp2_with fail
              go_roundw
              case rel => exact ⟨k + 1, hlt0, by go_num, ⟨_, _, _, rfl⟩, (hb67.alloc hw7 _), Lib.hid (by rw [HL.out]; exact hO7.bel ((Below.refl _ _).alloc (Nat.le_refl _) _))⟩
              case measure => simp [Go.RowKit.intOf]; omega
            | some x =>
              obtain ⟨xo, xc, hxi, rfl⟩ := hv
              have HL : Hid (((ids b).take (k + 1)).filterMap (pk base a b) = Lk ++ [x]) := Lib.hid (by rw [HF.out, hpk.out]; simp)
              have HXI := Lib.hid hxi
              clear HF hpk hxi
              go_wp2_with (at_builtin; refine wpList_app_sblk rfl _ _ rfl w5.heap.size _ Lk rfl (hO7.bel (((Below.refl _ _).alloc (Nat.le_refl _) _).alloc (by simp) _)) x xo xc HXI.out (w6.heap.size + 1) 1 rfl (heap_new2 w6 _ _) (by omega) (by simp; omega) ?_; intro v2 w2 h2 hg2; have HR2 := Lib.hid (by rw [HL.out]; exact h2 : SRow mem w2 w5.heap.size v2 (((ids b).take (k + 1)).filterMap (pk base a b))); have hb2 : Below w5.heap.size w5 w2 := ((hb67.alloc hw7 _).alloc (by simp; omega) _).grown hg2 (by simp; omega) (fun j e => (hO7.ge j e).1); obtain ⟨qa, qn, qc, rfl⟩ := h2.sl; clear h2 hg2)
              go_roundw
              case rel => exact ⟨k + 1, hlt0, by go_num, ⟨_, _, _, rfl⟩, hb2, HR2⟩
              case measure => simp [Go.RowKit.intOf]; omega
          · have e : k = b.length := by omega
            subst e
            have HO0 : Hid (SRow mem wr w5.heap.size (.slice ra rn rc) ((refSt base a b (ids b) (ids a) 0).1.filterMap (pk base a b))) := Lib.hid (by
              have h := hO.out
              rw [List.take_of_length_le (by rw [List.length_map]; omega)] at h
              have e2 : (refSt base a b (ids b) (ids a) 0).1.filterMap (pk base a b) = (ids b).filterMap (pk base a b) := by
                show ((ids b).filter (hasAt base a b)).filterMap (pk base a b) = _
                exact fm_filter (pk base a b) _
              rw [e2]; exact h)
            clear hO hk hlt
            go_wp2_with fail
            go_loopw [28, 22, 27] (fun i r la wq => ∃ k : Nat, k ≤ a.length ∧ i = .int .i64 k ∧ la = .int .i64 (refSt base a b (ids b) (ids a) k).2 ∧ (∃ ra rn rc, r = .slice ra rn rc) ∧ Below w5.heap.size w5 wq ∧ Hid (SRow mem wq w5.heap.size r ((refSt base a b (ids b) (ids a) k).1.filterMap (pk base a b)))) (fun i _ _ _ => a.length - (Go.RowKit.intOf i).toNat)
            case atStart => exact ⟨0, Nat.zero_le _, rfl, rfl, ⟨_, _, _, rfl⟩, hb6, HO0⟩
            case round =>
              obtain ⟨k, hk, rfl, rfl, ⟨ra, rn, rc, rfl⟩, hb8, hO⟩ := hrel
              have hw8 := hb8.size
              by_cases hlt : k < a.length
              · obtain ⟨_, lo, lc, _, c9⟩ := (HB2.out k hlt).nine (HS5.out.bel hb8)
                have c0 := c9.c0
                obtain rfl := HAO2.out (by omega)
                have hki : k < (ids a).length := by rw [List.length_map]; exact hlt
                have hid : (ids a)[k] = a[k].id := List.getElem_map _
                have HSN := Lib.hid (fun h => step_none (X := base) (Y := a) (Z := b) (lead := ids b) hki h)
                have HSI := Lib.hid (fun x h hm => step_in (X := base) (Y := a) (Z := b) (lead := ids b) hki (x := x) h hm)
                have HSO := Lib.hid (fun x h hm => step_out (X := base) (Y := a) (Z := b) (lead := ids b) hki (x := x) h hm)
                rw [hid] at HSN HSI HSO
                have HAL := Lib.hid (HALL0.out.2 k (by rw [List.length_map]; omega))
                have hlen := HLEN0.out k
                rw [List.length_map] at hlen
                clear c9 hid hki
                generalize a[k].id = y at *
                have cC := HCH.out y wr ((HS5.out).bel hb8)
                have hpk : Hid (pk base a b y = (pickAt base a b y).1) := Lib.hid rfl
                generalize hst : refSt base a b (ids b) (ids a) k = st at *
                clear hst
                obtain ⟨s, la⟩ := st
                generalize hp : pickAt base a b y = p at *
                have hlt0 : k + 1 ≤ a.length := hlt
                have hsl : s.length ≤ 48 := by simp at hlen; omega
                clear hlen
                go_wp2_with fail
                refine cC.mono ?_
                clear cC
                rintro e w6 ⟨v, rfl, hv, hb7⟩
                have hO7 := hO.out.bel hb7
                have hb67 := hb8.trans (hb7.mono hw8)
                have hw7 := hb67.size
                clear hb7 hp hO
                obtain ⟨px, pq⟩ := p
                cases px with
                | none =>
                  subst hv
                  have HST := Lib.hid (HSN.out hpk.out)
                  have HR2 : Hid (SRow mem w6 w5.heap.size (.slice ra rn rc) ((refSt base a b (ids b) (ids a) (k + 1)).1.filterMap (pk base a b))) := Lib.hid (by rw [HST.out]; exact hO7)
                  clear HSN HSI HSO hpk hO7
                  go_wp2_with fail
                  go_roundw
                  case rel => exact ⟨k + 1, hlt0, by go_num, by rw [HST.out], ⟨_, _, _, rfl⟩, (hb67.alloc hw7 _), Lib.hid (HR2.out.bel ((Below.refl _ _).alloc (Nat.le_refl _) _))⟩
                  case measure => simp [Go.RowKit.intOf]; omega
                | some x =>
                  obtain ⟨xo, xc, hxi, rfl⟩ := hv
                  have hpx : pk base a b y = some x := hpk.out
                  obtain rfl := pk_id hpx
                  have HXI := Lib.hid hxi
                  have hs6 : Sees mem w6 := HS5.out.bel hb67
                  have cA := HAT3.out x.id (w6.alloc (.cells (blkCells x (.slice xo x.lab.after.length xc)) 39)) (hs6.alloc _)
                  by_cases hm : x.id ∈ ids b
                  · have e1 : idxI (ids b) x.id = ((ids b).idxOf x.id : Nat) := by unfold idxI; rw [if_pos hm]
                    rw [e1] at cA
                    have HST := Lib.hid (HSI.out x hpx hm)
                    have HR2 : Hid (SRow mem w6 w5.heap.size (.slice ra rn rc) ((refSt base a b (ids b) (ids a) (k + 1)).1.filterMap (pk base a b))) := Lib.hid (by rw [HST.out]; exact hO7)
                    generalize (ids b).idxOf x.id = j at *
                    clear HSN HSI HSO hpk hO7 hpx hm hxi e1 hs6
                    go_wp2_with fail
                    refine cA.mono ?_
                    rintro e w' ⟨rfl, rfl⟩
                    clear cA
                    go_wp2_with fail
                    go_roundw
                    case rel => exact ⟨k + 1, hlt0, by go_num, by rw [HST.out], ⟨_, _, _, rfl⟩, (hb67.alloc hw7 _), Lib.hid (HR2.out.bel ((Below.refl _ _).alloc (Nat.le_refl _) _))⟩
                    case measure => simp [Go.RowKit.intOf]; omega
                  · have e1 : idxI (ids b) x.id = -1 := by unfold idxI; rw [if_neg hm]
                    rw [e1] at cA
                    have HST := Lib.hid (HSO.out x hpx hm)
                    have hOA := hO7.bel ((Below.refl _ w6).alloc (Nat.le_refl _) (.cells (blkCells x (.slice xo x.lab.after.length xc)) 39))
                    have hblk := hOA.blks (hs6.alloc _) (fun z hz => by
                      obtain ⟨i, _, hi⟩ := List.mem_filterMap.1 hz
                      exact HOK.out i z hi)
                    have cO := atR_any _ _ hblk la _ (Sees.self _)
                    rw [ids_of HAL.out] at cO
                    obtain ⟨hb0, hb1⟩ := placeI_bound s la
                    have hidx : idxI s la = placeI s la := rfl
                    rw [hidx] at cO
                    have HIN := Lib.hid (fm_ins HAL.out hpx (placeI s la + 1).toNat)
                    have hfl := fm_len HAL.out
                    obtain ⟨kk, hkk⟩ : ∃ kk : Nat, placeI s la = (kk : Int) - 1 := ⟨(placeI s la + 1).toNat, by omega⟩
                    rw [hkk] at cO hb0 hb1
                    have hkt : (placeI s la + 1).toNat = kk := by rw [hkk]; omega
                    rw [hkt] at HIN HST
                    generalize hLk : s.filterMap (pk base a b) = Lk at *
                    obtain ⟨vs, hn, hnc, hcm, hrd, hbv⟩ := hOA.reads
                    subst hn
                    have hkl : kk ≤ Lk.length := by omega
                    have hll : Lk.length ≤ 48 := by omega
                    have hcm2 : (rc : Int) ≤ 9223372036854775807 := by unfold maxLen at hcm; omega
                    have hek : kk = (Lk.take kk).length := by rw [List.length_take]; omega
                    have hed : Lk.length - kk = (Lk.drop kk).length := by rw [List.length_drop]
                    have hzA : (w6.alloc (.cells (blkCells x (.slice xo x.lab.after.length xc)) 39)).heap.size = w6.heap.size + 1 := by simp
                    rw [hzA] at hrd
                    have hrdp := hrd.pre hkl
                    rw [show Reads _ _ _ _ kk _ = Reads _ _ _ _ (Lk.take kk).length _ by rw [← hek]] at hrdp
                    have hrdd := hrd.cut hkl hnc
                    rw [hed] at hrdd
                    have HRP := Lib.hid hrdp
                    have HRD := Lib.hid hrdd
                    have HBP := Lib.hid (hbv.take kk)
                    have HBD := Lib.hid (hbv.drop kk)
                    have HEK := Lib.hid hek
                    have HED := Lib.hid hed
                    have hk0 : (0 : Int) ≤ kk := by omega
                    have hkr : (kk : Int) ≤ rc := by omega
                    have hkl2 : (kk : Int) ≤ Lk.length := by omega
                    have tok1 : True := trivial
                    have tok2 : True := trivial
                    have tok3 : True := trivial
                    clear HSN HSI HSO hpk hpx hm hxi e1 hs6 hblk hidx hkt hfl hLk hek hed hzA hrdp hrdd hrd hbv hcm hb0 hb1 hkk hOA
                    go_wp2_with fail
                    refine cA.mono ?_
                    rintro e w' ⟨rfl, rfl⟩
                    clear cA
                    go_wp2_with fail
                    refine cO.mono ?_
                    rintro e w' ⟨rfl, rfl⟩
                    clear cO
                    go_wp2_with (first
                      | (at_builtin; have _t := tok1; refine wpList_app_sblks rfl _ _ rfl (w6.heap.size + 1) (.slice none 0 0) [] rfl (SRow.nil _ _ _) (Lk.take kk) (vs.take (kk * 9)) (w6.heap.size + 1) ra kk rc rfl HEK.out HRP.out HBP.out (by simp; omega) (by simp) ?_; intro v2 w10 h2 hg2; clear tok1 _t
                         rw [List.nil_append] at h2
                         have hh := (hg2.block w6.heap.size (by simp) (by intro e; cases e)).trans (World.alloc_heap_new _ _)
                         have hz10 : w6.heap.size + 1 ≤ w10.heap.size := by have := hg2.size; simpa using this
                         have HG2 := Lib.hid hg2
                         have d0 := blk_cell hh 0; have d1 := blk_cell hh 1; have d2 := blk_cell hh 2; have d3 := blk_cell hh 3; have d4 := blk_cell hh 4; have d5 := blk_cell hh 5; have d6 := blk_cell hh 6; have d7 := blk_cell hh 7; have d8 := blk_cell hh 8
                         simp only [List.getElem?_toArray, List.getElem?_cons_zero, List.getElem?_cons_succ] at d0 d1 d2 d3 d4 d5 d6 d7 d8
                         obtain ⟨na, nn, nc, rfl⟩ := h2.sl
                         have HH := Lib.hid hh
                         clear hg2 hh)
                      | (at_builtin; have _t := tok2; refine wpList_app_sblk rfl _ _ rfl (w6.heap.size + 1) _ (Lk.take kk) rfl (h2.bel ((Below.refl _ _).alloc (Nat.le_refl _) _)) x xo xc HXI.out w10.heap.size 1 rfl (World.alloc_heap_new _ _) (by rw [List.length_take]; omega) (by simp; omega) ?_; intro v3 w11 h3 hg3; clear tok2 _t
                         have hge := h2.ge
                         have HRD11 := Lib.hid (((HRD.out.grown HG2.out (by simp) (fun g e => by cases e)).alloc hz10 _).grown hg3 (by simp; omega) (fun g e => (hge g e).1))
                         have hh11 := (hg3.block w6.heap.size (by simp; omega) (fun e => by have := (hge _ e.symm).1; omega)).trans ((Below.heap_alloc _ _ _ (by omega)).trans HH.out)
                         have hz11 : w6.heap.size + 1 ≤ w11.heap.size := by have := hg3.size; simp at this; omega
                         have HG3 := Lib.hid hg3
                         have HGE := Lib.hid hge
                         have d0 := blk_cell hh11 0
                         simp only [List.getElem?_toArray, List.getElem?_cons_zero] at d0
                         obtain ⟨ma, mn, mc, rfl⟩ := h3.sl
                         have HH11 := Lib.hid hh11
                         clear hg3 hh11 hge h2)
                      | (at_builtin; have _t := tok3; refine wpList_app_sblks rfl _ _ rfl (w6.heap.size + 1) _ (Lk.take kk ++ [x]) rfl h3 (Lk.drop kk) (vs.drop (kk * 9)) (w6.heap.size + 1) (if rc = kk then ra else ra.map (·.add (kk * 9))) (Lk.length - kk) (rc - kk) rfl HED.out HRD11.out HBD.out (by simp; omega) (by omega) ?_; intro v4 w12 h4 hg4; clear tok3 _t
                         have hge := h3.ge
                         have hh12 := (hg4.block w6.heap.size (by omega) (fun e => by have := (hge _ e.symm).1; omega)).trans HH11.out
                         have d0 := blk_cell hh12 0
                         simp only [List.getElem?_toArray, List.getElem?_cons_zero] at d0
                         have HR2 : Hid (SRow mem w12 w5.heap.size v4 ((refSt base a b (ids b) (ids a) (k + 1)).1.filterMap (pk base a b))) := Lib.hid (by
                           rw [HST.out]
                           show SRow mem w12 w5.heap.size v4 ((insAt s kk x.id).filterMap (pk base a b))
                           rw [HIN.out]
                           exact h4.less (by omega))
                         have hb12 : Below w5.heap.size w5 w12 := ((((hb67.alloc hw7 _).grown HG2.out (by simp; omega) (fun j e => by cases e)).alloc (by omega) _).grown HG3.out (by simp; omega) (fun j e => by have := (HGE.out j e).1; omega)).grown hg4 (by omega) (fun j e => by have := (hge j e).1; omega)
                         obtain ⟨qa, qn, qc, rfl⟩ := h4.sl
                         clear hg4 hh12 hge h3 h4))
                    go_roundw
                    case rel => exact ⟨k + 1, hlt0, by go_num, by rw [HST.out], ⟨_, _, _, rfl⟩, hb12, HR2⟩
                    case measure => simp [Go.RowKit.intOf]; omega
              · have e : k = a.length := by omega
                subst e
                have hrow := hO.out
                rw [HREF2.out] at hrow
                have hrow2 := hrow.less hz5
                have hcf := hR5.out.bel hb8
                have hbf := hb35.trans (hb8.mono hz5)
                have HF := Lib.hid (And.intro hrow2 (And.intro hcf hbf))
                clear hrow hrow2 hcf hbf hO
                go_wp2_with fail
                go_ret3
                obtain ⟨hrow2, hcf, hbf⟩ := HF.out
                unfold RefPost
                rw [HME.out]
                exact ⟨_, _, rfl, hrow2, hcf, hbf⟩
theorem refmerge_any {mem : Addr → Option Value} {v1 v2 v3 : Value} {base a b : List Blk} (h1 : BlksM mem v1 base) (h2 : BlksM mem v2 a) (h3 : BlksM mem v3 b) (w : World) (hs : Sees mem w) :
    Calls Tryz.prog 15 #[v1, v2, v3] w (RefPost mem base a b w) := by
  by_cases hv : ValidL base ∧ ValidL a ∧ ValidL b
  · exact refmerge_good h1 h2 h3 hv.1 hv.2.1 hv.2.2 w hs
  · exact refmerge_bad h1 h2 h3 hv w hs
end Go.Proofs.YtikpbknafhnieaaGreatDoor

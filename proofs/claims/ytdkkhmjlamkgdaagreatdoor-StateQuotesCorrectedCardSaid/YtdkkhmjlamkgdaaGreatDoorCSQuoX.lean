/-
  WHAT IS PROVED HERE: a law returns true and leaves its arguments as they were, for all arguments (2 texts joined). Conditions: those of the card.
-/
import Derived.Test.YtdkkhmjlamkgdaaGreatDoorBn6
/-
  WHAT IS PROVED HERE: the walk of StateQuotesCorrected . Condition: the list lies in memory that is only read.
-/
namespace Go.Proofs.YtdkkhmjlamkgdaaGreatDoor
open Go.RowKit Mg Go.Shelf Go.Maps

set_option maxRecDepth 100000 in
set_option maxHeartbeats 16000000 in
theorem quotes_any {mem : Addr → Option Value} {v : Value} {l : List Int} (h : IntsM mem v l) (hl : ∀ x ∈ l, okI x) (at_ fresh : Int) (ha : okI at_) (hf : okI fresh) (early : Bool) (w : World) (hs : Sees mem w) :
    Calls Tryz.prog 6 #[v, .int .i64 at_, .int .i64 fresh, .bool early] w fun e w' => e = .returned (.bool true) ∧ Below w.heap.size w w' := by
  obtain ⟨b, o, ⟨_, ao, ac, rfl, hac, hacm, hao⟩, hat⟩ := h
  have HAO := Lib.hid hao
  have HAT := Lib.hid hat
  have HS := Lib.hid hs
  have HO : Hid (∀ j, j ≤ 100 → okI (numL l j)) := Lib.hid (fun j hj => by
    unfold numL
    by_cases q : j < l.length
    · rw [List.getElem?_eq_getElem q]; exact hl _ (List.getElem_mem q)
    · rw [List.getElem?_eq_none (by omega)]; show okI (j : Int); exact ⟨by omega, by omega⟩)
  clear hao hat hs hl
  have hll : l.length ≤ 9223372036854775807 := by unfold maxLen at hacm; omega
  have c0 := Lib.hid (sane_any w)
  have hmin : (min (l.length : Int) 19).toNat = min l.length 19 := by omega
  have hcut := fun W => run_cut E_int Tryz.underlying46 ao l.length ac (min (l.length : Int) 19) (by omega) (by omega) W
  rw [hmin] at hcut
  obtain ⟨p0, p1⟩ := pickF_lt (c := at_) (n := 1 + ((min l.length 19 : Nat) : Int)) (by omega)
  have c1 := fun W => pick_any at_ (1 + ((min l.length 19 : Nat) : Int)) ha (by omega) (by omega) W
  obtain ⟨k, hk⟩ : ∃ k : Nat, pickF at_ (1 + ((min l.length 19 : Nat) : Int)) = (k : Int) := ⟨(pickF at_ (1 + ((min l.length 19 : Nat) : Int))).toNat, by omega⟩
  have hkn : k < 1 + min l.length 19 := by omega
  rw [hk] at c1
  clear hk p0 p1
  go_enter Tryz.func6, Tryz.ntmps6
  go_wp2_with fail
  refine c0.out.mono ?_
  rintro e w0 ⟨rfl, hb0⟩
  have HB0 := Lib.hid hb0
  clear hb0
  go_upto_region 5 with fail
  go_wp2_with fail
  refine (c1 _).mono ?_
  rintro e w1 ⟨rfl, rfl⟩
  go_wp2_with fail
  go_loopw [10, 11, 13] (fun tx wt i wr => ∃ (T U : ByteArray) (j : Nat), j ≤ 1 + min l.length 19 ∧ tx = .string T ∧ wt = .string U ∧ i = .int .i64 j ∧ Hid (T.data.toList = bodyS [] (senS l j)) ∧ Hid (U.data.toList = joinB (wantL l k fresh j)) ∧ Hid (Below w0.heap.size w0 wr)) (fun _ _ i _ => 20 - (intOf i).toNat)
  case atStart => exact ⟨_, _, 0, Nat.zero_le _, rfl, rfl, rfl, Lib.hid rfl, Lib.hid rfl, Lib.hid (Below.refl _ _)⟩
  case round =>
    obtain ⟨T, U, j, hj, rfl, rfl, rfl, HT, HU, HB⟩ := hrel
    have HM := Lib.hid (HS.out.bel (HB0.out.trans (HB.out.mono HB0.out.size)))
    have HTn := Lib.hid (body_next l j)
    have HUn := Lib.hid (want_next l k fresh j)
    have cw := fun W => word_any (numL l j) (HO.out j (by omega)) W
    have cf := fun W => word_any fresh hf W
    have hts : T.size ≤ 300 := by
      have h1 := body_len l j
      rw [← HT.out] at h1
      show T.data.size ≤ 300
      rw [← Array.length_toList]; omega
    have hus : U.size ≤ 300 := by
      have h1 := want_len l k fresh j
      rw [← HU.out] at h1
      show U.data.size ≤ 300
      rw [← Array.length_toList]; omega
    have hfs : (wordO fresh).size ≤ 6 := by
      have h1 := wordO_len fresh
      show (wordO fresh).data.size ≤ 6
      rw [← Array.length_toList]; omega
    have hws : ∀ x, (wordO x).size ≤ 6 := fun x => by
      have h1 := wordO_len x
      show (wordO x).data.size ≤ 6
      rw [← Array.length_toList]; omega
    by_cases hjn : j < 1 + min l.length 19
    · have hj64 : (j : Int) < 1 + ((min l.length 19 : Nat) : Int) := by omega
      by_cases hjl : j < l.length
      · have hx : numL l j = l[j] := by unfold numL; rw [List.getElem?_eq_getElem hjl]; rfl
        rw [hx] at cw
        have hcj : wr.cell? ⟨b, o + j, none⟩ = some (.int .i64 l[j]) := HM.out _ _ (HAT.out j hjl)
        obtain rfl := HAO.out (by omega)
        have hx := Lib.hid hx
        have hws := hws l[j]
        go_upto_region 12 with fail
        by_cases h0 : j = 0
        · have h0' : ¬ ((0 : Int) < (j : Int)) := by omega
          rw [if_pos h0] at HTn HUn
          clear h0
          go_wp2_with fail
          refine (cw _).mono ?_
          rintro e w2 ⟨rfl, hb2⟩
          have HB2 := Lib.hid hb2
          clear hb2
          by_cases hjk : j = k
          · rw [if_pos hjk] at HUn
            subst hjk
            have hz2 : (T ++ wordO l[j]).size ≤ 308 := by rw [ByteArray.size_append]; omega
            have hz4 : (U ++ (⟨#[78, 111, 32]⟩ : ByteArray)).size ≤ 304 := by rw [ByteArray.size_append]; show _ + 3 ≤ 304; omega
            have hz5 : (U ++ (⟨#[78, 111, 32]⟩ : ByteArray) ++ wordO fresh).size ≤ 310 := by rw [ByteArray.size_append]; omega
            go_wp2_with fail
            refine (cf _).mono ?_
            rintro e w3 ⟨rfl, hb3⟩
            have HB3 := Lib.hid hb3
            clear hb3
            go_wp2_with fail
            go_roundw
            case rel => exact ⟨_, _, j + 1, by omega, rfl, rfl, by go_num, Lib.hid (by rw [HTn.out, ← HT.out, hx.out]; simp [senL]), Lib.hid (by rw [HUn.out, ← HU.out]; simp [neverL]), Lib.hid (HB.out.trans ((HB2.out.mono HB.out.size).trans (HB3.out.mono (Nat.le_trans HB.out.size HB2.out.size))))⟩
            case measure => (try simp only [intOf]); omega
          · rw [if_neg hjk] at HUn
            have hjk' : ¬ ((j : Int) = (k : Int)) := by omega
            have hz2 : (T ++ wordO l[j]).size ≤ 308 := by rw [ByteArray.size_append]; omega
            have hz5 : (U ++ wordO l[j]).size ≤ 310 := by rw [ByteArray.size_append]; omega
            go_wp2_with fail
            refine (cw _).mono ?_
            rintro e w3 ⟨rfl, hb3⟩
            have HB3 := Lib.hid hb3
            clear hb3
            go_wp2_with fail
            go_roundw
            case rel => exact ⟨_, _, j + 1, by omega, rfl, rfl, by go_num, Lib.hid (by rw [HTn.out, ← HT.out, hx.out]; simp [senL]), Lib.hid (by rw [HUn.out, ← HU.out, hx.out]; simp [senL]), Lib.hid (HB.out.trans ((HB2.out.mono HB.out.size).trans (HB3.out.mono (Nat.le_trans HB.out.size HB2.out.size))))⟩
            case measure => (try simp only [intOf]); omega
        · have h0' : (0 : Int) < (j : Int) := by omega
          rw [if_neg h0] at HTn HUn
          go_wp2_with fail
          refine (cw _).mono ?_
          rintro e w2 ⟨rfl, hb2⟩
          have HB2 := Lib.hid hb2
          clear hb2
          by_cases hjk : j = k
          · rw [if_pos hjk] at HUn
            subst hjk
            have hz1 : (T ++ (⟨#[32, 32]⟩ : ByteArray)).size ≤ 302 := by rw [ByteArray.size_append]; show T.size + 2 ≤ 302; omega
            have hz2 : (T ++ (⟨#[32, 32]⟩ : ByteArray) ++ wordO l[j]).size ≤ 308 := by rw [ByteArray.size_append]; omega
            have hz3 : (U ++ (⟨#[32]⟩ : ByteArray)).size ≤ 301 := by rw [ByteArray.size_append]; show U.size + 1 ≤ 301; omega
            have hz4 : (U ++ (⟨#[32]⟩ : ByteArray) ++ (⟨#[78, 111, 32]⟩ : ByteArray)).size ≤ 304 := by rw [ByteArray.size_append]; show _ + 3 ≤ 304; omega
            have hz5 : (U ++ (⟨#[32]⟩ : ByteArray) ++ (⟨#[78, 111, 32]⟩ : ByteArray) ++ wordO fresh).size ≤ 310 := by rw [ByteArray.size_append]; omega
            go_wp2_with fail
            refine (cf _).mono ?_
            rintro e w3 ⟨rfl, hb3⟩
            have HB3 := Lib.hid hb3
            clear hb3
            go_wp2_with fail
            go_roundw
            case rel => exact ⟨_, _, j + 1, by omega, rfl, rfl, by go_num, Lib.hid (by rw [HTn.out, ← HT.out, hx.out]; simp [senL]), Lib.hid (by rw [HUn.out, ← HU.out]; simp [neverL]), Lib.hid (HB.out.trans ((HB2.out.mono HB.out.size).trans (HB3.out.mono (Nat.le_trans HB.out.size HB2.out.size))))⟩
            case measure => (try simp only [intOf]); omega
          · rw [if_neg hjk] at HUn
            have hjk' : ¬ ((j : Int) = (k : Int)) := by omega
            have hz1 : (T ++ (⟨#[32, 32]⟩ : ByteArray)).size ≤ 302 := by rw [ByteArray.size_append]; show T.size + 2 ≤ 302; omega
            have hz2 : (T ++ (⟨#[32, 32]⟩ : ByteArray) ++ wordO l[j]).size ≤ 308 := by rw [ByteArray.size_append]; omega
            have hz3 : (U ++ (⟨#[32]⟩ : ByteArray)).size ≤ 301 := by rw [ByteArray.size_append]; show U.size + 1 ≤ 301; omega
            have hz5 : (U ++ (⟨#[32]⟩ : ByteArray) ++ wordO l[j]).size ≤ 310 := by rw [ByteArray.size_append]; omega
            go_wp2_with fail
            refine (cw _).mono ?_
            rintro e w3 ⟨rfl, hb3⟩
            have HB3 := Lib.hid hb3
            clear hb3
            go_wp2_with fail
            go_roundw
            case rel => exact ⟨_, _, j + 1, by omega, rfl, rfl, by go_num, Lib.hid (by rw [HTn.out, ← HT.out, hx.out]; simp [senL]), Lib.hid (by rw [HUn.out, ← HU.out, hx.out]; simp [senL]), Lib.hid (HB.out.trans ((HB2.out.mono HB.out.size).trans (HB3.out.mono (Nat.le_trans HB.out.size HB2.out.size))))⟩
            case measure => (try simp only [intOf]); omega
      · have hx : numL l j = (j : Int) := by unfold numL; rw [List.getElem?_eq_none (by omega)]; rfl
        rw [hx] at cw
        have hjl' : ¬ ((j : Int) < (l.length : Int)) := by omega
        have hx := Lib.hid hx
        have hws := hws (j : Int)
        go_upto_region 12 with fail
        by_cases h0 : j = 0
        · have h0' : ¬ ((0 : Int) < (j : Int)) := by omega
          rw [if_pos h0] at HTn HUn
          clear h0
          go_wp2_with fail
          refine (cw _).mono ?_
          rintro e w2 ⟨rfl, hb2⟩
          have HB2 := Lib.hid hb2
          clear hb2
          by_cases hjk : j = k
          · rw [if_pos hjk] at HUn
            subst hjk
            have hz2 : (T ++ wordO (j : Int)).size ≤ 308 := by rw [ByteArray.size_append]; omega
            have hz4 : (U ++ (⟨#[78, 111, 32]⟩ : ByteArray)).size ≤ 304 := by rw [ByteArray.size_append]; show _ + 3 ≤ 304; omega
            have hz5 : (U ++ (⟨#[78, 111, 32]⟩ : ByteArray) ++ wordO fresh).size ≤ 310 := by rw [ByteArray.size_append]; omega
            go_wp2_with fail
            refine (cf _).mono ?_
            rintro e w3 ⟨rfl, hb3⟩
            have HB3 := Lib.hid hb3
            clear hb3
            go_wp2_with fail
            go_roundw
            case rel => exact ⟨_, _, j + 1, by omega, rfl, rfl, by go_num, Lib.hid (by rw [HTn.out, ← HT.out, hx.out]; simp [senL]), Lib.hid (by rw [HUn.out, ← HU.out]; simp [neverL]), Lib.hid (HB.out.trans ((HB2.out.mono HB.out.size).trans (HB3.out.mono (Nat.le_trans HB.out.size HB2.out.size))))⟩
            case measure => (try simp only [intOf]); omega
          · exfalso; omega
        · have h0' : (0 : Int) < (j : Int) := by omega
          rw [if_neg h0] at HTn HUn
          go_wp2_with fail
          refine (cw _).mono ?_
          rintro e w2 ⟨rfl, hb2⟩
          have HB2 := Lib.hid hb2
          clear hb2
          by_cases hjk : j = k
          · rw [if_pos hjk] at HUn
            subst hjk
            have hz1 : (T ++ (⟨#[32, 32]⟩ : ByteArray)).size ≤ 302 := by rw [ByteArray.size_append]; show T.size + 2 ≤ 302; omega
            have hz2 : (T ++ (⟨#[32, 32]⟩ : ByteArray) ++ wordO (j : Int)).size ≤ 308 := by rw [ByteArray.size_append]; omega
            have hz3 : (U ++ (⟨#[32]⟩ : ByteArray)).size ≤ 301 := by rw [ByteArray.size_append]; show U.size + 1 ≤ 301; omega
            have hz4 : (U ++ (⟨#[32]⟩ : ByteArray) ++ (⟨#[78, 111, 32]⟩ : ByteArray)).size ≤ 304 := by rw [ByteArray.size_append]; show _ + 3 ≤ 304; omega
            have hz5 : (U ++ (⟨#[32]⟩ : ByteArray) ++ (⟨#[78, 111, 32]⟩ : ByteArray) ++ wordO fresh).size ≤ 310 := by rw [ByteArray.size_append]; omega
            go_wp2_with fail
            refine (cf _).mono ?_
            rintro e w3 ⟨rfl, hb3⟩
            have HB3 := Lib.hid hb3
            clear hb3
            go_wp2_with fail
            go_roundw
            case rel => exact ⟨_, _, j + 1, by omega, rfl, rfl, by go_num, Lib.hid (by rw [HTn.out, ← HT.out, hx.out]; simp [senL]), Lib.hid (by rw [HUn.out, ← HU.out]; simp [neverL]), Lib.hid (HB.out.trans ((HB2.out.mono HB.out.size).trans (HB3.out.mono (Nat.le_trans HB.out.size HB2.out.size))))⟩
            case measure => (try simp only [intOf]); omega
          · rw [if_neg hjk] at HUn
            have hjk' : ¬ ((j : Int) = (k : Int)) := by omega
            have hz1 : (T ++ (⟨#[32, 32]⟩ : ByteArray)).size ≤ 302 := by rw [ByteArray.size_append]; show T.size + 2 ≤ 302; omega
            have hz2 : (T ++ (⟨#[32, 32]⟩ : ByteArray) ++ wordO (j : Int)).size ≤ 308 := by rw [ByteArray.size_append]; omega
            have hz3 : (U ++ (⟨#[32]⟩ : ByteArray)).size ≤ 301 := by rw [ByteArray.size_append]; show U.size + 1 ≤ 301; omega
            have hz5 : (U ++ (⟨#[32]⟩ : ByteArray) ++ wordO (j : Int)).size ≤ 310 := by rw [ByteArray.size_append]; omega
            go_wp2_with fail
            refine (cw _).mono ?_
            rintro e w3 ⟨rfl, hb3⟩
            have HB3 := Lib.hid hb3
            clear hb3
            go_wp2_with fail
            go_roundw
            case rel => exact ⟨_, _, j + 1, by omega, rfl, rfl, by go_num, Lib.hid (by rw [HTn.out, ← HT.out, hx.out]; simp [senL]), Lib.hid (by rw [HUn.out, ← HU.out, hx.out]; simp [senL]), Lib.hid (HB.out.trans ((HB2.out.mono HB.out.size).trans (HB3.out.mono (Nat.le_trans HB.out.size HB2.out.size))))⟩
            case measure => (try simp only [intOf]); omega
    · have hjE : j = 1 + min l.length 19 := by omega
      subst hjE
      clear HTn HUn cw
      have hxx : ¬ ((1 : Int) + ((min l.length 19 : Nat) : Int) < 1 + ((min l.length 19 : Nat) : Int)) := by omega
      go_upto_region 19 with fail
      clear hxx
      go_upto_region 20 with (first
        | ((with_reducible refine at_sbuild 58 _ rfl ?_); go_must (refine wpList_buildTo rfl 58 _ rfl _ rfl _ (by simp [Act.eval]; with_reducible exact built_q9) ?_))
        | ((with_reducible refine at_sstore 58 _ _ rfl ?_); go_must (refine wpList_snew rfl S_blk _ _ rfl rfl _ _ (blkCells qQuote nilS) (by simp [Act.eval]) (by simp [Act.eval]) rfl rfl (by simp [Value.oneCell']) ?_)))
      have HBz := HB
      obtain ⟨V1, hV1⟩ : ∃ V1, V1 = wr.alloc (.cells (blkCells qQuote nilS) 58) := ⟨_, rfl⟩
      rw [← hV1]
      have hbV1 : Below wr.heap.size wr V1 := by rw [hV1]; exact bel1 _ _
      have H9 : Hid (V1.heap[wr.heap.size]? = some (.cells (blkCells qQuote nilS) 58 (0, 0))) := Lib.hid (by rw [hV1]; exact World.alloc_heap_new _ _)
      have HBz : Hid (Below w0.heap.size w0 V1) := Lib.hid (HBz.out.trans (hbV1.mono HBz.out.size))
      have HZV1 : Hid (V1.heap.size = wr.heap.size + 1) := Lib.hid (by rw [hV1]; simp)
      clear hV1 hbV1
      go_upto_region 21 with (first
        | ((with_reducible refine at_sbuild 58 _ rfl ?_); go_must (refine wpList_buildTo rfl 58 _ rfl _ rfl _ (by simp [Act.eval]; with_reducible first | exact built_q8) ?_))
        | ((with_reducible refine at_sstore 58 _ _ rfl ?_); go_must (refine wpList_snew rfl S_blk _ _ rfl rfl _ _ (blkCells qAgain nilS) (by simp [Act.eval]) (by simp [Act.eval]) rfl rfl (by first | exact FctE.one _ | simp [Value.oneCell']) ?_)))
      obtain ⟨V2, hV2⟩ : ∃ V2, V2 = V1.alloc (.cells (blkCells qAgain nilS) 58) := ⟨_, rfl⟩
      rw [← hV2]
      have hbV2 : Below V1.heap.size V1 V2 := by rw [hV2]; exact bel1 _ _
      have H8 : Hid (V2.heap[V1.heap.size]? = some (.cells (blkCells qAgain nilS) 58 (0, 0))) := Lib.hid (by rw [hV2]; exact World.alloc_heap_new _ _)
      have HBz : Hid (Below w0.heap.size w0 V2) := Lib.hid (HBz.out.trans (hbV2.mono HBz.out.size))
      have H9 := Lib.hid ((hbV2.block _ (hlt H9.out)).trans H9.out)
      have HZV2 : Hid (V2.heap.size = V1.heap.size + 1) := Lib.hid (by rw [hV2]; simp)
      clear hV2 hbV2
      go_upto_region 22 with (first
        | ((with_reducible refine at_sbuild 58 _ rfl ?_); go_must (refine wpList_buildTo rfl 58 _ rfl _ rfl _ (by simp [Act.eval]; with_reducible first | exact built_qp T) ?_))
        | ((with_reducible refine at_sslice 37 _ _ rfl ?_); go_must (refine wpList_one_slice rfl E_blk _ rfl (.agg (blkCells (qPar T) nilS)) rfl (by simp [Act.eval, Act.put]) ?_))
        | ((with_reducible refine at_sbuild 50 _ rfl ?_); go_must (refine wpList_buildTo rfl 50 _ rfl _ rfl _ (by simp [Act.eval, Act.put]; with_reducible first | exact built_par T _ | exact built_pub 1) ?_))
        | ((with_reducible refine at_sslice 22 _ _ rfl ?_); go_must (refine wpList_n_slice rfl E_fct 2 (by decide) (by decide) _ rfl [(0, .agg ((parE T V2.heap.size).cells)), (1, .agg ((pubE 1).cells))] (by simp [Act.eval, Act.put]) _ (fill_f2 _ _) ?_)))
      obtain ⟨V3, hV3⟩ : ∃ V3, V3 = V2.alloc (.cells (blkCells (qPar T) nilS) 58) := ⟨_, rfl⟩
      rw [← hV3]
      have hbV3 : Below V2.heap.size V2 V3 := by rw [hV3]; exact bel1 _ _
      have HP : Hid (V3.heap[V2.heap.size]? = some (.cells (blkCells (qPar T) nilS) 58 (0, 0))) := Lib.hid (by rw [hV3]; exact World.alloc_heap_new _ _)
      have HBz : Hid (Below w0.heap.size w0 V3) := Lib.hid (HBz.out.trans (hbV3.mono HBz.out.size))
      have H9 := Lib.hid ((hbV3.block _ (hlt H9.out)).trans H9.out)
      have H8 := Lib.hid ((hbV3.block _ (hlt H8.out)).trans H8.out)
      have HZV3 : Hid (V3.heap.size = V2.heap.size + 1) := Lib.hid (by rw [hV3]; simp)
      clear hV3 hbV3
      obtain ⟨V4, hV4⟩ : ∃ V4, V4 = V3.alloc (.cells ((parE T V2.heap.size).cells ++ (pubE 1).cells) 50) := ⟨_, rfl⟩
      rw [← hV4]
      have hbV4 : Below V3.heap.size V3 V4 := by rw [hV4]; exact bel1 _ _
      have HF : Hid (V4.heap[V3.heap.size]? = some (.cells ((parE T V2.heap.size).cells ++ (pubE 1).cells) 50 (0, 0))) := Lib.hid (by rw [hV4]; exact World.alloc_heap_new _ _)
      have HBz : Hid (Below w0.heap.size w0 V4) := Lib.hid (HBz.out.trans (hbV4.mono HBz.out.size))
      have H9 := Lib.hid ((hbV4.block _ (hlt H9.out)).trans H9.out)
      have H8 := Lib.hid ((hbV4.block _ (hlt H8.out)).trans H8.out)
      have HP := Lib.hid ((hbV4.block _ (hlt HP.out)).trans HP.out)
      have HZV4 : Hid (V4.heap.size = V3.heap.size + 1) := Lib.hid (by rw [hV4]; simp)
      clear hV4 hbV4
      go_wp2_with fail
      refine (cf _).mono ?_
      rintro e V5 ⟨rfl, hb5⟩
      have HBz : Hid (Below w0.heap.size w0 V5) := Lib.hid (HBz.out.trans (hb5.mono HBz.out.size))
      have H9 := Lib.hid ((hb5.block _ (hlt H9.out)).trans H9.out)
      have H8 := Lib.hid ((hb5.block _ (hlt H8.out)).trans H8.out)
      have HP := Lib.hid ((hb5.block _ (hlt HP.out)).trans HP.out)
      have HF := Lib.hid ((hb5.block _ (hlt HF.out)).trans HF.out)
      have HZV5 : Hid (V4.heap.size ≤ V5.heap.size) := Lib.hid hb5.size
      clear hb5
      obtain ⟨u, hu⟩ : ∃ u : ByteArray, u = (⟨#[78, 111, 32]⟩ : ByteArray) ++ wordO fresh ++ ⟨#[33]⟩ := ⟨_, rfl⟩
      have HUL : Hid (u.data.toList = neverL fresh) := Lib.hid (by rw [hu]; simp [neverL])
      have hz6 : ((⟨#[78, 111, 32]⟩ : ByteArray) ++ wordO fresh).size ≤ 10 := by rw [ByteArray.size_append]; show 3 + _ ≤ 10; omega
      have hu2 := hu.symm
      clear hu
      go_upto_region 23 with (first
        | ((with_reducible refine at_sbuild 50 _ rfl ?_); go_must (refine wpList_buildTo rfl 50 _ rfl _ rfl _ (by simp [Act.eval]; with_reducible first | exact built_cor (k : Int) _) ?_))
        | ((with_reducible refine at_sstore 50 _ _ rfl ?_); go_must (refine wpList_snew rfl S_fct _ _ rfl rfl _ _ ((corE k u).cells) (by simp [Act.eval]) (by simp [Act.eval]) rfl rfl (by first | exact FctE.one _ | simp [Value.oneCell']) ?_)))
      obtain ⟨V6, hV6⟩ : ∃ V6, V6 = V5.alloc (.cells ((corE k u).cells) 50) := ⟨_, rfl⟩
      rw [← hV6]
      have hbV6 : Below V5.heap.size V5 V6 := by rw [hV6]; exact bel1 _ _
      have HC : Hid (V6.heap[V5.heap.size]? = some (.cells ((corE k u).cells) 50 (0, 0))) := Lib.hid (by rw [hV6]; exact World.alloc_heap_new _ _)
      have HBz : Hid (Below w0.heap.size w0 V6) := Lib.hid (HBz.out.trans (hbV6.mono HBz.out.size))
      have H9 := Lib.hid ((hbV6.block _ (hlt H9.out)).trans H9.out)
      have H8 := Lib.hid ((hbV6.block _ (hlt H8.out)).trans H8.out)
      have HP := Lib.hid ((hbV6.block _ (hlt HP.out)).trans HP.out)
      have HF := Lib.hid ((hbV6.block _ (hlt HF.out)).trans HF.out)
      have HZV6 : Hid (V6.heap.size = V5.heap.size + 1) := Lib.hid (by rw [hV6]; simp)
      clear hV6 hbV6
      clear hu2
      go_upto_region 24 with (first
        | ((with_reducible refine at_sload 58 (.tmp 15) rfl ?_); go_must (refine wpList_sload rfl S_blk _ rfl (by simp [Act.eval]) (blkCells qQuote nilS) rfl H9.out ?_))
        | ((with_reducible refine at_sload 58 (.tmp 16) rfl ?_); go_must (refine wpList_sload rfl S_blk _ rfl (by simp [Act.eval, Act.put]) (blkCells qAgain nilS) rfl H8.out ?_))
        | ((with_reducible refine at_sslice 37 _ _ rfl ?_); go_must (refine wpList_n_slice rfl E_blk 2 (by decide) (by decide) _ rfl [(0, .agg (blkCells qQuote nilS)), (1, .agg (blkCells qAgain nilS))] (by simp [Act.eval, Act.put]) _ (fill_b2) ?_))
        | ((with_reducible refine at_sbuild 50 _ rfl ?_); go_must (refine wpList_buildTo rfl 50 _ rfl _ rfl _ (by simp [Act.eval, Act.put]; with_reducible first | exact built_quo _ | exact built_pub 2) ?_))
        | ((with_reducible refine at_sslice 22 _ _ rfl ?_); go_must (refine wpList_n_slice rfl E_fct 2 (by decide) (by decide) _ rfl [(0, .agg ((quoE V6.heap.size).cells)), (1, .agg ((pubE 2).cells))] (by simp [Act.eval, Act.put]) _ (fill_f2 _ _) ?_)))
      obtain ⟨V7, hV7⟩ : ∃ V7, V7 = V6.alloc (.cells (quoBlk) 58) := ⟨_, rfl⟩
      rw [← hV7]
      have hbV7 : Below V6.heap.size V6 V7 := by rw [hV7]; exact bel1 _ _
      have HQ : Hid (V7.heap[V6.heap.size]? = some (.cells (quoBlk) 58 (0, 0))) := Lib.hid (by rw [hV7]; exact World.alloc_heap_new _ _)
      have HBz : Hid (Below w0.heap.size w0 V7) := Lib.hid (HBz.out.trans (hbV7.mono HBz.out.size))
      have H9 := Lib.hid ((hbV7.block _ (hlt H9.out)).trans H9.out)
      have H8 := Lib.hid ((hbV7.block _ (hlt H8.out)).trans H8.out)
      have HP := Lib.hid ((hbV7.block _ (hlt HP.out)).trans HP.out)
      have HF := Lib.hid ((hbV7.block _ (hlt HF.out)).trans HF.out)
      have HC := Lib.hid ((hbV7.block _ (hlt HC.out)).trans HC.out)
      have HZV7 : Hid (V7.heap.size = V6.heap.size + 1) := Lib.hid (by rw [hV7]; simp)
      clear hV7 hbV7
      obtain ⟨V8, hV8⟩ : ∃ V8, V8 = V7.alloc (.cells ((quoE V6.heap.size).cells ++ (pubE 2).cells) 50) := ⟨_, rfl⟩
      rw [← hV8]
      have hbV8 : Below V7.heap.size V7 V8 := by rw [hV8]; exact bel1 _ _
      have HG : Hid (V8.heap[V7.heap.size]? = some (.cells ((quoE V6.heap.size).cells ++ (pubE 2).cells) 50 (0, 0))) := Lib.hid (by rw [hV8]; exact World.alloc_heap_new _ _)
      have HBz : Hid (Below w0.heap.size w0 V8) := Lib.hid (HBz.out.trans (hbV8.mono HBz.out.size))
      have H9 := Lib.hid ((hbV8.block _ (hlt H9.out)).trans H9.out)
      have H8 := Lib.hid ((hbV8.block _ (hlt H8.out)).trans H8.out)
      have HP := Lib.hid ((hbV8.block _ (hlt HP.out)).trans HP.out)
      have HF := Lib.hid ((hbV8.block _ (hlt HF.out)).trans HF.out)
      have HC := Lib.hid ((hbV8.block _ (hlt HC.out)).trans HC.out)
      have HQ := Lib.hid ((hbV8.block _ (hlt HQ.out)).trans HQ.out)
      have HZV8 : Hid (V8.heap.size = V7.heap.size + 1) := Lib.hid (by rw [hV8]; simp)
      clear hV8 hbV8
      have HSZ : Hid (V1.heap.size = wr.heap.size + 1 ∧ V2.heap.size = V1.heap.size + 1 ∧ V3.heap.size = V2.heap.size + 1 ∧ V4.heap.size = V3.heap.size + 1 ∧ V4.heap.size ≤ V5.heap.size ∧ V7.heap.size = V6.heap.size + 1 ∧ V6.heap.size = V5.heap.size + 1 ∧ V8.heap.size = V7.heap.size + 1) := Lib.hid ⟨HZV1.out, HZV2.out, HZV3.out, HZV4.out, HZV5.out, HZV7.out, HZV6.out, HZV8.out⟩
      clear HZV1 HZV2 HZV3 HZV4 HZV5 HZV7 HZV6 HZV8
      have HA1 : Hid (FRow V8 w0.heap.size (.slice (some ⟨V2.heap.size + 1, 0, none⟩) 2 2) [parE T V2.heap.size, pubE 1]) := Lib.hid (frow_lit2 (by have := HSZ.out; have := HB.out.size; omega) (by rw [← HSZ.out.2.2.1]; exact HF.out) (two_rows _ _) (by show 2 ≤ 1000; omega))
      have HA2 : Hid (FRow V8 w0.heap.size (.slice (some ⟨V6.heap.size + 1, 0, none⟩) 2 2) [quoE V6.heap.size, pubE 2]) := Lib.hid (frow_lit2 (by have := HSZ.out; have := HB.out.size; omega) (by rw [← HSZ.out.2.2.2.2.2.1]; exact HG.out) (two_rows _ _) (by show 2 ≤ 1000; omega))
      have hTm : T.size ≤ maxLen := by unfold maxLen; omega
      have hum : u.size ≤ 300 := by
        have h1 := neverL_len fresh
        rw [← HUL.out] at h1
        show u.data.size ≤ 300
        rw [← Array.length_toList]; omega
      have HOK : Hid (∀ W : World, W.heap[V2.heap.size]? = some (.cells (blkCells (qPar T) nilS) 58 (0, 0)) → W.heap[V6.heap.size]? = some (.cells quoBlk 58 (0, 0)) → ∀ x, x = parE T V2.heap.size ∨ x = pubE 1 ∨ x = quoE V6.heap.size ∨ x = pubE 2 ∨ x = corE (k : Int) u → x.ok (fun p => W.cell? p)) := Lib.hid (fun W h1 h2 x hx => by
        rcases hx with rfl | rfl | rfl | rfl | rfl
        · exact par_ok h1 hTm
        · exact plain_ok (pub_fok (okI_d rfl)) rfl rfl rfl
        · exact quo_ok h2
        · exact plain_ok (pub_fok (okI_d rfl)) rfl rfl rfl
        · exact plain_ok (cor_fok ⟨by omega, by omega⟩ (by unfold maxLen; omega)) rfl rfl rfl)
      have HKA : Hid (∀ W : World, W.heap[V2.heap.size]? = some (.cells (blkCells (qPar T) nilS) 58 (0, 0)) → W.heap[V6.heap.size]? = some (.cells quoBlk 58 (0, 0)) → ∀ x ∈ [parE T V2.heap.size, pubE 1], x.ok (fun p => W.cell? p)) := Lib.hid (fun W h1 h2 x hx => HOK.out W h1 h2 x (by
        rcases List.mem_cons.1 hx with rfl | hx
        · exact .inl rfl
        · exact .inr (.inl (List.mem_singleton.1 hx))))
      have HKB : Hid (∀ W : World, W.heap[V2.heap.size]? = some (.cells (blkCells (qPar T) nilS) 58 (0, 0)) → W.heap[V6.heap.size]? = some (.cells quoBlk 58 (0, 0)) → ∀ x ∈ [quoE V6.heap.size, pubE 2], x.ok (fun p => W.cell? p)) := Lib.hid (fun W h1 h2 x hx => HOK.out W h1 h2 x (by
        rcases List.mem_cons.1 hx with rfl | hx
        · exact .inr (.inr (.inl rfl))
        · exact .inr (.inr (.inr (.inl (List.mem_singleton.1 hx))))))
      clear hTm
      cases early with
      | true =>
        go_upto_region 26 with (first
          | ((with_reducible refine at_fload _ rfl ?_); go_must (refine wpList_fct_load rfl _ rfl V5.heap.size (by simp [Act.eval]) (corE k u).cells HC.out (FctE.size _) ?_))
          | ((with_reducible refine at_fslice _ rfl ?_); go_must (refine wpList_fct_slice rfl _ rfl (corE k u) (by simp [Act.eval, Act.put]) ?_))
          | ((with_reducible refine at_sappend _ _ 22 rfl ?_); go_must (refine wpList_app_facts rfl _ _ rfl V8.heap.size _ [corE k u] (by simp [Act.eval] <;> rfl) (frow_one (Nat.le_refl _) (World.alloc_heap_new _ _)) (some ⟨V2.heap.size + 1, 0, none⟩) 2 [parE T V2.heap.size, pubE 1] (by simp [Act.eval]) ((HA1.out.es (HKA.out V8 HP.out HQ.out)).keep (bel1 _ _)) (by show 1 + 2 ≤ 100000; omega) (by simp) ?_); go_must (intro v9 V9 hr9 hg9 _; have hb9 : Below V8.heap.size V8 V9 := (bel1 V8 _).grown hg9 (by simp) (fun j hj => Nat.le_of_eq (Option.some.inj hj)); obtain ⟨a9, c9, hv9⟩ := hr9.shape; subst hv9; have HR9 := Lib.hid hr9; have HB9 := Lib.hid hb9; clear hr9 hg9 hb9)))
        go_upto_region 27 with ((with_reducible refine at_sappend _ _ 22 rfl ?_); go_must (refine wpList_app_facts rfl _ _ rfl V8.heap.size _ ([corE k u] ++ [parE T V2.heap.size, pubE 1]) (by simp [Act.eval]) HR9.out (some ⟨V6.heap.size + 1, 0, none⟩) 2 [quoE V6.heap.size, pubE 2] (by simp [Act.eval]) ((HA2.out.es (HKB.out V8 HP.out HQ.out)).keep HB9.out) (by show 3 + 2 ≤ 100000; omega) HB9.out.size ?_); go_must (intro v10 V10 hr10 hg10 _; have hb10 : Below V8.heap.size V8 V10 := HB9.out.grown hg10 HB9.out.size (fun j hj => (HR9.out.ge j hj).1); obtain ⟨a10, c10, hv10⟩ := hr10.shape; subst hv10; have HR10 := Lib.hid hr10; have HB10 := Lib.hid hb10; clear hr10 hg10 hb10))
        go_upto_region 29 with fail
        have HRZ := HR10
        have HB9z := Lib.hid ((HB10.out.block _ (hlt H9.out)).trans H9.out)
        have HB8z := Lib.hid ((HB10.out.block _ (hlt H8.out)).trans H8.out)
        have HBZ : Hid (Below w0.heap.size w0 V10) := Lib.hid (HBz.out.trans (HB10.out.mono HBz.out.size))
        have HKZ : Hid (∀ x ∈ [corE (k : Int) u] ++ [parE T V2.heap.size, pubE 1] ++ [quoE V6.heap.size, pubE 2], x.ok (fun p => V10.cell? p)) := Lib.hid (fun x hx => HOK.out V10 ((HB10.out.block _ (hlt HP.out)).trans HP.out) ((HB10.out.block _ (hlt HQ.out)).trans HQ.out) x (by
          simp only [List.mem_append, List.mem_cons, List.not_mem_nil, or_false] at hx
          rcases hx with (rfl | rfl | rfl) | rfl | rfl <;> simp))
        have HLZ : Hid (([corE (k : Int) u] ++ [parE T V2.heap.size, pubE 1] ++ [quoE V6.heap.size, pubE 2]).map FctE.f = qLate T k u ∨ ([corE (k : Int) u] ++ [parE T V2.heap.size, pubE 1] ++ [quoE V6.heap.size, pubE 2]).map FctE.f = qEarly T k u) := Lib.hid (.inr rfl)
        have hnz : ([corE (k : Int) u] ++ [parE T V2.heap.size, pubE 1] ++ [quoE V6.heap.size, pubE 2]).length = 5 := rfl
        clear HR10 HB10 HR9 HB9
        generalize [corE (k : Int) u] ++ [parE T V2.heap.size, pubE 1] ++ [quoE V6.heap.size, pubE 2] = LZ at *
        have HESZ : Hid (EsM (fun p => V10.cell? p) (.slice a10 5 c10) LZ) := Lib.hid (by rw [← hnz]; exact HRZ.out.es HKZ.out)
        have HGZ : Hid (∀ f ∈ LZ.map FctE.f, FGood f ∧ f.title.size ≤ 1000000000000) := Lib.hid (fun f hf => by
          have hT1 : GB [qPar T] := ⟨by show 1 ≤ 100; omega, fun x hx => by rw [List.mem_singleton.1 hx]; exact ⟨by show T.size ≤ 1000; omega, Nat.zero_le _⟩⟩
          have hQ1 : GB [qQuote, qAgain] := ⟨by show 2 ≤ 100; omega, fun x hx => by
            rcases List.mem_cons.1 hx with rfl | hx
            · exact ⟨Nat.zero_le _, Nat.zero_le _⟩
            · rw [List.mem_singleton.1 hx]; exact ⟨Nat.zero_le _, Nat.zero_le _⟩⟩
          have hall : f = corFct k u ∨ f = revFct 1 sEn sA [qPar T] ∨ f = pubFct 1 ∨ f = revFct 2 sFr sB [qQuote, qAgain] ∨ f = pubFct 2 := by
            rcases HLZ.out with q | q <;> rw [q] at hf
            · simp only [qLate, List.mem_cons, List.not_mem_nil, or_false] at hf
              rcases hf with rfl | rfl | rfl | rfl | rfl <;> simp
            · simp only [qEarly, List.mem_cons, List.not_mem_nil, or_false] at hf
              exact hf
          rcases hall with rfl | rfl | rfl | rfl | rfl
          · exact ⟨⟨GB.nil, by show u.size ≤ 1000; omega, Nat.zero_le _⟩, Nat.zero_le _⟩
          · exact ⟨rev_good _ _ _ hT1, by show 1 ≤ 1000000000000; omega⟩
          · exact ⟨⟨GB.nil, Nat.zero_le _, Nat.zero_le _⟩, Nat.zero_le _⟩
          · exact ⟨rev_good _ _ _ hQ1, by show 1 ≤ 1000000000000; omega⟩
          · exact ⟨⟨GB.nil, Nat.zero_le _, Nat.zero_le _⟩, Nat.zero_le _⟩)
        have cF := Lib.hid (Fold_law HESZ.out (by omega) (fun x hx _ => (HGZ.out _ (List.mem_map_of_mem hx)).1) V10 (Sees.self V10) (cells_lt V10))
        have HKY : Hid (∀ s, FoldIs (LZ.map FctE.f) s → (∀ lang, resS s lang qQuote = U.data.toList) ∧ resS s sFr qAgain = U.data.toList ∧ textS s 2 sFr = some (sB.data.toList ++ [10] ++ ([34] ++ U.data.toList ++ [34] ++ [10] ++ ([34] ++ U.data.toList ++ [34] ++ [10])))) := Lib.hid (fun s hs => by
          have hTS : sentF T = senS l (1 + min l.length 19) := by
            rw [← bs_data T, HT.out]
            exact sents_body7 l _
          refine quotes_corrected hTS k (by rw [senS_len]; omega) (HLZ.out.imp (fun q => by rw [← q]; exact hs) (fun q => by rw [← q]; exact hs)) ?_
          rw [HUL.out, ← wantL_set]
          exact HU.out.symm)
        go_wp2_with fail
        refine cF.out.mono ?_
        rintro e w11 ⟨a, c, b, d, s, rfl, hF⟩
        have HF11 := Lib.hid hF
        have H911 := Lib.hid ((hF.bel.block _ (hlt HB9z.out)).trans HB9z.out)
        have H811 := Lib.hid ((hF.bel.block _ (hlt HB8z.out)).trans HB8z.out)
        have HBZ11 : Hid (Below w0.heap.size w0 w11) := Lib.hid (HBZ.out.trans (hF.bel.mono HBZ.out.size))
        clear hF cF
        go_upto_region 30 with ((with_reducible refine at_sstore 27 _ _ rfl ?_); go_must (refine wpList_snew rfl S_state _ _ rfl rfl _ _ #[.slice a s.stories.length c, .slice b s.tpls.length d] (by simp [Act.eval]) (by simp [Act.eval]) rfl rfl (by simp [Value.oneCell']) ?_))
        obtain ⟨W12, hW12⟩ : ∃ W12, W12 = w11.alloc (.cells #[.slice a s.stories.length c, .slice b s.tpls.length d] 27) := ⟨_, rfl⟩
        rw [← hW12]
        have hb12 : Below w11.heap.size w11 W12 := by rw [hW12]; exact bel1 _ _
        have HN12 : Hid (W12.heap[w11.heap.size]? = some (.cells #[.slice a s.stories.length c, .slice b s.tpls.length d] 27 (0, 0))) := Lib.hid (by rw [hW12]; exact World.alloc_heap_new _ _)
        have HS12 : Hid (Sees (memFr w11 (fun k => k < V10.heap.size + 1)) W12) := Lib.hid ((memFr_sees w11 _).bel hb12)
        have H912 := Lib.hid ((hb12.block _ (hlt H911.out)).trans H911.out)
        have H812 := Lib.hid ((hb12.block _ (hlt H811.out)).trans H811.out)
        have HBZ12 : Hid (Below w0.heap.size w0 W12) := Lib.hid (HBZ11.out.trans (hb12.mono HBZ11.out.size))
        clear hW12 hb12
        have hln : s.stories.length < 100 := by
          have h1 := HF11.out.len
          rw [List.length_map, hnz] at h1
          omega
        obtain ⟨k1, k2, k3⟩ := HKY.out s HF11.out.is
        have HK1 : Hid (bs (resS s ⟨#[101, 110]⟩ qQuote) = U) := Lib.hid (by rw [k1]; exact bs_data U)
        have HK2 : Hid (bs (resS s ⟨#[102, 114]⟩ qAgain) = U) := Lib.hid ((congrArg bs k2).trans (bs_data U))
        have HK3 : Hid (bs ((textS s 2 ⟨#[102, 114]⟩).getD []) = (⟨#[98, 10, 34]⟩ : ByteArray) ++ U ++ ⟨#[34, 10, 34]⟩ ++ U ++ ⟨#[34, 10]⟩) := Lib.hid (by
          rw [show textS s 2 ⟨#[102, 114]⟩ = _ from k3]
          refine str_ext ?_
          rw [Option.getD_some]
          simp [bs, sB])
        have HK4 : Hid ((textS s 2 ⟨#[102, 114]⟩).isSome = true) := Lib.hid (by rw [show textS s 2 ⟨#[102, 114]⟩ = _ from k3]; rfl)
        clear k1 k2 k3
        have cT := Lib.hid (Text_any HF11.out.st hln (txy_all HF11.out.good (fold_titles (P := fun t => t.size ≤ 1000000000000) (fun f hf => (HGZ.out f hf).2) HF11.out.is)) (txs_all HF11.out.good) 2 ⟨#[102, 114]⟩ W12 HS12.out)
        go_wp2_with ((with_reducible refine at_sload 27 _ rfl ?_); go_must (refine wpList_sload rfl S_state _ rfl (by simp [Act.eval]) #[.slice a s.stories.length c, .slice b s.tpls.length d] rfl HN12.out ?_))
        refine cT.out.mono ?_
        rintro e W13 ⟨rfl, hb13⟩
        rw [HK3.out, HK4.out]
        have HN13 := Lib.hid ((hb13.block _ (hlt HN12.out)).trans HN12.out)
        have HS13 := Lib.hid (HS12.out.bel hb13)
        have H913 := Lib.hid ((hb13.block _ (hlt H912.out)).trans H912.out)
        have H813 := Lib.hid ((hb13.block _ (hlt H812.out)).trans H812.out)
        have HBZ13 : Hid (Below w0.heap.size w0 W13) := Lib.hid (HBZ12.out.trans (hb13.mono HBZ12.out.size))
        clear hb13 cT HT HU HUL
        have hz1 : ((⟨#[98, 10, 34]⟩ : ByteArray) ++ U).size ≤ 303 := by rw [ByteArray.size_append]; show 3 + _ ≤ 303; omega
        have hz2 : ((⟨#[98, 10, 34]⟩ : ByteArray) ++ U ++ (⟨#[34, 10, 34]⟩ : ByteArray)).size ≤ 306 := by rw [ByteArray.size_append]; show _ + 3 ≤ 306; omega
        have hz3 : ((⟨#[98, 10, 34]⟩ : ByteArray) ++ U ++ (⟨#[34, 10, 34]⟩ : ByteArray) ++ U).size ≤ 606 := by rw [ByteArray.size_append]; omega
        have cR := Lib.hid (Resolve_any HF11.out.st hln ⟨#[101, 110]⟩ (b := qQuote) (bu := .agg (blkCells qQuote nilS)) ⟨none, 0, rfl, IntsM.nil _, ml_d rfl, okI_d rfl, okI_d rfl⟩ W13 HS13.out)
        rw [HK1.out] at cR
        go_wp2_with (first
          | ((with_reducible refine at_sload 27 _ rfl ?_); go_must (refine wpList_val (by rfl) _ (exec_smid S_state _ rfl (by simp [Act.eval]) #[.slice a s.stories.length c, .slice b s.tpls.length d] rfl (whole_cells HN13.out)) ?_))
          | ((with_reducible refine at_sload 58 _ rfl ?_); go_must (refine wpList_val (by rfl) _ (exec_smid S_blk _ rfl (by simp [Act.eval, Act.put]) (blkCells qQuote nilS) rfl (whole_cells H913.out)) ?_)))
        refine cR.out.mono ?_
        rintro e W14 ⟨rfl, hb14⟩
        have HN14 := Lib.hid ((hb14.block _ (hlt HN13.out)).trans HN13.out)
        have HS14 := Lib.hid (HS13.out.bel hb14)
        have H814 := Lib.hid ((hb14.block _ (hlt H813.out)).trans H813.out)
        have HBZ14 : Hid (Below w0.heap.size w0 W14) := Lib.hid (HBZ13.out.trans (hb14.mono HBZ13.out.size))
        clear hb14 cR
        have cR := Lib.hid (Resolve_any HF11.out.st hln ⟨#[102, 114]⟩ (b := qAgain) (bu := .agg (blkCells qAgain nilS)) ⟨none, 0, rfl, IntsM.nil _, ml_d rfl, okI_d rfl, okI_d rfl⟩ W14 HS14.out)
        rw [HK2.out] at cR
        go_wp2_with (first
          | ((with_reducible refine at_sload 27 _ rfl ?_); go_must (refine wpList_val (by rfl) _ (exec_smid S_state _ rfl (by simp [Act.eval]) #[.slice a s.stories.length c, .slice b s.tpls.length d] rfl (whole_cells HN14.out)) ?_))
          | ((with_reducible refine at_sload 58 _ rfl ?_); go_must (refine wpList_val (by rfl) _ (exec_smid S_blk _ rfl (by simp [Act.eval, Act.put]) (blkCells qAgain nilS) rfl (whole_cells H814.out)) ?_)))
        refine cR.out.mono ?_
        rintro e W15 ⟨rfl, hb15⟩
        have HFN : Hid (Below w.heap.size w W15) := Lib.hid (HB0.out.trans ((HBZ14.out.trans (hb15.mono HBZ14.out.size)).mono HB0.out.size))
        clear hb15 cR
        go_wp2_with fail
        go_ret
        exact ⟨rfl, HFN.out⟩
      | false =>
        have HOW : Hid (∀ b, b < V8.heap.size → b ≠ V2.heap.size + 1 → some b ≠ some (V2.heap.size + 1)) := Lib.hid (fun b _ h e => h (Option.some.inj e))
        go_upto_region 27 with ((with_reducible refine at_sappend _ _ 22 rfl ?_); go_must (refine wpList_app_facts rfl _ _ rfl w0.heap.size _ [parE T V2.heap.size, pubE 1] (by simp [Act.eval]) HA1.out (some ⟨V6.heap.size + 1, 0, none⟩) 2 [quoE V6.heap.size, pubE 2] (by simp [Act.eval]) (HA2.out.es (HKB.out V8 HP.out HQ.out)) (by show 2 + 2 ≤ 100000; omega) HBz.out.size ?_); go_must (intro v9 V9 hr9 hg9 hob9; have HK9 : Hid (∀ b, b < V8.heap.size → b ≠ V2.heap.size + 1 → V9.heap[b]? = V8.heap[b]?) := Lib.hid (fun b h1 h2 => hg9.block b h1 (fun e => h2 (Option.some.inj e))); have HBy : Hid (Below w0.heap.size w0 V9) := Lib.hid (HBz.out.grown hg9 HBz.out.size (fun j hj => (HA1.out.ge j hj).1)); have HZ9 : Hid (V8.heap.size ≤ V9.heap.size) := Lib.hid hg9.size; obtain ⟨a9, c9, hv9⟩ := hr9.shape; subst hv9; have HR9 := Lib.hid hr9; have HO9 := Lib.hid hob9; clear hr9 hg9 hob9))
        have hl9 : V2.heap.size + 1 < V8.heap.size := by have := HSZ.out; omega
        have HC9 := Lib.hid ((HK9.out _ (hlt HC.out) (by have := HSZ.out; omega)).trans HC.out)
        have HP9 := Lib.hid ((HK9.out _ (hlt HP.out) (by omega)).trans HP.out)
        have HQ9 := Lib.hid ((HK9.out _ (hlt HQ.out) (by have := HSZ.out; omega)).trans HQ.out)
        have H99 := Lib.hid ((HK9.out _ (hlt H9.out) (by have := HSZ.out; omega)).trans H9.out)
        have H89 := Lib.hid ((HK9.out _ (hlt H8.out) (by have := HSZ.out; omega)).trans H8.out)
        go_upto_region 29 with (first
          | ((with_reducible refine at_fload _ rfl ?_); go_must (refine wpList_fct_load rfl _ rfl V5.heap.size (by simp [Act.eval]) (corE k u).cells HC9.out (FctE.size _) ?_))
          | ((with_reducible refine at_fslice _ rfl ?_); go_must (refine wpList_fct_slice rfl _ rfl (corE k u) (by simp [Act.eval, Act.put]) ?_))
          | ((with_reducible refine at_sappend _ _ 22 rfl ?_); go_must (refine wpList_app_facts rfl _ _ rfl w0.heap.size _ ([parE T V2.heap.size, pubE 1] ++ [quoE V6.heap.size, pubE 2]) (by simp [Act.eval, Act.put]) (HR9.out.same (fun j hj => (bel1 V9 _).block j (HR9.out.ge j hj).2)) (some ⟨V9.heap.size, 0, none⟩) 1 [corE k u] (by simp [Act.eval, Act.put]) ((frow_one (B := V9.heap.size) (Nat.le_refl _) (World.alloc_heap_new V9 _)).es (fun x hx => by rw [List.mem_singleton.1 hx]; exact HOK.out _ (((bel1 V9 _).block _ (hlt HP9.out)).trans HP9.out) (((bel1 V9 _).block _ (hlt HQ9.out)).trans HQ9.out) _ (by simp))) (by show 4 + 1 ≤ 100000; omega) (by have := HBy.out.size; simp; omega) ?_); go_must (intro v10 V10 hr10 hg10 _; have HK10 : Hid (∀ b, b < V9.heap.size → some b ≠ (Value.slice a9 ([parE T V2.heap.size, pubE 1] ++ [quoE V6.heap.size, pubE 2]).length c9).ownBlock → V10.heap[b]? = V9.heap[b]?) := Lib.hid (fun b h1 h2 => (hg10.block b (by simp; omega) h2).trans ((bel1 V9 _).block b h1)); have HBZ : Hid (Below w0.heap.size w0 V10) := Lib.hid (((HBy.out.alloc HBy.out.size _)).grown hg10 (by have := HBy.out.size; simp; omega) (fun j hj => (HR9.out.ge j hj).1)); obtain ⟨a10, c10, hv10⟩ := hr10.shape; subst hv10; have HR10 := Lib.hid hr10; clear hr10 hg10)))
        have hox : ∀ b, b < V8.heap.size → b ≠ V2.heap.size + 1 → some b ≠ (Value.slice a9 ([parE T V2.heap.size, pubE 1] ++ [quoE V6.heap.size, pubE 2]).length c9).ownBlock := fun b h1 h2 e => by
          rcases HO9.out with q | q
          · rw [q] at e
            exact h2 (Option.some.inj e)
          · rw [q] at e
            have := Option.some.inj e
            omega
        have hv9 := HZ9.out
        have HRZ := HR10
        have HB9z := Lib.hid ((HK10.out _ (hlt H99.out) (hox _ (hlt H9.out) (by have := HSZ.out; omega))).trans H99.out)
        have HB8z := Lib.hid ((HK10.out _ (hlt H89.out) (hox _ (hlt H8.out) (by have := HSZ.out; omega))).trans H89.out)
        have HKZ : Hid (∀ x ∈ [parE T V2.heap.size, pubE 1] ++ [quoE V6.heap.size, pubE 2] ++ [corE (k : Int) u], x.ok (fun p => V10.cell? p)) := Lib.hid (fun x hx => HOK.out V10 ((HK10.out _ (hlt HP9.out) (hox _ (hlt HP.out) (by omega))).trans HP9.out) ((HK10.out _ (hlt HQ9.out) (hox _ (hlt HQ.out) (by have := HSZ.out; omega))).trans HQ9.out) x (by
          simp only [List.mem_append, List.mem_cons, List.not_mem_nil, or_false] at hx
          rcases hx with ((rfl | rfl) | rfl | rfl) | rfl <;> simp))
        have HLZ : Hid (([parE T V2.heap.size, pubE 1] ++ [quoE V6.heap.size, pubE 2] ++ [corE (k : Int) u]).map FctE.f = qLate T k u ∨ ([parE T V2.heap.size, pubE 1] ++ [quoE V6.heap.size, pubE 2] ++ [corE (k : Int) u]).map FctE.f = qEarly T k u) := Lib.hid (.inl rfl)
        have hnz : ([parE T V2.heap.size, pubE 1] ++ [quoE V6.heap.size, pubE 2] ++ [corE (k : Int) u]).length = 5 := rfl
        clear HR10 HR9 hox hv9 HO9 HK9 HK10 hl9
        generalize [parE T V2.heap.size, pubE 1] ++ [quoE V6.heap.size, pubE 2] ++ [corE (k : Int) u] = LZ at *
        have HESZ : Hid (EsM (fun p => V10.cell? p) (.slice a10 5 c10) LZ) := Lib.hid (by rw [← hnz]; exact HRZ.out.es HKZ.out)
        have HGZ : Hid (∀ f ∈ LZ.map FctE.f, FGood f ∧ f.title.size ≤ 1000000000000) := Lib.hid (fun f hf => by
          have hT1 : GB [qPar T] := ⟨by show 1 ≤ 100; omega, fun x hx => by rw [List.mem_singleton.1 hx]; exact ⟨by show T.size ≤ 1000; omega, Nat.zero_le _⟩⟩
          have hQ1 : GB [qQuote, qAgain] := ⟨by show 2 ≤ 100; omega, fun x hx => by
            rcases List.mem_cons.1 hx with rfl | hx
            · exact ⟨Nat.zero_le _, Nat.zero_le _⟩
            · rw [List.mem_singleton.1 hx]; exact ⟨Nat.zero_le _, Nat.zero_le _⟩⟩
          have hall : f = corFct k u ∨ f = revFct 1 sEn sA [qPar T] ∨ f = pubFct 1 ∨ f = revFct 2 sFr sB [qQuote, qAgain] ∨ f = pubFct 2 := by
            rcases HLZ.out with q | q <;> rw [q] at hf
            · simp only [qLate, List.mem_cons, List.not_mem_nil, or_false] at hf
              rcases hf with rfl | rfl | rfl | rfl | rfl <;> simp
            · simp only [qEarly, List.mem_cons, List.not_mem_nil, or_false] at hf
              exact hf
          rcases hall with rfl | rfl | rfl | rfl | rfl
          · exact ⟨⟨GB.nil, by show u.size ≤ 1000; omega, Nat.zero_le _⟩, Nat.zero_le _⟩
          · exact ⟨rev_good _ _ _ hT1, by show 1 ≤ 1000000000000; omega⟩
          · exact ⟨⟨GB.nil, Nat.zero_le _, Nat.zero_le _⟩, Nat.zero_le _⟩
          · exact ⟨rev_good _ _ _ hQ1, by show 1 ≤ 1000000000000; omega⟩
          · exact ⟨⟨GB.nil, Nat.zero_le _, Nat.zero_le _⟩, Nat.zero_le _⟩)
        have cF := Lib.hid (Fold_law HESZ.out (by omega) (fun x hx _ => (HGZ.out _ (List.mem_map_of_mem hx)).1) V10 (Sees.self V10) (cells_lt V10))
        have HKY : Hid (∀ s, FoldIs (LZ.map FctE.f) s → (∀ lang, resS s lang qQuote = U.data.toList) ∧ resS s sFr qAgain = U.data.toList ∧ textS s 2 sFr = some (sB.data.toList ++ [10] ++ ([34] ++ U.data.toList ++ [34] ++ [10] ++ ([34] ++ U.data.toList ++ [34] ++ [10])))) := Lib.hid (fun s hs => by
          have hTS : sentF T = senS l (1 + min l.length 19) := by
            rw [← bs_data T, HT.out]
            exact sents_body7 l _
          refine quotes_corrected hTS k (by rw [senS_len]; omega) (HLZ.out.imp (fun q => by rw [← q]; exact hs) (fun q => by rw [← q]; exact hs)) ?_
          rw [HUL.out, ← wantL_set]
          exact HU.out.symm)
        go_wp2_with fail
        refine cF.out.mono ?_
        rintro e w11 ⟨a, c, b, d, s, rfl, hF⟩
        have HF11 := Lib.hid hF
        have H911 := Lib.hid ((hF.bel.block _ (hlt HB9z.out)).trans HB9z.out)
        have H811 := Lib.hid ((hF.bel.block _ (hlt HB8z.out)).trans HB8z.out)
        have HBZ11 : Hid (Below w0.heap.size w0 w11) := Lib.hid (HBZ.out.trans (hF.bel.mono HBZ.out.size))
        clear hF cF
        go_upto_region 30 with ((with_reducible refine at_sstore 27 _ _ rfl ?_); go_must (refine wpList_snew rfl S_state _ _ rfl rfl _ _ #[.slice a s.stories.length c, .slice b s.tpls.length d] (by simp [Act.eval]) (by simp [Act.eval]) rfl rfl (by simp [Value.oneCell']) ?_))
        obtain ⟨W12, hW12⟩ : ∃ W12, W12 = w11.alloc (.cells #[.slice a s.stories.length c, .slice b s.tpls.length d] 27) := ⟨_, rfl⟩
        rw [← hW12]
        have hb12 : Below w11.heap.size w11 W12 := by rw [hW12]; exact bel1 _ _
        have HN12 : Hid (W12.heap[w11.heap.size]? = some (.cells #[.slice a s.stories.length c, .slice b s.tpls.length d] 27 (0, 0))) := Lib.hid (by rw [hW12]; exact World.alloc_heap_new _ _)
        have HS12 : Hid (Sees (memFr w11 (fun k => k < V10.heap.size + 1)) W12) := Lib.hid ((memFr_sees w11 _).bel hb12)
        have H912 := Lib.hid ((hb12.block _ (hlt H911.out)).trans H911.out)
        have H812 := Lib.hid ((hb12.block _ (hlt H811.out)).trans H811.out)
        have HBZ12 : Hid (Below w0.heap.size w0 W12) := Lib.hid (HBZ11.out.trans (hb12.mono HBZ11.out.size))
        clear hW12 hb12
        have hln : s.stories.length < 100 := by
          have h1 := HF11.out.len
          rw [List.length_map, hnz] at h1
          omega
        obtain ⟨k1, k2, k3⟩ := HKY.out s HF11.out.is
        have HK1 : Hid (bs (resS s ⟨#[101, 110]⟩ qQuote) = U) := Lib.hid (by rw [k1]; exact bs_data U)
        have HK2 : Hid (bs (resS s ⟨#[102, 114]⟩ qAgain) = U) := Lib.hid ((congrArg bs k2).trans (bs_data U))
        have HK3 : Hid (bs ((textS s 2 ⟨#[102, 114]⟩).getD []) = (⟨#[98, 10, 34]⟩ : ByteArray) ++ U ++ ⟨#[34, 10, 34]⟩ ++ U ++ ⟨#[34, 10]⟩) := Lib.hid (by
          rw [show textS s 2 ⟨#[102, 114]⟩ = _ from k3]
          refine str_ext ?_
          rw [Option.getD_some]
          simp [bs, sB])
        have HK4 : Hid ((textS s 2 ⟨#[102, 114]⟩).isSome = true) := Lib.hid (by rw [show textS s 2 ⟨#[102, 114]⟩ = _ from k3]; rfl)
        clear k1 k2 k3
        have cT := Lib.hid (Text_any HF11.out.st hln (txy_all HF11.out.good (fold_titles (P := fun t => t.size ≤ 1000000000000) (fun f hf => (HGZ.out f hf).2) HF11.out.is)) (txs_all HF11.out.good) 2 ⟨#[102, 114]⟩ W12 HS12.out)
        go_wp2_with ((with_reducible refine at_sload 27 _ rfl ?_); go_must (refine wpList_sload rfl S_state _ rfl (by simp [Act.eval]) #[.slice a s.stories.length c, .slice b s.tpls.length d] rfl HN12.out ?_))
        refine cT.out.mono ?_
        rintro e W13 ⟨rfl, hb13⟩
        rw [HK3.out, HK4.out]
        have HN13 := Lib.hid ((hb13.block _ (hlt HN12.out)).trans HN12.out)
        have HS13 := Lib.hid (HS12.out.bel hb13)
        have H913 := Lib.hid ((hb13.block _ (hlt H912.out)).trans H912.out)
        have H813 := Lib.hid ((hb13.block _ (hlt H812.out)).trans H812.out)
        have HBZ13 : Hid (Below w0.heap.size w0 W13) := Lib.hid (HBZ12.out.trans (hb13.mono HBZ12.out.size))
        clear hb13 cT HT HU HUL
        have hz1 : ((⟨#[98, 10, 34]⟩ : ByteArray) ++ U).size ≤ 303 := by rw [ByteArray.size_append]; show 3 + _ ≤ 303; omega
        have hz2 : ((⟨#[98, 10, 34]⟩ : ByteArray) ++ U ++ (⟨#[34, 10, 34]⟩ : ByteArray)).size ≤ 306 := by rw [ByteArray.size_append]; show _ + 3 ≤ 306; omega
        have hz3 : ((⟨#[98, 10, 34]⟩ : ByteArray) ++ U ++ (⟨#[34, 10, 34]⟩ : ByteArray) ++ U).size ≤ 606 := by rw [ByteArray.size_append]; omega
        have cR := Lib.hid (Resolve_any HF11.out.st hln ⟨#[101, 110]⟩ (b := qQuote) (bu := .agg (blkCells qQuote nilS)) ⟨none, 0, rfl, IntsM.nil _, ml_d rfl, okI_d rfl, okI_d rfl⟩ W13 HS13.out)
        rw [HK1.out] at cR
        go_wp2_with (first
          | ((with_reducible refine at_sload 27 _ rfl ?_); go_must (refine wpList_val (by rfl) _ (exec_smid S_state _ rfl (by simp [Act.eval]) #[.slice a s.stories.length c, .slice b s.tpls.length d] rfl (whole_cells HN13.out)) ?_))
          | ((with_reducible refine at_sload 58 _ rfl ?_); go_must (refine wpList_val (by rfl) _ (exec_smid S_blk _ rfl (by simp [Act.eval, Act.put]) (blkCells qQuote nilS) rfl (whole_cells H913.out)) ?_)))
        refine cR.out.mono ?_
        rintro e W14 ⟨rfl, hb14⟩
        have HN14 := Lib.hid ((hb14.block _ (hlt HN13.out)).trans HN13.out)
        have HS14 := Lib.hid (HS13.out.bel hb14)
        have H814 := Lib.hid ((hb14.block _ (hlt H813.out)).trans H813.out)
        have HBZ14 : Hid (Below w0.heap.size w0 W14) := Lib.hid (HBZ13.out.trans (hb14.mono HBZ13.out.size))
        clear hb14 cR
        have cR := Lib.hid (Resolve_any HF11.out.st hln ⟨#[102, 114]⟩ (b := qAgain) (bu := .agg (blkCells qAgain nilS)) ⟨none, 0, rfl, IntsM.nil _, ml_d rfl, okI_d rfl, okI_d rfl⟩ W14 HS14.out)
        rw [HK2.out] at cR
        go_wp2_with (first
          | ((with_reducible refine at_sload 27 _ rfl ?_); go_must (refine wpList_val (by rfl) _ (exec_smid S_state _ rfl (by simp [Act.eval]) #[.slice a s.stories.length c, .slice b s.tpls.length d] rfl (whole_cells HN14.out)) ?_))
          | ((with_reducible refine at_sload 58 _ rfl ?_); go_must (refine wpList_val (by rfl) _ (exec_smid S_blk _ rfl (by simp [Act.eval, Act.put]) (blkCells qAgain nilS) rfl (whole_cells H814.out)) ?_)))
        refine cR.out.mono ?_
        rintro e W15 ⟨rfl, hb15⟩
        have HFN : Hid (Below w.heap.size w W15) := Lib.hid (HB0.out.trans ((HBZ14.out.trans (hb15.mono HBZ14.out.size)).mono HB0.out.size))
        clear hb15 cR
        go_wp2_with fail
        go_ret
        exact ⟨rfl, HFN.out⟩
end Go.Proofs.YtdkkhmjlamkgdaaGreatDoor
/-
  WHAT IS PROVED HERE: StateQuotesCorrected returns true and leaves its arguments as they were, for all arguments. Conditions: those of the card (the listed tables of Go's library lie as their text lays them).
-/
namespace Go.Proofs.YtdkkhmjlamkgdaaGreatDoor.fnSQuo
open Go.ChangeShapes Go.WideShapes Go.ChangeAt Go.RowKit Go.ChangeMaps Mg

set_option maxRecDepth 100000 in
theorem contract (H : Type) (enc : TypeId × Value → H) (W : World) (base : Nat) (args : Array Value) (ds gs : List (DataW H)) (before : List MemPlace)
    (hval : ∀ (j : Nat) t v, Tryz.f6.params[j]? = some t → args[j]? = some v → Value.okWide Tryz.prog W .any base t v)
    (hW : DataW.Whole enc Tryz.prog Tryz.f6.params.toList Rows.stateQuotesCorrectedSpec.vars false W args.toList ds gs before) :
    Calls Tryz.prog 6 args W fun e W' => ∃ v, e = .returned v ∧ Rows.stateQuotesCorrectedSpec.post enc Tryz.prog Tryz.f6 false true false false W args v W' := by
  have hread : ∀ t ∈ Tryz.f6.params.toList, Tryz.prog.readableRec t = true ∧ t < Tryz.prog.types.size := by
    have hall : (Tryz.f6.params.toList.all fun t => Tryz.prog.readableRec t && decide (t < Tryz.prog.types.size)) = true := by kernel_rfl
    intro t ht
    have := List.all_eq_true.1 hall t ht
    simpa using this
  have hclose : ∀ W', Below W.heap.size W W' → (Rows.stateQuotesCorrectedSpec.fn H ds).results = [.lit (.bool true)] ∧ (Rows.stateQuotesCorrectedSpec.fn H ds).args = ds ∧ (Rows.stateQuotesCorrectedSpec.fn H ds).vars = [] → Rows.stateQuotesCorrectedSpec.post enc Tryz.prog Tryz.f6 false true false false W args (.bool true) W' :=
    fun W' hg hs => close_law hW rfl (by kernel_rfl) hs hread hg
  obtain ⟨p, q, hA0, hV, rfl, hfz, hnd⟩ := hW
  have hA : DataW.TrodAll enc Tryz.prog W 0 (fun _ => true) true Tryz.f6.params.toList args.toList ds p := hA0
  obtain ⟨rfl, rfl⟩ := trodVars_none hV
  rw [Tryz.params6] at hA hval
  clear hA0 hread hfz hnd hV
  obtain ⟨v0, vs0, d0, ds0, p0, q0, hargs, rfl, rfl, h0, r0⟩ := trodAll_cons hA
  obtain ⟨v1, vs1, d1, ds1, p1, q1, rfl, rfl, rfl, h1, r1⟩ := trodAll_cons r0
  obtain ⟨v2, vs2, d2, ds2, p2, q2, rfl, rfl, rfl, h2, r2⟩ := trodAll_cons r1
  obtain ⟨v3, vs3, d3, ds3, p3, q3, rfl, rfl, rfl, h3, r3⟩ := trodAll_cons r2
  obtain ⟨rfl, rfl, rfl⟩ := trodAll_nil r3
  obtain rfl : args = #[v0, v1, v2, v3] := by cases args; simp_all
  obtain ⟨l0, b0, k0⟩ := ints_in (hval 0 46 v0 rfl rfl) h0
  obtain ⟨x1, rfl, k1⟩ := int_in (hval 1 3 v1 rfl rfl) h1
  obtain ⟨x2, rfl, k2⟩ := int_in (hval 2 3 v2 rfl rfl) h2
  obtain ⟨x3, rfl⟩ := bool_in (hval 3 4 v3 rfl rfl)
  refine (quotes_any b0 k0 x1 x2 k1 k2 x3 W (Sees.self W)).mono fun e W' ⟨he, hg⟩ => ?_
  exact ⟨_, he, hclose W' hg ⟨rfl, rfl, rfl⟩⟩

theorem laid_met (os : Os) : laidMet Tryz.prog Rows.stateQuotesCorrectedRow.laid ((laidWorld os).forCall (fun _ _ => 0) ⟨#[], #[.slice none 0 0, .int .i64 0, .int .i64 0, .bool false], []⟩).memory :=
  laidMet_of_run' 8 (by kernel_rfl) (by kernel_rfl)
theorem reads (os : Os) {H : Type} (enc : TypeId × Value → H) : ∃ places, DataW.whole enc Tryz.prog ((laidWorld os).forCall (fun _ _ => 0) ⟨#[], #[.slice none 0 0, .int .i64 0, .int .i64 0, .bool false], []⟩).memory Tryz.f6.params.toList Rows.stateQuotesCorrectedSpec.vars false (#[Value.slice none 0 0, .int .i64 0, .int .i64 0, .bool false] : Array Value).toList 8 = some ([.nil, .lit (.int .i64 0), .lit (.int .i64 0), .lit (.bool false)], [], places) :=
  ⟨[], by kernel_rfl⟩

set_option maxRecDepth 100000 in
theorem lifted (os : Os) (started : os.Started) (H : Type) (enc : TypeId × Value → H) (F : Stop.Interp) :
    ReturnsInHanded {} Tryz.checked os 6 .any ((OpenSpec.ofChange Rows.stateQuotesCorrectedSpec).preRow enc Tryz.prog Tryz.f6 Rows.stateQuotesCorrectedRow.domain false Rows.stateQuotesCorrectedRow.laid) (((OpenSpec.ofChange Rows.stateQuotesCorrectedSpec).at F).post enc Tryz.prog Tryz.f6 false true false false) := by
  obtain ⟨places, hx⟩ := reads os enc
  refine returnsInHanded_of_row (C := Tryz.checked) (s := OpenSpec.ofChange Rows.stateQuotesCorrectedSpec) own started (by kernel_rfl) Tryz.func6
    (witness_row_at (enc := enc) (C := Tryz.checked) false (laidWorld os) #[.slice none 0 0, .int .i64 0, .int .i64 0, .bool false] rfl (by kernel_rfl) (by kernel_rfl) (by kernel_rfl)
      (OpenSpec.preRow_of_cond 8 hx (by kernel_rfl) (fun k hk => by cases hk) (by kernel_rfl) (laid_met os))) ?_
  intro W base args ds gs before hval hW _ _ _ _ _ _
  exact contract H enc W base args ds gs before hval hW

theorem j1 : (Rows.stateQuotesCorrectedRow.inPlace == Tryz.prog.inPlace 6) = true := by kernel_rfl
theorem j2 : (Rows.stateQuotesCorrectedRow.unfollowed == Tryz.prog.unfollowed 6) = true := by kernel_rfl
theorem j3 : (Rows.stateQuotesCorrectedRow.recurses == Tryz.prog.recurses 6) = true := by kernel_rfl
theorem j4 : (Rows.stateQuotesCorrectedRow.named == Tryz.prog.varsNamed 6) = true := by kernel_rfl
theorem j5 : joinedRest Tryz.prog Tryz.f6 (OpenSpec.ofChange Rows.stateQuotesCorrectedSpec).bare Rows.stateQuotesCorrectedRow = true := by kernel_rfl
theorem j6 : false = Rows.stateQuotesCorrectedRow.goesBy Tryz.prog := by kernel_rfl
theorem j7 : Rows.stateQuotesCorrectedRow.wfByText (OpenSpec.ofChange Rows.stateQuotesCorrectedSpec) = true := by kernel_rfl
theorem closed : joinedFacts Tryz.prog 6 Tryz.f6 (OpenSpec.ofChange Rows.stateQuotesCorrectedSpec).bare Rows.stateQuotesCorrectedRow = true := joined_of j1 j2 j3 j4 pr_heard pr_enter pr_lifts pr_make j5
theorem named : Tryz.prog.funcNamed Rows.stateQuotesCorrectedRow.func = some 6 := by kernel_rfl

theorem said : Rows.StateQuotesCorrectedSaid :=
  OpenClaim.holds_of_cond 6 Tryz.f6 rfl rfl rfl rfl rfl rfl rfl ⟨rfl, rfl, rfl, rfl, rfl⟩ rfl rfl rfl rfl rfl named Tryz.func6 closed
    (of_decide_eq_true (by kernel_rfl)) (by unfold Func.isWrapper; first | (rw [if_pos (by decide +kernel)]; kernel_rfl) | (rw [if_neg (by decide +kernel)]; exact ⟨rfl, rfl⟩))
    (fun os started H enc _ F => by rw [OpenClaim.pre_eq_preRow]; exact lifted os started H enc F)

/-- No parameter wants a stand-in; the program's own looks are off: what both cards ask. -/
theorem plain (f : FuncId) (fn : Func) (hf : Tryz.pinned.checked.prog.funcNamed "copydesk/copydesklaw07.StateQuotesCorrected" = some f) (hfn : Tryz.pinned.checked.prog.funcs[f]? = some fn) :
    false = Tryz.pinned.checked.prog.looks [] ∧ ∀ (j : Nat) t, fn.params[j]? = some t → Tryz.pinned.checked.prog.wantsStandIn t = false := by
  obtain rfl : f = 6 := Option.some.inj ((show Tryz.prog.funcNamed "copydesk/copydesklaw07.StateQuotesCorrected" = some 6 by kernel_rfl).symm.trans hf) |>.symm
  obtain rfl : fn = Tryz.f6 := (Option.some.inj (Tryz.func6.symm.trans hfn)).symm
  refine ⟨by kernel_rfl, fun j t ht => ?_⟩
  have hall : Tryz.f6.params.all (fun t => !Tryz.prog.wantsStandIn t) = true := by kernel_rfl
  have := Array.all_eq_true'.1 hall t (Array.mem_of_getElem? ht)
  exact (by simpa using this : Tryz.prog.wantsStandIn t = false)

/-- ████ THE CARD ████ -/
theorem card : Rows.StateQuotesCorrectedCardSaid :=
  Claim7.holds_tied_plain_at .later [] _ _ _ _ said (fun _ h => by cases h) j7 (fun _ h => by cases h) stateQuotesCorrected_row_tie rfl ⟨rfl, rfl⟩ (by kernel_rfl) rfl plain j6
end Go.Proofs.YtdkkhmjlamkgdaaGreatDoor.fnSQuo

/-
  WHAT IS PROVED HERE: a law returns true and leaves its arguments as they were, for all arguments (2 texts joined). Conditions: those of the card.
-/
import Derived.Test.YtdkkhmjlamkgdaaGreatDoorBn6
import Derived.Laws.IdiomStrings
/-
  WHAT IS PROVED HERE: the walk of StateCounts. Condition: the facts lie in memory that is only read.
-/
namespace Go.Proofs.YtdkkhmjlamkgdaaGreatDoor
open Go.RowKit Mg Go.Shelf Go.Maps

theorem hasT_step {l : List ByteArray} {t : ByteArray} {m : Nat} (hm : m < l.length) : hasT (l.take (m + 1)) t = (hasT (l.take m) t || decide (l[m] = t)) := by
  unfold hasT
  rw [List.take_succ_eq_append_getElem hm, List.any_append]
  simp
theorem strs_get {mem : Addr → Option Value} {ao : Option Addr} {cap : Nat} {l : List ByteArray} (h : StrsM mem (.slice ao l.length cap) l) : ∃ b o, (0 < l.length → ao = some ⟨b, o, none⟩) ∧ l.length ≤ maxLen ∧ ∀ j (hj : j < l.length), mem ⟨b, o + j, none⟩ = some (.string l[j]) := by
  obtain ⟨b, o, ⟨h0, ao', cap', e, h2, h3, h4⟩, _, h6⟩ := h
  injection e with e1 _ e3
  subst e1 e3
  exact ⟨b, o, h4, h0, h6⟩
section
variable {ops : Array Oper} {rest : List Oper} {o : Oper} {a : Act} {w : World} {Q : Exit → Act → World → Prop}
theorem at_conv (s t : TypeId) (x : Operand) (_ : o.op = .convert s t x) (h : wpList Tryz.prog ops Q (o :: rest) a w) : wpList Tryz.prog ops Q (o :: rest) a w := h
/-- bytes taken as a string -/
theorem wpList_conv_bytes (hgd : o.guard = none) (x : Operand) (ho : o.op = .convert 62 9 x) (g cap : Nat) (l : List UInt8) (hx : a.eval x = .slice (some ⟨g, 0, none⟩) l.length cap) (hc : ∀ j (hj : j < l.length), w.cell? ⟨g, j, none⟩ = some (.int .u8 (l[j].toNat : Int)))
    (h : wpList Tryz.prog ops Q rest (a.put o.dst (.string ⟨l.toArray⟩)) w) : wpList Tryz.prog ops Q (o :: rest) a w :=
  wpList_plain hgd fun K hK => by
    have hr := run_convert_bytes_back (P := Tryz.prog) w 62 9 5 ⟨g, 0, none⟩ cap l Tryz.underlying62 Tryz.underlying5 Tryz.underlying9 (fun j hj => by
      have e : (⟨g, 0, none⟩ : Addr).add j = ⟨g, j, none⟩ := by unfold Addr.add; by_cases h0 : j = 0 <;> simp [h0]
      rw [e]; exact hc j hj)
    unfold Oper.wp execOp
    simp only [ho, hx, Sem.run_bind, hr, Result.andThen_ok, Sem.run_pure]
    exact hK _ _ h
end
theorem two_bytes {w : World} {g : Nat} {a b : Int} {d0 d1 : UInt8} (h : w.heap[g]? = some (.cells #[.int .u8 a, .int .u8 b] 5 (0, 0))) (h0 : ((d0.toNat : Nat) : Int) = a) (h1 : ((d1.toNat : Nat) : Int) = b) : ∀ j (hj : j < [d0, d1].length), w.cell? ⟨g, j, none⟩ = some (.int .u8 ([d0, d1][j].toNat : Int)) := fun j hj => by
  rw [rowcell h]
  have hj2 : j = 0 ∨ j = 1 := by
    have : j < 2 := hj
    omega
  rcases hj2 with rfl | rfl
  · show some (Value.int .u8 a) = some (Value.int .u8 (d0.toNat : Int))
    rw [h0]
  · show some (Value.int .u8 b) = some (Value.int .u8 (d1.toNat : Int))
    rw [h1]
theorem built_c5 (t : ByteArray) : Tryz.prog.built 58 [(1, .int .i64 5), (2, .string t)] = some (blkCells { blk0 with kind := 5, text := t } (.slice none 0 0)) := by kernel_rfl
theorem digit_nat {n : Nat} (h : n < 10) : ((UInt8.ofNat (48 + n)).toNat : Int) = 48 + (n : Int) := by
  rw [UInt8.toNat_ofNat']
  omega
set_option maxRecDepth 100000 in
set_option maxHeartbeats 4000000 in
theorem stateCounts_any {mem : Addr → Option Value} {v bu : Value} {es : List FctE} {x : Blk} (h : EsM mem v es) (topic : ByteArray) (htop : topic.size ≤ maxLen) (hb : BlkV mem bu x) (w : World) (hs : Sees mem w) :
    Calls Tryz.prog 8 #[v, .string topic, bu] w fun e w' => e = .returned (.bool true) ∧ Below w.heap.size w w' := by
  obtain ⟨xa, xc, rfl, hxi, hxs, hxk, hxid⟩ := hb
  have HXI := Lib.hid hxi
  have HXP := Lib.hid (And.intro hxs (And.intro hxk hxid))
  have HS := Lib.hid hs
  have HE := Lib.hid h
  obtain ⟨va, vc, vb, vo, rfl, _⟩ := h.open_
  obtain ⟨W0, hW0⟩ : ∃ W0, W0 = w.alloc (.cells (blkCells x (.slice xa x.lab.after.length xc)) 58) := ⟨_, rfl⟩
  have hB0 : Below w.heap.size w W0 := by rw [hW0]; exact bel1 _ _
  have HX0 : Hid (W0.heap[w.heap.size]? = some (.cells (blkCells x (.slice xa x.lab.after.length xc)) 58 (0, 0))) := Lib.hid (by rw [hW0]; exact World.alloc_heap_new _ _)
  have HW0 := Lib.hid hW0
  have HB0 := Lib.hid hB0
  have c0 := Lib.hid (sane_any W0)
  clear h hs hxi hxs hxk hxid hB0 hW0
  generalize hna : x.lab.after.length = na at *
  go_enter Tryz.func8, Tryz.ntmps8
  go_upto_region 1 with fail
  rw [← HW0.out]
  go_wp2_with fail
  refine c0.out.mono ?_
  rintro e w0 ⟨rfl, hb0⟩
  have HX1 := Lib.hid ((hb0.block _ (hlt HX0.out)).trans HX0.out)
  have HB1 : Hid (Below w.heap.size w w0) := Lib.hid (HB0.out.trans (hb0.mono HB0.out.size))
  have cS := Lib.hid (short_law HE.out w0 (HS.out.bel HB1.out))
  clear hb0 c0
  go_wp2_with fail
  refine cS.out.mono ?_
  rintro e w1 ⟨ra, rc, fs, rfl, hsh⟩
  have cF := Lib.hid hsh.fold
  have HX2 := Lib.hid ((hsh.bel.block _ (hlt HX1.out)).trans HX1.out)
  have HB2 : Hid (Below w.heap.size w w1) := Lib.hid (HB1.out.trans (hsh.bel.mono HB1.out.size))
  clear hsh cS
  go_wp2_with fail
  refine cF.out.mono ?_
  rintro e w2 ⟨a, c, b, d, s, rfl, hF⟩
  have HX3 := Lib.hid ((hF.bel.block _ (hlt HX2.out)).trans HX2.out)
  have HF := Lib.hid hF
  have HB3 : Hid (Below w.heap.size w w2) := Lib.hid (HB2.out.trans (hF.bel.mono HB2.out.size))
  have HST := Lib.hid hF.st
  obtain ⟨hst, htp⟩ := hF.stys
  have h40 := hF.len40
  obtain ⟨sa, sc, sb, so, hsv, hcap, hm, hsa, hat⟩ := SlM.open_ hst
  injection hsv with e1 e2 e3
  subst e1 e3
  clear e2
  have HSA := Lib.hid hsa
  have HAT := Lib.hid hat
  have hll : s.stories.length ≤ 9223372036854775807 := by omega
  clear hF hst htp hsa hat cF
  go_upto_region 3 with ((with_reducible refine at_sstore 27 _ _ rfl ?_); go_must (refine wpList_snew rfl S_state _ _ rfl rfl _ _ #[.slice a s.stories.length c, .slice b s.tpls.length d] (by simp [Act.eval]) (by simp [Act.eval]) rfl rfl (by simp [Value.oneCell']) ?_))
  obtain ⟨W3, hW3⟩ : ∃ W3, W3 = w2.alloc (.cells #[.slice a s.stories.length c, .slice b s.tpls.length d] 27) := ⟨_, rfl⟩
  rw [← hW3]
  have hb3 : Below w2.heap.size w2 W3 := by rw [hW3]; exact bel1 _ _
  have HN4 : Hid (W3.heap[w2.heap.size]? = some (.cells #[.slice a s.stories.length c, .slice b s.tpls.length d] 27 (0, 0))) := Lib.hid (by rw [hW3]; exact World.alloc_heap_new _ _)
  have HSM : Hid (Sees (memFr w2 (fun k => k < w1.heap.size + 1)) W3) := Lib.hid ((memFr_sees w2 _).bel hb3)
  have HX4 := Lib.hid ((hb3.block _ (hlt HX3.out)).trans HX3.out)
  have HB4 : Hid (Below w.heap.size w W3) := Lib.hid (HB3.out.trans (hb3.mono HB3.out.size))
  clear hW3 hb3
  go_wp2_with fail
  go_loopw [10, 9] (fun i n wr => ∃ k : Nat, k ≤ s.stories.length ∧ i = .int .i64 k ∧ n = .int .i64 (countK s topic k : Nat) ∧ Hid (Below W3.heap.size W3 wr)) (fun i _ _ => s.stories.length - (intOf i).toNat)
  case atStart => exact ⟨0, Nat.zero_le _, rfl, rfl, Lib.hid (Below.refl _ _)⟩
  case round =>
    obtain ⟨k, hk, rfl, rfl, HB⟩ := hrel
    have k0 : wr.cell? ⟨w2.heap.size, 0, none⟩ = some (.slice a s.stories.length c) := rowcell ((HB.out.block _ (hlt HN4.out)).trans HN4.out)
    have hck := countK_le s topic k
    by_cases hlt : k < s.stories.length
    · obtain rfl := HSA.out (by omega)
      have hcs := countK_step (topic := topic) hlt
      have hxat := HAT.out k hlt
      generalize s.stories[k] = y at *
      obtain ⟨_, tv, ev, cv, hcells, hP⟩ := hxat
      have HCL := Lib.hid (cells_see (sz := 8) (HSM.out.bel HB.out) hcells rfl)
      have HTOP := Lib.hid hP.1
      have HCS := Lib.hid hcs
      have HLI : Hid (listedF y = (!y.retr && !y.taken && decide (0 < y.eds.length))) := Lib.hid rfl
      have hel : y.eds.length ≤ 9223372036854775807 := by
        obtain ⟨_, _, _, _, _, h1, h2, _⟩ := SlM.open_ hP.2.1
        unfold maxLen at h2; omega
      obtain ⟨t1, t2, e1, e2, c1, c2, rfl, rfl, rfl⟩ := hP.shape
      obtain ⟨gb, go_, hga, hgl, hgc⟩ := strs_get hP.1
      have HGA := Lib.hid hga
      have HGC := Lib.hid hgc
      have hgl2 : y.topics.length ≤ 9223372036854775807 := by unfold maxLen at hgl; omega
      clear hcells hP hcs hga hgc
      go_upto_region 8 with (first
        | ((with_reducible refine at_sload 34 _ rfl ?_); go_must (refine wpList_smid rfl S_sty _ rfl (by simp [Act.eval]) (styCells y (.slice t1 y.topics.length t2) (.slice e1 y.eds.length e2) (.slice c1 y.corr.length c2)) rfl HCL.out ?_))
        | ((with_reducible refine at_sstore 34 _ _ rfl ?_); go_must (refine wpList_snew rfl S_sty _ _ rfl rfl _ _ (styCells y (.slice t1 y.topics.length t2) (.slice e1 y.eds.length e2) (.slice c1 y.corr.length c2)) (by simp [Act.eval]) (by simp [Act.eval]) rfl rfl (by simp [Value.oneCell']) ?_)))
      obtain ⟨W5, hW5⟩ : ∃ W5, W5 = wr.alloc (.cells (styCells y (.slice t1 y.topics.length t2) (.slice e1 y.eds.length e2) (.slice c1 y.corr.length c2)) 34) := ⟨_, rfl⟩
      rw [← hW5]
      have hb5 : Below wr.heap.size wr W5 := by rw [hW5]; exact bel1 _ _
      have HY5 : Hid (W5.heap[wr.heap.size]? = some (.cells (styCells y (.slice t1 y.topics.length t2) (.slice e1 y.eds.length e2) (.slice c1 y.corr.length c2)) 34 (0, 0))) := Lib.hid (by rw [hW5]; exact World.alloc_heap_new _ _)
      have HB5 : Hid (Below W3.heap.size W3 W5) := Lib.hid (HB.out.trans (hb5.mono HB.out.size))
      clear hW5 hb5
      obtain ⟨T, hT⟩ : ∃ T, T = wr.heap.size := ⟨_, rfl⟩
      rw [← hT] at HY5 ⊢
      clear hT
      go_wp2_with fail
      go_loopw [13, 12] (fun i b wz => ∃ m : Nat, m ≤ y.topics.length ∧ i = .int .i64 m ∧ b = .bool (hasT (y.topics.take m) topic) ∧ Hid (Below W5.heap.size W5 wz)) (fun i _ _ => y.topics.length - (intOf i).toNat)
      case atStart => exact ⟨0, Nat.zero_le _, rfl, rfl, Lib.hid (Below.refl _ _)⟩
      case round =>
        obtain ⟨m, hml, rfl, rfl, HBI⟩ := hrel
        have HY6 := Lib.hid ((HBI.out.block _ (Go.Proofs.YtdkkhmjlamkgdaaGreatDoor.hlt HY5.out)).trans HY5.out)
        have HB6 : Hid (Below W3.heap.size W3 wr) := Lib.hid (HB5.out.trans (HBI.out.mono HB5.out.size))
        have q2 : wr.cell? ⟨T, 2, none⟩ = some (.slice t1 y.topics.length t2) := rowcell HY6.out
        by_cases hlm : m < y.topics.length
        · obtain rfl := HGA.out (by omega)
          have hst := hasT_step (t := topic) hlm
          have HHS := Lib.hid hst
          have cc : wr.cell? ⟨gb, go_ + m, none⟩ = some (.string y.topics[m]) := HSM.out.bel HB6.out _ _ (HGC.out m hlm)
          clear hst
          generalize y.topics[m] = tp at *
          cases hq : hasT (y.topics.take m) topic with
          | true =>
            rw [hq] at HHS
            clear hq
            go_wp2_with fail
            go_roundw
            case rel => exact ⟨m + 1, by omega, by go_num, by rw [HHS.out]; rfl, HBI⟩
            case measure => (try simp only [intOf]); omega
          | false =>
            rw [hq] at HHS
            clear hq
            by_cases htt : tp = topic
            · have HD : Hid (hasT (y.topics.take (m + 1)) topic = true) := Lib.hid (by rw [HHS.out, decide_eq_true htt]; rfl)
              have hee : (tp.toList == topic.toList) = true := by rw [htt]; simp
              clear htt HHS
              go_wp2_with fail
              go_roundw
              case rel => exact ⟨m + 1, by omega, by go_num, by rw [HD.out], HBI⟩
              case measure => (try simp only [intOf]); omega
            · have HD : Hid (hasT (y.topics.take (m + 1)) topic = false) := Lib.hid (by rw [HHS.out, decide_eq_false htt]; rfl)
              have hee : (tp.toList == topic.toList) = false := by
                rw [beq_eq_false_iff_ne]
                intro e
                exact htt (str_ext (by rw [← ByteArray.toList_eq, ← ByteArray.toList_eq]; exact e))
              clear htt HHS
              go_wp2_with fail
              go_roundw
              case rel => exact ⟨m + 1, by omega, by go_num, by rw [HD.out], HBI⟩
              case measure => (try simp only [intOf]); omega
        · have e' : m = y.topics.length := by omega
          subst e'
          rw [List.take_length]
          have hxx : ¬ ((y.topics.length : Int) < (y.topics.length : Int)) := by omega
          have q6 : wr.cell? ⟨T, 6, none⟩ = some (.bool y.retr) := rowcell HY6.out
          have q7 : wr.cell? ⟨T, 7, none⟩ = some (.bool y.taken) := rowcell HY6.out
          have q3 : wr.cell? ⟨T, 3, none⟩ = some (.slice e1 y.eds.length e2) := rowcell HY6.out
          have HNO : Hid ((listedF y && hasT y.topics topic) = false → countK s topic (k + 1) = countK s topic k) := Lib.hid (fun e => by rw [HCS.out, e]; rfl)
          have HYES : Hid ((listedF y && hasT y.topics topic) = true → countK s topic (k + 1) = countK s topic k + 1) := Lib.hid (fun e => by rw [HCS.out, e]; rfl)
          cases hq : hasT y.topics topic with
          | false =>
            have HF0 := Lib.hid (HNO.out (by rw [hq]; simp))
            clear HNO HYES hq
            go_wp2_with fail
            go_roundw
            case rel => exact ⟨k + 1, by omega, by go_num, by rw [HF0.out], HB6⟩
            case measure => (try simp only [intOf]); omega
          | true =>
            rw [hq] at HNO HYES
            clear hq
            generalize hbr : y.retr = br at *
            generalize hbt : y.taken = bt at *
            generalize hn2 : y.eds.length = n2 at *
            cases br
            · cases bt
              · by_cases hz : n2 = 0
                · have HF0 := Lib.hid (HNO.out (by rw [HLI.out, hz]; rfl))
                  subst hz
                  clear HNO HYES HLI
                  go_wp2_with fail
                  go_roundw
                  case rel => exact ⟨k + 1, by omega, by go_num, by rw [HF0.out], HB6⟩
                  case measure => (try simp only [intOf]); omega
                · have HF0 := Lib.hid (HYES.out (by rw [HLI.out]; simp; omega))
                  have hz2 : (0 : Int) < (n2 : Int) := by omega
                  clear HNO HYES HLI hz
                  go_wp2_with fail
                  go_roundw
                  case rel => exact ⟨k + 1, by omega, by go_num, by rw [HF0.out]; rfl, HB6⟩
                  case measure => (try simp only [intOf]); omega
              · have HF0 := Lib.hid (HNO.out (by rw [HLI.out]; rfl))
                clear HNO HYES HLI
                go_wp2_with fail
                go_roundw
                case rel => exact ⟨k + 1, by omega, by go_num, by rw [HF0.out], HB6⟩
                case measure => (try simp only [intOf]); omega
            · have HF0 := Lib.hid (HNO.out (by rw [HLI.out]; rfl))
              clear HNO HYES HLI
              go_wp2_with fail
              go_roundw
              case rel => exact ⟨k + 1, by omega, by go_num, by rw [HF0.out], HB6⟩
              case measure => (try simp only [intOf]); omega
    · have e' : k = s.stories.length := by omega
      subst e'
      have hn : countK s topic s.stories.length = countS s topic := by unfold countK countS; rw [List.take_length]
      rw [hn]
      have hn40 : countS s topic ≤ 40 := by omega
      generalize hN : countS s topic = N at *
      have hxx : ¬ ((s.stories.length : Int) < (s.stories.length : Int)) := by omega
      go_upto_region 15 with fail
      obtain ⟨d0, hd0⟩ : ∃ d0, d0 = UInt8.ofNat (48 + N / 10) := ⟨_, rfl⟩
      obtain ⟨d1, hd1⟩ : ∃ d1, d1 = UInt8.ofNat (48 + N % 10) := ⟨_, rfl⟩
      have HD : Hid (d0 = UInt8.ofNat (48 + N / 10) ∧ d1 = UInt8.ofNat (48 + N % 10)) := Lib.hid ⟨hd0, hd1⟩
      have g0 : ((d0.toNat : Nat) : Int) = 48 + (N : Int) / 10 := by rw [hd0, digit_nat (by omega)]; rfl
      have g1 : ((d1.toNat : Nat) : Int) = 48 + (N : Int) % 10 := by rw [hd1, digit_nat (by omega)]; rfl
      have HG := Lib.hid (And.intro g0 g1)
      clear hd0 hd1 g0 g1
      go_upto_region 16 with ((with_reducible refine at_conv 62 9 _ rfl ?_); go_must (refine wpList_conv_bytes rfl _ rfl wr.heap.size 2 [d0, d1] (by simp [Act.eval]) (two_bytes (World.alloc_heap_new _ _) HG.out.1 HG.out.2) ?_))
      obtain ⟨W7, hW7⟩ : ∃ W7, W7 = wr.alloc (.cells #[.int .u8 (48 + (N : Int) / 10), .int .u8 (48 + (N : Int) % 10)] 5) := ⟨_, rfl⟩
      rw [← hW7]
      have hb7 : Below wr.heap.size wr W7 := by rw [hW7]; exact bel1 _ _
      have HB7 : Hid (Below W3.heap.size W3 W7) := Lib.hid (HB.out.trans (hb7.mono HB.out.size))
      have HBW : Hid (Below w.heap.size w W7) := Lib.hid (HB4.out.trans (HB7.out.mono HB4.out.size))
      have HX7 := Lib.hid ((HB7.out.block _ (Go.Proofs.YtdkkhmjlamkgdaaGreatDoor.hlt HX4.out)).trans HX4.out)
      have HN7 := Lib.hid ((HB7.out.block _ (Go.Proofs.YtdkkhmjlamkgdaaGreatDoor.hlt HN4.out)).trans HN4.out)
      have HS7 := Lib.hid (HSM.out.bel HB7.out)
      have HRES : Hid (bs (resS s ⟨#[101, 110]⟩ { blk0 with kind := 5, text := topic }) = (if N < 10 then ⟨#[d1]⟩ else ⟨#[d0, d1]⟩)) := Lib.hid (by
        unfold resS
        rw [resGo_done _ _ _ (by show (5 : Int) ≠ 3; omega)]
        unfold shown
        rw [if_pos rfl]
        show bs (digs (countS s topic)) = _
        rw [hN]
        unfold digs
        by_cases h10 : N < 10
        · rw [if_pos h10, if_pos h10, HD.out.2, Nat.mod_eq_of_lt h10]; rfl
        · rw [if_neg h10, if_neg h10, HD.out.1, HD.out.2]; rfl)
      clear hW7 hb7
      have b2 : W7.cell? ⟨w.heap.size, 2, none⟩ = some (.string x.text) := rowcell HX7.out
      have z2 : W7.frozen? ⟨w.heap.size, 2, none⟩ = false := rowfree HX7.out
      have hxt : x.text.size ≤ 9223372036854775807 := by
        have := HXP.out.1
        unfold maxLen at this; omega
      by_cases h10 : N < 10
      case' pos =>
        rw [if_pos h10] at HRES
        have h10' : (N : Int) < 10 := by omega
        go_upto_region 19 with fail
        rw [show ({ data := #[d0, d1] } : ByteArray).extract 1 2 = ⟨#[d1]⟩ from rfl]
        generalize ({ data := #[d1] } : ByteArray) = Tw at *
        clear h10'
      case' neg =>
        rw [if_neg h10] at HRES
        have h10' : ¬ ((N : Int) < 10) := by omega
        go_upto_region 19 with fail
        generalize ({ data := #[d0, d1] } : ByteArray) = Tw at *
        clear h10'
      all_goals
        rw [show x.text.extract 0 (min (x.text.size : Int) 300).toNat = cutT x.text from rfl]
        obtain ⟨W8, hW8⟩ : ∃ W8, W8 = W7.setCell ⟨w.heap.size, 2, none⟩ (.string (cutT x.text)) := ⟨_, rfl⟩
        rw [← hW8]
        have HX8 : Hid (W8.heap[w.heap.size]? = some (.cells (blkCells { x with text := cutT x.text } (.slice xa na xc)) 58 (0, 0))) := Lib.hid (by rw [hW8]; exact blk_set HX7.out)
        have hu8 : Upd (fun k => k = w.heap.size) W7 W8 := by rw [hW8]; exact upd_cell _ _ _ _
        have hw12 : w.heap.size < w1.heap.size := Go.Proofs.YtdkkhmjlamkgdaaGreatDoor.hlt HX2.out
        have HN8 : Hid (W8.heap[w2.heap.size]? = some (.cells #[.slice a s.stories.length c, .slice b s.tpls.length d] 27 (0, 0))) := Lib.hid ((hu8.block _ (Go.Proofs.YtdkkhmjlamkgdaaGreatDoor.hlt HN7.out) (fun e => by
          have := Go.Proofs.YtdkkhmjlamkgdaaGreatDoor.hlt HX3.out
          omega)).trans HN7.out)
        have HS8 : Hid (Sees (memFr w2 (fun k => k < w1.heap.size + 1)) W8) := Lib.hid (HS7.out.upd hu8 (fun p u e q => (memFr_lt p u e).2.1 (by omega)))
        have HB8 : Hid (Below w.heap.size w W8) := Lib.hid (HBW.out.trans (hu8.below (fun k e => Nat.le_of_eq e.symm) HBW.out.size))
        have HXI8 : Hid (IntsM mem (.slice xa na xc) x.lab.after) := Lib.hid (HXI.out)
        clear hW8 hu8 b2 z2
        have b1 : W8.cell? ⟨w.heap.size, 1, none⟩ = some (.int .i64 x.kind) := rowcell HX8.out
        by_cases hk3 : x.kind = 3
        case' pos =>
          go_quiet (fail)
          have HBQ : Hid (Below w.heap.size w (W8.drewN nq)) := Lib.hid (below_drewN HB8.out _)
          have HNQ : Hid ((W8.drewN nq).heap[w2.heap.size]? = some (.cells #[.slice a s.stories.length c, .slice b s.tpls.length d] 27 (0, 0))) := Lib.hid HN8.out
          have HSQ : Hid (Sees (memFr w2 (fun k => k < w1.heap.size + 1)) (W8.drewN nq)) := Lib.hid HS8.out
          clear hk3 b1
          generalize W8.drewN nq = Wq at *
        case' neg =>
          by_cases hk5 : x.kind = 5
          case' pos =>
            go_quiet (fail)
            have HBQ : Hid (Below w.heap.size w (W8.drewN nq)) := Lib.hid (below_drewN HB8.out _)
            have HNQ : Hid ((W8.drewN nq).heap[w2.heap.size]? = some (.cells #[.slice a s.stories.length c, .slice b s.tpls.length d] 27 (0, 0))) := Lib.hid HN8.out
            have HSQ : Hid (Sees (memFr w2 (fun k => k < w1.heap.size + 1)) (W8.drewN nq)) := Lib.hid HS8.out
            clear hk3 hk5 b1
            generalize W8.drewN nq = Wq at *
          case' neg =>
            have HK : Hid ((x.kind != 3) = true ∧ (x.kind != 5) = true) := Lib.hid ⟨by simpa using hk3, by simpa using hk5⟩
            have HEQ : Hid (bs (resS s ⟨#[101, 110]⟩ { x with text := cutT x.text }) = cutT x.text) := Lib.hid (by
              unfold resS
              rw [resGo_done _ _ _ (show ({ x with text := cutT x.text } : Blk).kind ≠ 3 from hk3)]
              unfold shown
              rw [if_neg (show ¬ ({ x with text := cutT x.text } : Blk).kind = 5 from hk5)]
              exact bs_data _)
            have HM0 : Hid (W8.drew.heap[w.heap.size]? = some (.cells (blkCells { x with text := cutT x.text } (.slice xa na xc)) 58 (0, 0)) ∧ W8.drew.heap[w2.heap.size]? = some (.cells #[.slice a s.stories.length c, .slice b s.tpls.length d] 27 (0, 0))) := Lib.hid ⟨HX8.out, HN8.out⟩
            clear b1 hk3 hk5
            refine wp_sch (.take 0 (.take 1 (.take 2 (.take 3 (.take 4 (.take 5 (.take 6 (.take 7 (.take 8 (.take 9 (.take 10 (.take 12 (.take 13 (.only 11 (.only 14 (.only 15 .done)))))))))))))))) 1000 (fun W2 => W2.heap[w.heap.size]? = some (.cells (blkCells { x with text := cutT x.text } (.slice xa na xc)) 58 (0, 0)) ∧ W2.heap[w2.heap.size]? = some (.cells #[.slice a s.stories.length c, .slice b s.tpls.length d] 27 (0, 0))) (by kernel_rfl) (by kernel_rfl) HM0.out ?_
            obtain ⟨Wd, hWd⟩ : ∃ Wd, Wd = W8.drew := ⟨_, rfl⟩
            have HBD : Hid (Below w.heap.size w Wd) := Lib.hid (by rw [hWd]; exact HB8.out.drew)
            have HSD : Hid (Sees (memFr w2 (fun k => k < w1.heap.size + 1)) Wd) := Lib.hid (by rw [hWd]; exact HS8.out.drew)
            have HM := HM0
            rw [← hWd] at HM ⊢
            clear hWd HM0
            refine wpSch_take rfl (.pointer (some ⟨w.heap.size, 1, none⟩)) (fun _ _ _ _ h => h) HM.out (by rfl) (fun W2 hW => by go_simp) ?_
            simp only [Act.put, List.setIfInBounds_toArray, List.set_cons_zero, List.set_cons_succ]
            refine wpSch_take rfl (.int .i64 x.kind) (fun _ _ _ _ h => h) HM.out (by rfl) (fun W2 hW => by have q0 : W2.cell? ⟨w.heap.size, 1, none⟩ = some (.int .i64 x.kind) := rowcell hW.1; go_simp) ?_
            simp only [Act.put, List.setIfInBounds_toArray, List.set_cons_zero, List.set_cons_succ]
            refine wpSch_take rfl (.bool true) (fun _ _ _ _ h => h) HM.out (by rfl) (fun W2 hW => by have hk3 := HK.out.1; go_simp) ?_
            simp only [Act.put, List.setIfInBounds_toArray, List.set_cons_zero, List.set_cons_succ]
            refine wpSch_take rfl (.bool true) (fun _ _ _ _ h => h) HM.out (by rfl) (fun W2 hW => by go_simp) ?_
            simp only [Act.put, List.setIfInBounds_toArray, List.set_cons_zero, List.set_cons_succ]
            refine wpSch_take rfl (.pointer (some ⟨w.heap.size, 1, none⟩)) (fun _ _ _ _ h => h) HM.out (by rfl) (fun W2 hW => by go_simp) ?_
            simp only [Act.put, List.setIfInBounds_toArray, List.set_cons_zero, List.set_cons_succ]
            refine wpSch_take rfl (.int .i64 x.kind) (fun _ _ _ _ h => h) HM.out (by rfl) (fun W2 hW => by have q0 : W2.cell? ⟨w.heap.size, 1, none⟩ = some (.int .i64 x.kind) := rowcell hW.1; go_simp) ?_
            simp only [Act.put, List.setIfInBounds_toArray, List.set_cons_zero, List.set_cons_succ]
            refine wpSch_take rfl (.bool true) (fun _ _ _ _ h => h) HM.out (by rfl) (fun W2 hW => by have hk5 := HK.out.2; go_simp) ?_
            simp only [Act.put, List.setIfInBounds_toArray, List.set_cons_zero, List.set_cons_succ]
            refine wpSch_take rfl (.bool true) (fun _ _ _ _ h => h) HM.out (by rfl) (fun W2 hW => by go_simp) ?_
            simp only [Act.put, List.setIfInBounds_toArray, List.set_cons_zero, List.set_cons_succ]
            refine wpSch_take rfl (.bool true) (fun _ _ _ _ h => h) HM.out (by rfl) (fun W2 hW => by go_simp) ?_
            simp only [Act.put, List.setIfInBounds_toArray, List.set_cons_zero, List.set_cons_succ]
            refine wpSch_take rfl (.agg #[.slice a s.stories.length c, .slice b s.tpls.length d]) (fun _ _ _ _ h => h) HM.out (by rfl) (fun W2 hW => by exact exec_smid S_state _ rfl (by simp [Act.eval]) _ rfl (whole_cells hW.2)) ?_
            simp only [Act.put, List.setIfInBounds_toArray, List.set_cons_zero, List.set_cons_succ]
            refine wpSch_take rfl (.agg (blkCells { x with text := cutT x.text } (.slice xa na xc))) (fun _ _ _ _ h => h) HM.out (by rfl) (fun W2 hW => by exact exec_smid S_blk _ rfl (by simp [Act.eval]) _ rfl (whole_cells hW.1)) ?_
            simp only [Act.put, List.setIfInBounds_toArray, List.set_cons_zero, List.set_cons_succ]
            refine wpSch_take rfl (.pointer (some ⟨w.heap.size, 2, none⟩)) (fun _ _ _ _ h => h) HM.out (by rfl) (fun W2 hW => by go_simp) ?_
            simp only [Act.put, List.setIfInBounds_toArray, List.set_cons_zero, List.set_cons_succ]
            refine wpSch_take rfl (.string (cutT x.text)) (fun _ _ _ _ h => h) HM.out (by rfl) (fun W2 hW => by have q0 : W2.cell? ⟨w.heap.size, 2, none⟩ = some (.string (cutT x.text)) := rowcell hW.1; go_simp) ?_
            simp only [Act.put, List.setIfInBounds_toArray, List.set_cons_zero, List.set_cons_succ]
            have cR := Lib.hid (Resolve_any (mem := fun p => Wd.cell? p) (HST.out.mono HSD.out) (by omega) ⟨#[101, 110]⟩ (b := { x with text := cutT x.text }) (bu := .agg (blkCells { x with text := cutT x.text } (.slice xa na xc))) ⟨xa, xc, by rw [← hna], by
              show IntsM _ (.slice xa x.lab.after.length xc) x.lab.after
              rw [hna]
              exact HXI8.out.mono (HS.out.bel HBD.out), Nat.le_trans (cutT_size x.text).2 HXP.out.1, HXP.out.2⟩ Wd (Sees.self Wd))
            rw [HEQ.out] at cR
            refine wpSch_only rfl (fun K hK => ?_)
            go_simp
            refine cR.out.mono ?_
            rintro e Wq ⟨rfl, hb9⟩
            dsimp only
            have HMQ : Hid (Wq.heap[w.heap.size]? = some (.cells (blkCells { x with text := cutT x.text } (.slice xa na xc)) 58 (0, 0)) ∧ Wq.heap[w2.heap.size]? = some (.cells #[.slice a s.stories.length c, .slice b s.tpls.length d] 27 (0, 0))) := Lib.hid ⟨(hb9.block _ (Go.Proofs.YtdkkhmjlamkgdaaGreatDoor.hlt HM.out.1)).trans HM.out.1, (hb9.block _ (Go.Proofs.YtdkkhmjlamkgdaaGreatDoor.hlt HM.out.2)).trans HM.out.2⟩
            have HNQ := Lib.hid HMQ.out.2
            have HBQ : Hid (Below w.heap.size w Wq) := Lib.hid (HBD.out.trans (hb9.mono HBD.out.size))
            have HSQ : Hid (Sees (memFr w2 (fun k => k < w1.heap.size + 1)) Wq) := Lib.hid (HSD.out.bel hb9)
            clear hb9 cR HBD HSD HM
            refine hK _ _ HMQ.out ?_
            clear hK K
            refine wpSch_only rfl (fun K hK => ?_)
            go_simp
            refine hK _ _ HMQ.out ?_
            clear hK K
            refine wpSch_only rfl (fun K hK => ?_)
            go_simp
            refine hK _ _ HMQ.out ?_
            clear hK K
            refine wpSch_done ?_
            clear HMQ
        all_goals
          go_upto_region 21 with fail
          have cT := Lib.hid (Resolve_any (mem := fun p => Wq.cell? p) (HST.out.mono HSQ.out) (by omega) ⟨#[101, 110]⟩ (b := { blk0 with kind := 5, text := topic }) (bu := .agg (blkCells { blk0 with kind := 5, text := topic } (.slice none 0 0))) ⟨none, 0, rfl, IntsM.nil _, htop, okI_d rfl, okI_d rfl⟩ Wq (Sees.self Wq))
          rw [HRES.out] at cT
          go_wp2_with (first
            | ((with_reducible refine at_sload 27 _ rfl ?_); go_must (refine wpList_val (by rfl) _ (exec_smid S_state _ rfl (by simp [Act.eval]) #[.slice a s.stories.length c, .slice b s.tpls.length d] rfl (whole_cells HNQ.out)) ?_))
            | ((with_reducible refine at_sbuild 58 _ rfl ?_); go_must (refine wpList_val (by rfl) _ (exec_sbuild2 58 _ rfl _ (by simp [Act.eval]; with_reducible exact built_c5 topic)) ?_)))
          refine cT.out.mono ?_
          rintro e W9 ⟨rfl, hb9⟩
          have HFN : Hid (Below w.heap.size w W9) := Lib.hid (HBQ.out.trans (hb9.mono HBQ.out.size))
          clear hb9 cT
          go_wp2_with fail
          go_ret
          exact ⟨rfl, HFN.out⟩
end Go.Proofs.YtdkkhmjlamkgdaaGreatDoor
/-
  WHAT IS PROVED HERE: StateCounts returns true and leaves its arguments as they were, for all arguments. Conditions: those of the card (the listed tables of Go's library lie as their text lays them).
-/
namespace Go.Proofs.YtdkkhmjlamkgdaaGreatDoor.fnSCnt
open Go.ChangeShapes Go.WideShapes Go.ChangeAt Go.RowKit Go.ChangeMaps Mg

set_option maxRecDepth 100000 in
theorem contract (H : Type) (enc : TypeId × Value → H) (W : World) (base : Nat) (args : Array Value) (ds gs : List (DataW H)) (before : List MemPlace)
    (hval : ∀ (j : Nat) t v, Tryz.f8.params[j]? = some t → args[j]? = some v → Value.okWide Tryz.prog W .any base t v)
    (hW : DataW.Whole enc Tryz.prog Tryz.f8.params.toList Rows.stateCountsSpec.vars false W args.toList ds gs before) :
    Calls Tryz.prog 8 args W fun e W' => ∃ v, e = .returned v ∧ Rows.stateCountsSpec.post enc Tryz.prog Tryz.f8 false true false false W args v W' := by
  have hread : ∀ t ∈ Tryz.f8.params.toList, Tryz.prog.readableRec t = true ∧ t < Tryz.prog.types.size := by
    have hall : (Tryz.f8.params.toList.all fun t => Tryz.prog.readableRec t && decide (t < Tryz.prog.types.size)) = true := by kernel_rfl
    intro t ht
    have := List.all_eq_true.1 hall t ht
    simpa using this
  have hclose : ∀ W', Below W.heap.size W W' → (Rows.stateCountsSpec.fn H ds).results = [.lit (.bool true)] ∧ (Rows.stateCountsSpec.fn H ds).args = ds ∧ (Rows.stateCountsSpec.fn H ds).vars = [] → Rows.stateCountsSpec.post enc Tryz.prog Tryz.f8 false true false false W args (.bool true) W' :=
    fun W' hg hs => close_law hW rfl (by kernel_rfl) hs hread hg
  obtain ⟨p, q, hA0, hV, rfl, hfz, hnd⟩ := hW
  have hA : DataW.TrodAll enc Tryz.prog W 0 (fun _ => true) true Tryz.f8.params.toList args.toList ds p := hA0
  obtain ⟨rfl, rfl⟩ := trodVars_none hV
  rw [Tryz.params8] at hA hval
  clear hA0 hread hfz hnd hV
  obtain ⟨v0, vs0, d0, ds0, p0, q0, hargs, rfl, rfl, h0, r0⟩ := trodAll_cons hA
  obtain ⟨v1, vs1, d1, ds1, p1, q1, rfl, rfl, rfl, h1, r1⟩ := trodAll_cons r0
  obtain ⟨v2, vs2, d2, ds2, p2, q2, rfl, rfl, rfl, h2, r2⟩ := trodAll_cons r1
  obtain ⟨rfl, rfl, rfl⟩ := trodAll_nil r2
  obtain rfl : args = #[v0, v1, v2] := by cases args; simp_all
  obtain ⟨l0, b0⟩ := facts_in (hval 0 22 v0 rfl rfl) h0
  obtain ⟨x1, rfl, k1⟩ := string_in (hval 1 9 v1 rfl rfl) h1
  obtain ⟨x2, b2⟩ := block_in (hval 2 58 v2 rfl rfl) h2
  refine (stateCounts_any b0 x1 k1 b2 W (Sees.self W)).mono fun e W' ⟨he, hg⟩ => ?_
  exact ⟨_, he, hclose W' hg ⟨rfl, rfl, rfl⟩⟩

theorem laid_met (os : Os) : laidMet Tryz.prog Rows.stateCountsRow.laid ((laidWorld os).forCall (fun _ _ => 0) ⟨#[], #[.slice none 0 0, .string ⟨#[]⟩, .agg #[.int .i64 0, .int .i64 0, .string ⟨#[]⟩, .int .i64 0, .int .i64 0, .int .i64 0, .slice none 0 0, .int .i64 0, .int .i64 0]], []⟩).memory :=
  laidMet_of_run' 8 (by kernel_rfl) (by kernel_rfl)
theorem reads (os : Os) {H : Type} (enc : TypeId × Value → H) : ∃ places, DataW.whole enc Tryz.prog ((laidWorld os).forCall (fun _ _ => 0) ⟨#[], #[.slice none 0 0, .string ⟨#[]⟩, .agg #[.int .i64 0, .int .i64 0, .string ⟨#[]⟩, .int .i64 0, .int .i64 0, .int .i64 0, .slice none 0 0, .int .i64 0, .int .i64 0]], []⟩).memory Tryz.f8.params.toList Rows.stateCountsSpec.vars false (#[Value.slice none 0 0, .string ⟨#[]⟩, .agg #[.int .i64 0, .int .i64 0, .string ⟨#[]⟩, .int .i64 0, .int .i64 0, .int .i64 0, .slice none 0 0, .int .i64 0, .int .i64 0]] : Array Value).toList 8 = some ([.nil, .lit (.string []), .agg [.lit (.int .i64 0), .lit (.int .i64 0), .lit (.string []), .lit (.int .i64 0), .lit (.int .i64 0), .agg [.lit (.int .i64 0), .nil, .lit (.int .i64 0), .lit (.int .i64 0)]]], [], places) :=
  ⟨[], by kernel_rfl⟩

set_option maxRecDepth 100000 in
theorem lifted (os : Os) (started : os.Started) (H : Type) (enc : TypeId × Value → H) (F : Stop.Interp) :
    ReturnsInHanded {} Tryz.checked os 8 .any ((OpenSpec.ofChange Rows.stateCountsSpec).preRow enc Tryz.prog Tryz.f8 Rows.stateCountsRow.domain false Rows.stateCountsRow.laid) (((OpenSpec.ofChange Rows.stateCountsSpec).at F).post enc Tryz.prog Tryz.f8 false true false false) := by
  obtain ⟨places, hx⟩ := reads os enc
  refine returnsInHanded_of_row (C := Tryz.checked) (s := OpenSpec.ofChange Rows.stateCountsSpec) own started (by kernel_rfl) Tryz.func8
    (witness_row_at (enc := enc) (C := Tryz.checked) false (laidWorld os) #[.slice none 0 0, .string ⟨#[]⟩, .agg #[.int .i64 0, .int .i64 0, .string ⟨#[]⟩, .int .i64 0, .int .i64 0, .int .i64 0, .slice none 0 0, .int .i64 0, .int .i64 0]] rfl (by kernel_rfl) (by kernel_rfl) (by kernel_rfl)
      (OpenSpec.preRow_of_cond 8 hx (by kernel_rfl) (fun k hk => by cases hk) (by kernel_rfl) (laid_met os))) ?_
  intro W base args ds gs before hval hW _ _ _ _ _ _
  exact contract H enc W base args ds gs before hval hW

theorem j1 : (Rows.stateCountsRow.inPlace == Tryz.prog.inPlace 8) = true := by kernel_rfl
theorem j2 : (Rows.stateCountsRow.unfollowed == Tryz.prog.unfollowed 8) = true := by kernel_rfl
theorem j3 : (Rows.stateCountsRow.recurses == Tryz.prog.recurses 8) = true := by kernel_rfl
theorem j4 : (Rows.stateCountsRow.named == Tryz.prog.varsNamed 8) = true := by kernel_rfl
theorem j5 : joinedRest Tryz.prog Tryz.f8 (OpenSpec.ofChange Rows.stateCountsSpec).bare Rows.stateCountsRow = true := by kernel_rfl
theorem j6 : false = Rows.stateCountsRow.goesBy Tryz.prog := by kernel_rfl
theorem j7 : Rows.stateCountsRow.wfByText (OpenSpec.ofChange Rows.stateCountsSpec) = true := by kernel_rfl
theorem closed : joinedFacts Tryz.prog 8 Tryz.f8 (OpenSpec.ofChange Rows.stateCountsSpec).bare Rows.stateCountsRow = true := joined_of j1 j2 j3 j4 pr_heard pr_enter pr_lifts pr_make j5
theorem named : Tryz.prog.funcNamed Rows.stateCountsRow.func = some 8 := by kernel_rfl

theorem said : Rows.StateCountsSaid :=
  OpenClaim.holds_of_cond 8 Tryz.f8 rfl rfl rfl rfl rfl rfl rfl ⟨rfl, rfl, rfl, rfl, rfl⟩ rfl rfl rfl rfl rfl named Tryz.func8 closed
    (of_decide_eq_true (by kernel_rfl)) (by unfold Func.isWrapper; first | (rw [if_pos (by decide +kernel)]; kernel_rfl) | (rw [if_neg (by decide +kernel)]; exact ⟨rfl, rfl⟩))
    (fun os started H enc _ F => by rw [OpenClaim.pre_eq_preRow]; exact lifted os started H enc F)

/-- No parameter wants a stand-in; the program's own looks are off: what both cards ask. -/
theorem plain (f : FuncId) (fn : Func) (hf : Tryz.pinned.checked.prog.funcNamed "copydesk/copydesklaw07.StateCounts" = some f) (hfn : Tryz.pinned.checked.prog.funcs[f]? = some fn) :
    false = Tryz.pinned.checked.prog.looks [] ∧ ∀ (j : Nat) t, fn.params[j]? = some t → Tryz.pinned.checked.prog.wantsStandIn t = false := by
  obtain rfl : f = 8 := Option.some.inj ((show Tryz.prog.funcNamed "copydesk/copydesklaw07.StateCounts" = some 8 by kernel_rfl).symm.trans hf) |>.symm
  obtain rfl : fn = Tryz.f8 := (Option.some.inj (Tryz.func8.symm.trans hfn)).symm
  refine ⟨by kernel_rfl, fun j t ht => ?_⟩
  have hall : Tryz.f8.params.all (fun t => !Tryz.prog.wantsStandIn t) = true := by kernel_rfl
  have := Array.all_eq_true'.1 hall t (Array.mem_of_getElem? ht)
  exact (by simpa using this : Tryz.prog.wantsStandIn t = false)

/-- ████ THE CARD ████ -/
theorem card : Rows.StateCountsCardSaid :=
  Claim7.holds_tied_plain_at .later [] _ _ _ _ said (fun _ h => by cases h) j7 (fun _ h => by cases h) stateCounts_row_tie rfl ⟨rfl, rfl⟩ (by kernel_rfl) rfl plain j6
end Go.Proofs.YtdkkhmjlamkgdaaGreatDoor.fnSCnt

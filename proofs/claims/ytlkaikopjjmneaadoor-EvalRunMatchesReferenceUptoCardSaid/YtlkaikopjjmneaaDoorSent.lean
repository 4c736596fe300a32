/-
  WHAT IS PROVED HERE: block.Sentences returns the sentences of a text, as a plain function on lists of bytes says. Condition: the text has at most 2^40 bytes.
-/
import Derived.Test.YtlkaikopjjmneaaDoorStr3
import Derived.Test.YtlkaikopjjmneaaDoorScope
import Derived.RangeFuncNested
import Derived.RangeFuncBound
import Derived.RangeFuncCalls
import Derived.RangeFuncLeaves
import Derived.Shelf.Abstract
import Derived.Shelf.RegionOpen
import Derived.OwnWalkIn
import Derived.TacticsInMore
import Derived.LoopNIn
import Derived.LoopIn
namespace Go.Proofs.YtlkaikopjjmneaaDoor
open Go.RowKit Go.Shelf

/-- the byte at a place, as a number -/
def bAt (s : ByteArray) (j : Nat) : Nat := (s.data.toList.getD j 0).toNat
def initB (s : ByteArray) (n : Nat) : Bool := match n with
  | 0 => false
  | 1 => decide (65 ≤ bAt s 0 ∧ bAt s 0 ≤ 90)
  | n + 2 => decide ((65 ≤ bAt s (n + 1) ∧ bAt s (n + 1) ≤ 90) ∧ bAt s n = 32)
theorem ret_bool {a b : Bool} (h : a = b) : Ending.returned (.bool a) = .returned (.bool b) := by rw [h]

theorem bAt_get (s : ByteArray) (j : Nat) (h : j < s.size) : bAt s j = s[j].toNat := by
  unfold bAt; rw [List.getD_eq_getElem?_getD, list_get s j h]; rfl

set_option maxHeartbeats 400000 in
theorem initial_any (s : ByteArray) (n : Nat) (w : World) (hs : s.size ≤ 1099511627776) (hn : n ≤ s.size) :
    Calls Tryd.prog 67 #[.string s, .int .i64 n] w fun e w' => e = .returned (.bool (initB s n)) ∧ w = w' := by
  rcases n with _ | _ | n
  · go_enter Tryd.func67, Tryd.ntmps67
    go_wp2
    go_ret
    exact ⟨rfl, rfl⟩
  · have h0 := bAt_get s 0 (by omega)
    have H0 := Lib.hid h0
    clear h0
    go_enter Tryd.func67, Tryd.ntmps67
    go_wp2
    all_goals
      go_ret
      refine ⟨ret_bool ?_, rfl⟩
      simp only [initB, H0.out]
      symm
      first | (rw [decide_eq_false_iff_not]; omega) | (rw [decide_eq_true_eq]; omega)
  · have h0 := bAt_get s n (by omega)
    have h1 := bAt_get s (n + 1) (by omega)
    have H0 := Lib.hid h0
    have H1 := Lib.hid h1
    clear h0 h1
    go_enter Tryd.func67, Tryd.ntmps67
    go_wp2
    all_goals
      go_ret
      refine ⟨ret_bool ?_, rfl⟩
      simp only [initB, H0.out, H1.out]
      first
        | (symm; rw [decide_eq_false_iff_not]; omega)
        | (rw [Bool.eq_iff_iff]; simp only [Bool.or_eq_true, beq_iff_eq, decide_eq_true_eq]; omega)

def endsAt (s : ByteArray) (k : Nat) : Bool :=
  ((decide (bAt s k = 46) && !initB s k) || decide (bAt s k = 33) || decide (bAt s k = 63)) && (decide (k + 1 = s.size) || decide (bAt s (k + 1) = 32))
theorem endsAt_iff (s : ByteArray) (k : Nat) : endsAt s k = true ↔ ((bAt s k = 46 ∧ initB s k = false) ∨ bAt s k = 33 ∨ bAt s k = 63) ∧ (k + 1 = s.size ∨ bAt s (k + 1) = 32) := by
  unfold endsAt
  cases initB s k <;> simp [or_assoc]
def piece (s : ByteArray) (a b : Nat) : List UInt8 := Lib.trimB (s.extract a b).data.toList 32
def sentGo (s : ByteArray) : Nat → Nat → List (List UInt8)
  | 0, start => if piece s start s.size = [] then [] else [piece s start s.size]
  | n + 1, start => if endsAt s (s.size - (n + 1)) then piece s start (s.size - (n + 1) + 1) :: sentGo s n (s.size - (n + 1) + 1) else sentGo s n start
def sentF (s : ByteArray) : List (List UInt8) := sentGo s s.size 0
theorem sentGo_step (s : ByteArray) (k start : Nat) (h : k < s.size) :
    sentGo s (s.size - k) start = if endsAt s k then piece s start (k + 1) :: sentGo s (s.size - (k + 1)) (k + 1) else sentGo s (s.size - (k + 1)) start := by
  obtain ⟨m, hm⟩ : ∃ m, s.size - k = m + 1 := ⟨s.size - k - 1, by omega⟩
  have e1 : s.size - (m + 1) = k := by omega
  have e2 : s.size - (k + 1) = m := by omega
  rw [hm, sentGo, e1, e2]

attribute [local go_sem] Oper.semAt_some

theorem trim_ext (s : ByteArray) (i j : Nat) (w : World) (hs : s.size ≤ 1099511627776) (m : Nat) :
    CallsIn Fence.wide m Tryd.prog 29 #[.string (s.extract i j), .string ⟨#[32]⟩] w fun e w' => e = .returned (.string (bs (piece s i j))) ∧ w.grownBy w' none ∧ (∀ a, w'.cell? a = w.cell? a) :=
  callsIn_wide.2 ((Tryd.strings_Trim_one (s.extract i j) 32 (by decide) w (by simp; omega)).mono fun e w' h => ⟨h.1, by
    rcases h.2 with e | e
    · subst e; exact ⟨⟨rfl, rfl, rfl, Nat.le_refl _, fun _ _ _ => rfl⟩, fun _ => rfl⟩
    · subst e; exact ⟨⟨rfl, rfl, rfl, Nat.le_refl _, fun _ _ _ => rfl⟩, fun _ => rfl⟩⟩)
theorem initial_wide (s : ByteArray) (n : Nat) (w : World) (hs : s.size ≤ 1099511627776) (hn : n ≤ s.size) (m : Nat) :
    CallsIn Fence.wide m Tryd.prog 67 #[.string s, .int .i64 n] w fun e w' => e = .returned (.bool (initB s n)) ∧ w = w' := callsIn_wide.2 (initial_any s n w hs hn)

set_option maxRecDepth 100000 in
set_option maxHeartbeats 2000000 in
theorem sents1 (n l Bn n₀ : Nat) (s : ByteArray) (hs : s.size ≤ 1099511627776) (hBn : Bn < n₀) (J Jx : List (List UInt8) → World → Prop)
    (hY : ∀ pre x W, J pre W → pre.length < s.size + 1 → YieldAt Fence.wide (n - 1) Tryd.prog l #[encStr x] W fun e W' =>
      (e = .returned (.bool true) ∧ J (pre ++ [x]) W' ∧ Below n₀ W W') ∨ (e = .returned (.bool false) ∧ Jx (pre ++ [x]) W'))
    (W : World) (hJ : AbidesFrom W.heap.size J) (hc : W.cell? ⟨Bn, 0, none⟩ = some (.string s)) (h0 : J [] W) :
    CallsIn Fence.wide n Tryd.prog 66 #[.func (.yield l) #[] #[], .pointer (some ⟨Bn, 0, none⟩)] W fun e W' => (∃ v, e = .returned v) ∧
      ((∃ ys, ys = sentF s ∧ J ys W') ∨ (∃ pre, True ∧ Jx pre W')) := by
  refine callsIn_of_wp Tryd.func66 rfl trivial ?_ rfl
  simp only [Tryd.ntmps66, List.size_toArray, List.length_cons, List.length_nil, Nat.reduceAdd, Nat.reduceSub, Array.replicate_succ, Array.replicate_zero, List.push_toArray, List.append_toArray, List.nil_append, List.cons_append]
  refine wpIn_scope_straight ?_
  gi_wp2_with fail
  refine wpIn_label ?_
  gi_wp2_with fail
  gi_loopw [3, 4] (fun st i wr => ∃ (k start : Nat) (pre : List (List UInt8)), k ≤ s.size ∧ start ≤ k ∧ st = .int .i64 start ∧ i = .int .i64 k ∧ pre.length ≤ k ∧ Hid (pre ++ sentGo s (s.size - k) start = sentF s) ∧ wr.cell? ⟨Bn, 0, none⟩ = some (.string s) ∧ J pre wr)
    (fun _ i _ => s.size - (intOf i).toNat)
  case atStart => exact ⟨0, 0, [], by omega, by omega, rfl, rfl, by simp, Lib.hid rfl, hc, h0⟩
  case round =>
    obtain ⟨k, start, pre, hk, hst, rfl, rfl, hpl, HP, hcw, hJs⟩ := hrel
    by_cases hlt : k < s.size
    · have hstep := sentGo_step s k start hlt
      have HS := Lib.hid hstep
      have hbk := bAt_get s k hlt
      have HB := Lib.hid hbk
      have hj0 := fun w2 (hg : wr.grownBy w2 none) => hJ pre wr w2 none hJs hg (fun r h => by cases h)
      have HJ0 := Lib.hid hj0
      have HY := Lib.hid hY
      clear hstep hbk hj0 hY
      have HC0 := Lib.hid hcw
      have hE1 : k + 1 < s.size → bAt s (k + 1) = (s.data.toList.getD (k + 1) 0).toNat := fun _ => rfl
      have hN : endsAt s k = false → Hid (pre ++ sentGo s (s.size - (k + 1)) start = sentF s) := fun h => by
        have := HP.out; rw [HS.out, h] at this; exact this
      have hY1 : endsAt s k = true → Hid ((pre ++ [piece s start (k + 1)]) ++ sentGo s (s.size - (k + 1)) (k + 1) = sentF s) := fun h => by
        have := HP.out; rw [HS.out, h] at this; rw [List.append_assoc]; exact this
      have HN := Lib.hid hN
      have HY1 := Lib.hid hY1
      have hlast : s.size ≤ k + 1 → k + 1 = s.size := fun h => by omega
      have HL := Lib.hid hlast
      clear hE1 hN hY1 hlast
      by_cases hk1 : k + 1 < s.size
      · have hb1 := bAt_get s (k + 1) hk1
        have HB1 := Lib.hid hb1
        have hne1 : k + 1 ≠ s.size := by omega
        have HNE := Lib.hid hne1
        clear hb1 hne1
        gi_wp2_with (first | (refine ⟨trivial, (fun h => by cases h), ?_⟩; gi_at_call 67; refine (initial_wide s k _ hs (by omega) _).mono ?_; rintro e w2 ⟨rfl, rfl⟩) | (refine ⟨trivial, (fun h => by cases h), ?_⟩; gi_at_call 29; refine (trim_ext s start (k + 1) _ hs _).mono ?_; rintro e w2 ⟨rfl, hg2, hc2⟩; have hJ2 := HJ0.out w2 hg2; have HC2 := Lib.hid hc2; clear hc2; obtain ⟨fn, tmps, assign, body, hy, hR⟩ := HY.out pre (piece s start (k + 1)) w2 hJ2 (by omega); change (Instr.yield l #[.string (bs (piece s start (k + 1)))]).run _ _ = _ at hy) | (refine ⟨(fun h => by cases h), ?_⟩; refine hR.mono ?_; rintro e W3 (⟨rfl, hJ3, hk3⟩ | ⟨rfl, hJx3⟩)))
        all_goals simp only [beq_iff_eq, beq_eq_false_iff_ne, ne_eq, bne_iff_ne, bne_eq_false_iff_eq] at *
        all_goals first
          | (have hE : endsAt s k = true := (endsAt_iff s k).2 (by rw [HB.out]; first | exact ⟨.inl ⟨by omega, by assumption⟩, .inr (by rw [HB1.out]; omega)⟩ | exact ⟨.inr (by omega), .inr (by rw [HB1.out]; omega)⟩)
             first
               | (go_roundw
                  case rel => exact ⟨k + 1, k + 1, pre ++ [piece s start (k + 1)], by omega, by omega, by go_num, by go_num, by simp; omega, HY1.out hE, (hk3.cell (p := ⟨Bn, 0, none⟩) hBn).trans ((HC2.out _).trans HC0.out), hJ3⟩
                  case measure => simp [intOf]; omega)
               | (rw [noGoto_ret]
                  refine bodyPost_ret (results_none rfl _ _ _) rfl ?_
                  exact ⟨⟨_, rfl⟩, .inr ⟨_, trivial, hJx3⟩⟩))
          | (have hE : endsAt s k = false := Bool.eq_false_iff.2 (fun h => by
               have hh := (endsAt_iff s k).1 h
               rw [HB.out] at hh
               obtain ⟨h1, h2⟩ := hh
               rw [HB1.out] at h2
               rcases h1 with ⟨h3, h4⟩ | h3
               · first | omega | (exfalso; simp_all; done)
               · omega)
             go_roundw
             case rel => exact ⟨k + 1, start, pre, by omega, by omega, by go_num, by go_num, by omega, HN.out hE, HC0.out, hJs⟩
             case measure => simp [intOf]; omega)
      · have HLL := HL.out (by omega)
        have HE := Lib.hid HLL
        clear HLL
        gi_wp2_with (first | (refine ⟨trivial, (fun h => by cases h), ?_⟩; gi_at_call 67; refine (initial_wide s k _ hs (by omega) _).mono ?_; rintro e w2 ⟨rfl, rfl⟩) | (refine ⟨trivial, (fun h => by cases h), ?_⟩; gi_at_call 29; refine (trim_ext s start (k + 1) _ hs _).mono ?_; rintro e w2 ⟨rfl, hg2, hc2⟩; have hJ2 := HJ0.out w2 hg2; have HC2 := Lib.hid hc2; clear hc2; obtain ⟨fn, tmps, assign, body, hy, hR⟩ := HY.out pre (piece s start (k + 1)) w2 hJ2 (by omega); change (Instr.yield l #[.string (bs (piece s start (k + 1)))]).run _ _ = _ at hy) | (refine ⟨(fun h => by cases h), ?_⟩; refine hR.mono ?_; rintro e W3 (⟨rfl, hJ3, hk3⟩ | ⟨rfl, hJx3⟩)))
        all_goals simp only [beq_iff_eq, beq_eq_false_iff_ne, ne_eq] at *
        all_goals first
          | (have hE : endsAt s k = true := (endsAt_iff s k).2 (by rw [HB.out]; first | exact ⟨.inl ⟨by omega, by assumption⟩, .inl (by omega)⟩ | exact ⟨.inr (by omega), .inl (by omega)⟩)
             first
               | (go_roundw
                  case rel => exact ⟨k + 1, k + 1, pre ++ [piece s start (k + 1)], by omega, by omega, by go_num, by go_num, by simp; omega, HY1.out hE, (hk3.cell (p := ⟨Bn, 0, none⟩) hBn).trans ((HC2.out _).trans HC0.out), hJ3⟩
                  case measure => simp [intOf]; omega)
               | (rw [noGoto_ret]
                  refine bodyPost_ret (results_none rfl _ _ _) rfl ?_
                  exact ⟨⟨_, rfl⟩, .inr ⟨_, trivial, hJx3⟩⟩))
          | (have hE : endsAt s k = false := Bool.eq_false_iff.2 (fun h => by
               have hh := (endsAt_iff s k).1 h
               rw [HB.out] at hh
               obtain ⟨h1, h2⟩ := hh
               rcases h1 with ⟨h3, h4⟩ | h3
               · first | omega | (exfalso; simp_all; done)
               · omega)
             go_roundw
             case rel => exact ⟨k + 1, start, pre, by omega, by omega, by go_num, by go_num, by omega, HN.out hE, HC0.out, hJs⟩
             case measure => simp [intOf]; omega)
    · have e : k = s.size := by omega
      subst e
      have hj0 := fun w2 (hg : wr.grownBy w2 none) => hJ pre wr w2 none hJs hg (fun r h => by cases h)
      have HJ0 := Lib.hid hj0
      have HY := Lib.hid hY
      have hz : s.size - s.size = 0 := Nat.sub_self _
      rw [hz] at HP
      have HP' : Hid (pre ++ (if piece s start s.size = [] then [] else [piece s start s.size]) = sentF s) := HP
      clear hj0 hY hz HP
      gi_wp2_with (refine ⟨trivial, (fun h => by cases h), ?_⟩; gi_at_call 29; refine (trim_ext s start s.size _ hs _).mono ?_; rintro e w2 ⟨rfl, hg2, hc2⟩; have hJ2 := HJ0.out w2 hg2; clear hc2; obtain ⟨fn, tmps, assign, body, hy, hR⟩ := HY.out pre (piece s start s.size) w2 hJ2 (by omega); change (Instr.yield l #[.string (bs (piece s start s.size))]).run _ _ = _ at hy)
      · have hne : piece s start s.size ≠ [] := by
          intro e
          have : (!(bs (piece s start s.size)).toList.isEmpty) = true := by assumption
          rw [e] at this; simp [ByteArray.toList_eq] at this
        refine ⟨(fun h => by cases h), ?_⟩
        refine hR.mono ?_
        have HR : Hid (pre ++ [piece s start s.size] = sentF s) := by have := HP'.out; rwa [if_neg hne] at this
        rintro e W3 (⟨rfl, hJ3, hk3⟩ | ⟨rfl, hJx3⟩)
        · gi_wp2
          rw [noGoto_normal]
          refine bodyPost_end (results_none rfl _ _ _) rfl ?_
          exact ⟨⟨_, rfl⟩, .inl ⟨_, HR.out, hJ3⟩⟩
        · gi_wp2
          rw [noGoto_normal]
          refine bodyPost_end (results_none rfl _ _ _) rfl ?_
          exact ⟨⟨_, rfl⟩, .inr ⟨_, trivial, hJx3⟩⟩
      · have he : piece s start s.size = [] := by
          have : (!(bs (piece s start s.size)).toList.isEmpty) = false := by assumption
          simpa [ByteArray.toList_eq] using this
        have HR : Hid (pre = sentF s) := by have := HP'.out; rw [if_pos he, List.append_nil] at this; exact this
        rw [noGoto_normal]
        refine bodyPost_end (results_none rfl _ _ _) rfl ?_
        exact ⟨⟨_, rfl⟩, .inl ⟨_, HR.out, hJ2⟩⟩
end Go.Proofs.YtlkaikopjjmneaaDoor

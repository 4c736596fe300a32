/-
  WHAT IS PROVED HERE: slices.AppendSeq, slices.Collect and block.Sentences: a slice of strings that holds the sentences of a text. Condition: the text has at most 2^40 bytes.
-/
import Derived.Test.YtlkaikopjjmneaaDoorSent
import Derived.RangeFuncBox
import Derived.Maps.AppendAt
namespace Go.Proofs.YtlkaikopjjmneaaDoor
open Go.RowKit Go.Shelf
attribute [local go_sem] Oper.semAt_some

theorem sents_stops (n : Nat) (Bn n₀ : Nat) (s : ByteArray) (w : World) (hs : s.size ≤ 1099511627776) (hBn : Bn < n₀) (hn₀ : n₀ ≤ w.heap.size) (hc : w.cell? ⟨Bn, 0, none⟩ = some (.string s)) :
    SeqStopsK Fence.wide n Tryd.prog 66 #[.pointer (some ⟨Bn, 0, none⟩)] (fun x : List UInt8 => #[encStr x]) (Below n₀) (fun ys => ys = sentF s) (fun _ => True) (s.size + 1) w :=
  fun l J Jx W hW hJ _ hY h0 => sents1 n l Bn n₀ s hs hBn J Jx hY W hJ ((hW.cell (p := ⟨Bn, 0, none⟩) (Nat.lt_of_lt_of_le hBn hn₀)).trans hc) h0

theorem info9 : (Tryd.prog.info? 9).map (fun i => (i.zero, i.size, i.bytes)) = some (some (.string .empty), 1, 16) := by kernel_rfl

set_option maxRecDepth 100000 in
set_option maxHeartbeats 2000000 in
theorem appendSeq_wide (n : Nat) (s : ByteArray) (hs : s.size ≤ 1099511627776) (Bn : Nat) (w : World) (hBn : Bn < w.heap.size) (hc : w.cell? ⟨Bn, 0, none⟩ = some (.string s)) :
    CallsIn Fence.wide n Tryd.prog 65 #[.slice none 0 0, .func (.func 66) #[] #[.pointer (some ⟨Bn, 0, none⟩)]] w fun e W' => ∃ v, e = .returned v ∧
      W'.ownsRow w.heap.size 9 1 v (sentF s).length ((sentF s).map encStr) ∧ (v = .slice none 0 0 ↔ sentF s = []) ∧ Below w.heap.size w W' := by
  refine callsIn_wide.2 ((callsIn_wide (n := 5)).1 ?_)
  obtain ⟨i0, hi, hz0, hz1, hz2⟩ := info_parts info9
  refine callsIn_of_wp_marks Tryd.func65 rfl trivial ?_ rfl
  simp only [Tryd.ntmps65, List.size_toArray, List.length_cons, List.length_nil, Nat.reduceAdd, Nat.reduceSub, Array.replicate_succ, Array.replicate_zero, List.push_toArray, List.append_toArray, List.nil_append, List.cons_append]
  gi_wp2
  have bO := Boxed.new w 44 (.slice none 0 0)
  have hB0 : Below w.heap.size w (w.alloc (.cells #[.slice none 0 0] 44)) := (Below.refl _ w).alloc (Nat.le_refl _) _
  refine wpIn_rangeFunc_ownG rfl (by omega) (gf := 66) (lb := #[.pointer (some ⟨Bn, 0, none⟩)]) rfl trivial (enters_of Tryd.func66 (by kernel_rfl) rfl)
    (sents_stops _ Bn w.heap.size s _ hs hBn (by simp) ((hB0.cell (p := ⟨Bn, 0, none⟩) hBn).trans hc)) belowK_t (belowK_b (by simp)) (Below.refl _ _) (fun _ => rfl)
    (fun pre W => (∃ v, Boxed W w.heap.size 44 v ∧ W.ownsRow w.heap.size 9 1 v pre.length (pre.map encStr) ∧ (v = .slice none 0 0 ↔ pre = [])) ∧ Below w.heap.size w W)
    (fun _ _ _ => False)
    (OwnFrom.and (Own.from (holdsRow_own w.heap.size w.heap.size 44 9 1 (fun pre => pre.length) (fun pre => pre.map encStr) (fun pre v => v = .slice none 0 0 ↔ pre = [])) _) (ownFrom_below (Nat.le_refl _) (by simp)))
    (fun _ _ _ _ _ hs _ _ => hs)
    ⟨⟨_, bO, World.ownsRow_nil _ _ _ _, by simp⟩, hB0⟩
    (fun x => { tmps := #[.slice none 0 0, .func (.func 66) #[] #[.pointer (some ⟨Bn, 0, none⟩)], .pointer (some ⟨w.heap.size, 0, none⟩), undef, .slice none 0 0, encStr x, .func (.func 66) #[] #[.pointer (some ⟨Bn, 0, none⟩)], encStr x, undef, undef, undef, undef, undef], defers := [] }) ?assign ?body ?done ?stop
  case assign =>
    intro l x W K hK
    gi_wp2
    exact hK
  case body =>
    rintro l pre x W ⟨⟨v, hv, hrow, hnil⟩, hB⟩ hlt
    have hc := hv.cell
    gi_wp2_with (gi_at_builtin; refine wpListIn_append_own _ rfl _ _ 44 rfl w.heap.size 9 i0 (.string .empty) 1 16 Tryd.underlying44 hi hz0 hz1 hz2 rfl (by decide) _ _ _ rfl (hrow.alloc _) ⟨W.heap.size, 0, none⟩ 1 1 [encStr x] rfl rfl (cell_one_new _ _ _) (by simp [Value.oneCell']) (by unfold maxLen; omega) (by omega) (by have := hB.size; simp; omega) ?_; intro v' w1 hown' hgrow _; obtain ⟨g', cap', rfl⟩ := ownsRow_succ hown'; obtain ⟨hv1, hv2, hr2, hk2, hb2⟩ := hv.appended (by decide) hrow hB.size (Nat.le_refl _) hown' hgrow; have hc1 := hv1.cell; have hf1 := hv1.frozen)
    exact ⟨hk2.from _, hb2, ⟨_, hv2, by simpa using hr2, by simp⟩, hB.trans hb2⟩
  case done =>
    rintro D ys W hD rfl ⟨⟨v, hv, hrow, hnil⟩, hB⟩ hK
    have hc := hv.cell
    gi_wp2
    refine ⟨by simp, .inl ⟨_, _, rfl, run_takeDeferred hK, ?_⟩⟩
    exact ⟨_, results_tmp rfl _ _ _, v, rfl, ownsRow_putObj hrow _ hK rfl, hnil, hB.trans (belowK_b (w := w) (Nat.le_refl _) W D _ _ (by simp at hD; omega) hK rfl rfl)⟩
  case stop =>
    rintro D c pre W _ _ h _
    exact h.elim

/-- v is a slice of strings that holds the lists, nil or in a block from B on -/
def SRow (w : World) (B : Nat) (v : Value) (l : List (List UInt8)) : Prop := w.ownsRow B 9 1 v l.length (l.map encStr)
def SentPost (s : ByteArray) (w : World) (e : Ending) (w' : World) : Prop := ∃ v, e = .returned v ∧ SRow w' w.heap.size v (sentF s) ∧ Below w.heap.size w w'

theorem sentences_any (s : ByteArray) (w : World) :
    Calls Tryd.prog 43 #[.string s] w fun e w' => e = .returned (.func (.func 66) #[] #[.pointer (some ⟨w.heap.size, 0, none⟩)]) ∧ w.alloc (.cells #[.string s] 9) = w' := by
  go_enter Tryd.func43, Tryd.ntmps43
  go_wp2
  go_ret
  exact ⟨rfl, rfl⟩
theorem collect_any (s : ByteArray) (hs : s.size ≤ 1099511627776) (Bn : Nat) (w : World) (hBn : Bn < w.heap.size) (hc : w.cell? ⟨Bn, 0, none⟩ = some (.string s)) :
    Calls Tryd.prog 42 #[.func (.func 66) #[] #[.pointer (some ⟨Bn, 0, none⟩)]] w (SentPost s w) := by
  go_enter Tryd.func42, Tryd.ntmps42
  go_wp2_with (go_at_call 65; refine (callsIn_wide.1 (appendSeq_wide 5 s hs Bn w hBn hc)).mono ?_; rintro e w' ⟨v, rfl, hr, _, hb⟩)
  go_ret
  exact ⟨_, rfl, hr, hb⟩
theorem SentPost_of {s : ByteArray} {w : World} {o : Obj} {v : Value} {w' : World} (hr : SRow w' (w.alloc o).heap.size v (sentF s)) (hb : Below (w.alloc o).heap.size (w.alloc o) w') : SentPost s w (.returned v) w' := by
  refine ⟨v, rfl, ?_, ((Below.refl _ w).alloc (Nat.le_refl _) o).trans (hb.mono (by simp))⟩
  refine ⟨hr.1, ?_⟩
  rcases hr.2 with h | ⟨g, cap, cur, h1, h2, h3⟩
  · exact .inl h
  · exact .inr ⟨g, cap, cur, h1, by simp at h2; omega, h3⟩
theorem Sentences_any (s : ByteArray) (hs : s.size ≤ 1099511627776) (w : World) : Calls Tryd.prog 22 #[.string s] w (SentPost s w) := by
  have hn := World.cell?_alloc_new w #[.string s] 9 0
  go_enter Tryd.func22, Tryd.ntmps22
  go_wp2_with fail
  refine (sentences_any s w).mono ?_
  rintro e w1 ⟨rfl, rfl⟩
  go_wp2_with fail
  refine (collect_any s hs _ _ (by simp) (by simp)).mono ?_
  rintro e w2 ⟨v, rfl, hr, hb⟩
  go_wp2_with fail
  go_ret
  exact SentPost_of hr hb
end Go.Proofs.YtlkaikopjjmneaaDoor

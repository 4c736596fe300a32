/-
  WHAT IS PROVED HERE: the walk of the statement EvalFiltersAgain: it returns true. Conditions: strconv's table lies in memory.
-/
import Derived.Test.YtlkaikopjjmneaaDoorPln1
import Derived.Test.YtlkaikopjjmneaaDoorSan3
namespace Go.Proofs.YtlkaikopjjmneaaDoor
open Go.RowKit

set_option maxHeartbeats 400000 in
theorem cut_any (s : ByteArray) (n : Int) (h0 : 0 ≤ n) (hs : s.size ≤ 9223372036854775807) (w : World) : Calls Tryd.prog 19 #[.string s, .int .i64 n] w fun e w' => e = .returned (.string (s.extract 0 (min (s.size : Int) n).toNat)) ∧ w = w' := by
  go_enter Tryd.func19, Tryd.ntmps19
  go_wp2
  go_ret
  exact ⟨rfl, rfl⟩
theorem cut_size (s : ByteArray) (n : Nat) : (s.extract 0 (min (s.size : Int) n).toNat).size ≤ n := by
  rw [ByteArray.size_extract]; omega
def again : List ByteArray := [⟨#[117, 112, 112, 101, 114]⟩, ⟨#[108, 111, 119, 101, 114]⟩, ⟨#[116, 114, 105, 109]⟩, ⟨#[102, 105, 114, 115, 116]⟩, ⟨#[115, 104, 111, 114, 116]⟩, ⟨#[115, 108, 117, 103]⟩]
theorem flt_names (s : ByteArray) : filterF ⟨#[117, 112, 112, 101, 114]⟩ s = some (s.data.toList.map (chg 97 122)) ∧ filterF ⟨#[108, 111, 119, 101, 114]⟩ s = some (s.data.toList.map (chg 65 90)) ∧
    filterF ⟨#[116, 114, 105, 109]⟩ s = some (Lib.trimB s.data.toList 32) ∧ filterF ⟨#[102, 105, 114, 115, 116]⟩ s = some (firstF s) ∧ filterF ⟨#[115, 104, 111, 114, 116]⟩ s = some (shortF s.data.toList) ∧
    filterF ⟨#[115, 108, 117, 103]⟩ s = some (slugF s.data.toList) ∧ filterF ⟨#[101, 115, 99, 97, 112, 101]⟩ s = some (escF s.data.toList) ∧ filterF ⟨#[108, 101, 110, 103, 116, 104]⟩ s = some (Lib.itoa s.size) := by
  unfold filterF
  simp only [ByteArray.toList_eq]
  refine ⟨?_, ?_, ?_, ?_, ?_, ?_, ?_, ?_⟩ <;> rfl
theorem again_spec (s : ByteArray) : ∀ k (h : k < again.length), ∃ r, filterF again[k] s = some r ∧ filterF again[k] (bs r) = some r := by
  intro k h
  obtain ⟨a0, a1, a2, a3, a4, a5, _⟩ := flt_names s
  match k, h with
  | 0, _ => exact ⟨_, a0, ((flt_names _).1).trans (congrArg some (by rw [bs_list, map_up2]))⟩
  | 1, _ => exact ⟨_, a1, ((flt_names _).2.1).trans (congrArg some (by rw [bs_list, map_low2]))⟩
  | 2, _ => exact ⟨_, a2, ((flt_names _).2.2.1).trans (congrArg some (by rw [bs_list, trim_trim]))⟩
  | 3, _ => exact ⟨_, a3, ((flt_names _).2.2.2.1).trans (congrArg some (by rw [first_first]))⟩
  | 4, _ => exact ⟨_, a4, ((flt_names _).2.2.2.2.1).trans (congrArg some (by rw [bs_list, short_short]))⟩
  | 5, _ => exact ⟨_, a5, ((flt_names _).2.2.2.2.2.1).trans (congrArg some (by rw [bs_list, slug_slug]))⟩
set_option maxRecDepth 100000 in
set_option maxHeartbeats 1000000 in
theorem again_walk (s : ByteArray) (hs : s.size ≤ 9223372036854775807) (w : World) (ht : Tab w) (h2 : 2 < w.heap.size) : Calls Tryd.prog 12 #[.string s] w fun e w' => e = .returned (.bool true) ∧ Upd (fun _ => False) w w' := by
  have HT := Lib.hid ht
  clear ht
  go_enter Tryd.func12, Tryd.ntmps12
  go_wp2_with (first
    | (go_at_call 14; refine (sane_any _ HT.out h2).mono ?_; rintro e w1 ⟨rfl, hu1⟩)
    | (go_at_call 19; refine (cut_any _ _ (by omega) hs _).mono ?_; rintro e w' ⟨rfl, rfl⟩))
  have hsz := cut_size s 1000
  have htab := tab_upd HT.out hu1 h2 (fun f => f)
  change (s.extract 0 (min (s.size : Int) 1000).toNat).size ≤ 1000 at hsz
  generalize s.extract 0 (min (s.size : Int) 1000).toNat = c at *
  have HT1 := Lib.hid htab
  have h21 : 2 < w1.heap.size := by have := hu1.size; omega
  clear htab
  go_loopw [5] (fun i wr => ∃ (k : Nat), k ≤ 6 ∧ i = .int .i64 k ∧ Upd (fun _ => False) w wr ∧ Hid (Tab wr) ∧ Hid (wr.heap[w1.heap.size]? = some (.cells (again.map Value.string).toArray 9 (0, 0)))) (fun i _ => 6 - (intOf i).toNat)
  case atStart => exact ⟨0, by omega, rfl, hu1.alloc _, Lib.hid (tab_upd HT1.out (upd_box1 _ _) h21 (fun f => f)), Lib.hid (World.alloc_heap_new _ _)⟩
  case round =>
    obtain ⟨k, hk, rfl, hu, HTr, HB⟩ := hrel
    by_cases hlt : k < 6
    · obtain ⟨r, hr1, hr2⟩ := again_spec c k hlt
      have hc : wr.cell? ⟨w1.heap.size, k, none⟩ = some (.string again[k]) := by
        rw [blk_cell HB.out, List.getElem?_toArray, List.getElem?_map, List.getElem?_eq_getElem (show k < again.length from hlt)]; rfl
      have hg := filter_grow again[k] c r (by omega) hr1
      have hsp := sp_le c.data.toList
      rw [size_list] at hsp
      generalize again[k] = nm at *
      have hf1 := filter_any nm c (by omega) wr HTr.out
      rw [hr1] at hf1
      have hf2 : ∀ W, Below wr.heap.size wr W → Calls Tryd.prog 20 #[.string nm, .string (bs r)] W fun e w' => e = .returned (fltRes (some r)) ∧ Below W.heap.size W w' := fun W hb => by
        have := filter_any nm (bs r) (by rw [bs_size]; omega) W (tab_upd HTr.out (Upd.of_below0 hb) (by have := blk_lt HB.out; have := hu1.size; omega) (fun f => f))
        rwa [hr2] at this
      have hl0 := blk_lt HB.out
      have hkeep : ∀ W W2, Below wr.heap.size wr W → Below W.heap.size W W2 → Upd (fun _ => False) w W2 ∧ Hid (Tab W2) ∧ Hid (W2.heap[w1.heap.size]? = some (.cells (again.map Value.string).toArray 9 (0, 0))) := fun W W2 h1 h2 => by
        have hu2 := (Upd.of_below0 h1).trans (Upd.of_below0 h2) (fun _ f => f.elim)
        exact ⟨hu.trans hu2 (fun _ f => f.elim), Lib.hid (tab_upd HTr.out hu2 (by have := hu1.size; omega) (fun f => f)), Lib.hid ((hu2.block _ hl0 (fun f => f)).trans HB.out)⟩
      have hcW : ∀ W, Below wr.heap.size wr W → W.cell? ⟨w1.heap.size, k, none⟩ = some (.string nm) := fun W hb => (hb.cell (p := ⟨w1.heap.size, k, none⟩) hl0).trans hc
      have HF1 := Lib.hid hf1
      have HF2 := Lib.hid hf2
      have HK := Lib.hid hkeep
      have HCW := Lib.hid hcW
      clear hf1 hf2 hkeep hcW hr1 hr2 hg
      go_wp2_with fail
      refine HF1.out.mono ?_
      rintro e W1 ⟨rfl, hb1⟩
      have hc1 := HCW.out W1 hb1
      unfold fltRes
      go_wp2_with fail
      refine (HF2.out W1 hb1).mono ?_
      rintro e W2 ⟨rfl, hb2⟩
      have HKK := Lib.hid (HK.out W1 W2 hb1 hb2)
      unfold fltRes
      go_wp2_with fail
      go_roundw
      case rel => exact ⟨k + 1, by omega, by go_num, HKK.out⟩
      case measure => simp [intOf]; omega
    · go_wp2_with fail
      go_ret
      exact ⟨rfl, hu⟩
end Go.Proofs.YtlkaikopjjmneaaDoor

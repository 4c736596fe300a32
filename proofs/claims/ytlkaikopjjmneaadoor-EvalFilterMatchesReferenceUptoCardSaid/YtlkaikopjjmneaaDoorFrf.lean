/-
  WHAT IS PROVED HERE: the walk of the statement EvalFilterMatchesReference: it returns true. Conditions: strconv's table; the strings' lengths.
-/
import Derived.Test.YtlkaikopjjmneaaDoorFrx
namespace Go.Proofs.YtlkaikopjjmneaaDoor
open Go.RowKit

theorem flt_some {nm c : ByteArray} {r : List UInt8} (h : filterF nm c = some r) (hs : c.size ≤ 1099511627776) (w : World) (ht : Tab w) : Calls Tryd.prog 20 #[.string nm, .string c] w fun e w' => e = .returned (.tuple #[.string (bs r), .bool true]) ∧ Upd (fun _ => False) w w' :=
  (filter_any nm c hs w ht).mono fun e w' ⟨h1, h2⟩ => ⟨by rw [h1, h]; rfl, Upd.of_below0 h2⟩
theorem flt_none {nm c : ByteArray} (h : filterF nm c = none) (hs : c.size ≤ 1099511627776) (w : World) (ht : Tab w) : Calls Tryd.prog 20 #[.string nm, .string c] w fun e w' => e = .returned (.tuple #[.string ⟨#[]⟩, .bool false]) ∧ Upd (fun _ => False) w w' :=
  (filter_any nm c hs w ht).mono fun e w' ⟨h1, h2⟩ => ⟨by rw [h1, h]; rfl, Upd.of_below0 h2⟩
theorem rflt_some {nm c : ByteArray} {r : List UInt8} (h : filterF nm c = some r) (hs : c.size ≤ 1099511627776) (w : World) : Calls Tryd.prog 21 #[.string nm, .string c] w fun e w' => e = .returned (.tuple #[.string (bs r), .bool true]) ∧ Upd (fun _ => False) w w' :=
  (ref_filter nm c hs w).mono fun e w' ⟨h1, h2⟩ => ⟨by rw [h1, h]; rfl, Upd.of_below0 h2⟩
theorem rflt_none {nm c : ByteArray} (h : filterF nm c = none) (hs : c.size ≤ 1099511627776) (w : World) : Calls Tryd.prog 21 #[.string nm, .string c] w fun e w' => e = .returned (.tuple #[.string ⟨#[]⟩, .bool false]) ∧ Upd (fun _ => False) w w' :=
  (ref_filter nm c hs w).mono fun e w' ⟨h1, h2⟩ => ⟨by rw [h1, h]; rfl, Upd.of_below0 h2⟩
def nineN (name : ByteArray) : List ByteArray := [name, ⟨#[117, 112, 112, 101, 114]⟩, ⟨#[108, 111, 119, 101, 114]⟩, ⟨#[116, 114, 105, 109]⟩, ⟨#[102, 105, 114, 115, 116]⟩, ⟨#[115, 104, 111, 114, 116]⟩, ⟨#[115, 108, 117, 103]⟩, ⟨#[101, 115, 99, 97, 112, 101]⟩, ⟨#[108, 101, 110, 103, 116, 104]⟩]
set_option maxRecDepth 100000 in
set_option maxHeartbeats 1000000 in
theorem fltref_walk (name s : ByteArray) (hs : s.size ≤ 9223372036854775807) (w : World) (ht : Tab w) (h2 : 2 < w.heap.size) : Calls Tryd.prog 4 #[.string name, .string s] w fun e w' => e = .returned (.bool true) ∧ Upd (fun _ => False) w w' := by
  have HT := Lib.hid ht
  clear ht
  go_enter Tryd.func4, Tryd.ntmps4
  go_wp2_with (first
    | (go_at_call 14; refine (sane_any _ HT.out h2).mono ?_; rintro e w1 ⟨rfl, hu1⟩)
    | (go_at_call 19; refine (cut_any _ _ (by omega) hs _).mono ?_; rintro e w' ⟨rfl, rfl⟩))
  have hsz := cut_size s 5000
  have htab := tab_upd HT.out hu1 h2 (fun f => f)
  change (s.extract 0 (min (s.size : Int) 5000).toNat).size ≤ 5000 at hsz
  generalize s.extract 0 (min (s.size : Int) 5000).toNat = c at *
  have HT1 := Lib.hid htab
  have h21 : 2 < w1.heap.size := by have := hu1.size; omega
  clear htab
  go_loopw [7] (fun i wr => ∃ (k : Nat), k ≤ 9 ∧ i = .int .i64 k ∧ Upd (fun _ => False) w wr ∧ Hid (Tab wr) ∧ Hid (wr.heap[w1.heap.size]? = some (.cells ((nineN name).map Value.string).toArray 9 (0, 0)))) (fun i _ => 9 - (intOf i).toNat)
  case atStart => exact ⟨0, by omega, rfl, hu1.alloc _, Lib.hid (tab_upd HT1.out (upd_box1 _ _) h21 (fun f => f)), Lib.hid (World.alloc_heap_new _ _)⟩
  case round =>
    obtain ⟨k, hk, rfl, hu, HTr, HB⟩ := hrel
    by_cases hlt : k < 9
    · have hc : wr.cell? ⟨w1.heap.size, k, none⟩ = some (.string (nineN name)[k]) := by
        rw [blk_cell HB.out, List.getElem?_toArray, List.getElem?_map, List.getElem?_eq_getElem (show k < (nineN name).length from hlt)]; rfl
      generalize (nineN name)[k] = nm at *
      have hlb := blk_lt HB.out
      have h2r : 2 < wr.heap.size := by omega
      cases hf : filterF nm c with
      | some r =>
        have HF := Lib.hid hf
        clear hf
        go_wp2_with fail
        refine (flt_some HF.out (by omega) _ HTr.out).mono ?_
        rintro e w2 ⟨rfl, hu2⟩
        have hc2 := hu2.cell_some hc (fun f => f)
        go_wp2_with fail
        refine (rflt_some HF.out (by omega) _).mono ?_
        rintro e w3 ⟨rfl, hu3⟩
        have hu23 := hu2.trans hu3 (fun _ f => f.elim)
        have HE := Lib.hid (And.intro (hu.trans hu23 (fun _ f => f.elim)) (And.intro (tab_upd HTr.out hu23 h2r (fun f => f)) ((hu23.block _ hlb (fun f => f)).trans HB.out)))
        generalize bs r = R at *
        clear hu23 hc hc2
        go_wp2_with fail
        go_roundw
        case rel => exact ⟨k + 1, by omega, by go_num, HE.out.1, Lib.hid HE.out.2.1, Lib.hid HE.out.2.2⟩
        case measure => simp [intOf]; omega
      | none =>
        have HF := Lib.hid hf
        clear hf
        go_wp2_with fail
        refine (flt_none HF.out (by omega) _ HTr.out).mono ?_
        rintro e w2 ⟨rfl, hu2⟩
        have hc2 := hu2.cell_some hc (fun f => f)
        go_wp2_with fail
        refine (rflt_none HF.out (by omega) _).mono ?_
        rintro e w3 ⟨rfl, hu3⟩
        have hu23 := hu2.trans hu3 (fun _ f => f.elim)
        have HE := Lib.hid (And.intro (hu.trans hu23 (fun _ f => f.elim)) (And.intro (tab_upd HTr.out hu23 h2r (fun f => f)) ((hu23.block _ hlb (fun f => f)).trans HB.out)))
        clear hu23 hc hc2
        go_wp2_with fail
        go_roundw
        case rel => exact ⟨k + 1, by omega, by go_num, HE.out.1, Lib.hid HE.out.2.1, Lib.hid HE.out.2.2⟩
        case measure => simp [intOf]; omega
    · have hk9 : k = 9 := by omega
      subst hk9
      go_wp2_with fail
      go_ret
      exact ⟨rfl, hu⟩
end Go.Proofs.YtlkaikopjjmneaaDoor

/-
  WHAT IS PROVED HERE: 16 texts joined, each with its own head: what the walks of the program give. Conditions: each at its place.
-/
import Derived.Test.YtgbihmafmmeicaaGreatDoorBn4
import Derived.Shelf.Slices.CompactI
import Derived.Test.YtgbihmafmmeicaaGreatDoorCards
import Derived.Test.YtgbihmafmmeicaaGreatDoorTie
import Derived.ProofKit
import Derived.OpenShut
import Derived.ChangeSame
import Derived.ChangeMaps5
import Derived.Carry
import Derived.Deep.DeepHandedRow
import Derived.Deep.Fields
import Derived.Test.YtgbihmafmmeicaaGreatDoorProg
import Derived.WideKeyPair
/-
  WHAT IS PROVED HERE: the walks of digest.visible and access.Visible (printed by tools/agg.py). No condition but that the facts lie in memory and are tidy.
-/
namespace Go.Proofs.YtgbihmafmmeicaaGreatDoor
open Go.RowKit Mg Go.Shelf Go.Maps

/-- what visible answers -/
def VisPost (D : List Fct) (cls now : Int) (W : World) (e : Ending) (w' : World) : Prop :=
  ∃ v ys L, e = .returned v ∧ (0 ≤ cls → cls < 4 → OutIs (digF D) cls now L) ∧ ys.map FctE.f = visOf D cls now L ∧ FRow w' W.heap.size v ys ∧ (∀ y ∈ ys, y.ok (memFr w' fun b => b < W.heap.size ∨ v.ownBlock = some b)) ∧ Below W.heap.size W w'
theorem FRow.weaken {w : World} {B B' : Nat} {v : Value} {es : List FctE} (h : FRow w B v es) (hB : B' ≤ B) : FRow w B' v es := by
  refine ⟨h.1, ?_⟩
  rcases h.2 with hq | ⟨g, cap, cur, rfl, hb, rest⟩
  · exact .inl hq
  · exact .inr ⟨g, cap, cur, rfl, by omega, rest⟩
theorem IRow.at (w : World) (B : Nat) (v : Value) (l : List Int) (h : IRow w B v l) : ∃ g cap ao, v = .slice ao l.length cap ∧ (0 < l.length → ao = some ⟨g, 0, none⟩ ∧ g < w.heap.size) ∧ ∀ j (hj : j < l.length), w.cell? ⟨g, j, none⟩ = some (.int .i64 l[j]) := by
  by_cases hl : 0 < l.length
  · obtain ⟨g, cap, rfl, _, _, _, hc⟩ := h.cells 0 hl
    refine ⟨g, cap, _, rfl, fun _ => ⟨rfl, World.block_lt_of_cell? w _ hc⟩, fun j hj => ?_⟩
    obtain ⟨g2, cap2, e, _, _, _, h2⟩ := h.cells j hj
    injection e with e
    injection e with e
    injection e with e
    subst e
    exact h2
  · obtain ⟨ao, cap, rfl⟩ := h.shape
    exact ⟨0, cap, ao, rfl, fun h => absurd h hl, fun j hj => absurd (Nat.lt_of_le_of_lt (Nat.zero_le _) hj) hl⟩
theorem sorted_len : ∀ (l : List Int) (a b : Int), l.Pairwise (· < ·) → (∀ s ∈ l, a ≤ s ∧ s ≤ b) → l.length ≤ (b - a + 1).toNat
  | [], _, _, _, _ => Nat.zero_le _
  | x :: l, a, b, hp, hr => by
    have h1 := hr x List.mem_cons_self
    rw [List.pairwise_cons] at hp
    have h2 := sorted_len l (x + 1) b hp.2 (fun s hs => ⟨by have := hp.1 s hs; omega, (hr s (List.mem_cons_of_mem _ hs)).2⟩)
    rw [List.length_cons]
    omega
set_option maxRecDepth 100000 in
set_option maxHeartbeats 4000000 in
theorem visible_no (d : Nat) (cls now : Int) (w : World) (D : List Fct) (h : cls < 0 ∨ 4 ≤ cls) :
    Calls Tryz.prog 42 #[.pointer (some ⟨d, 0, none⟩), .int .i64 cls, .int .i64 now] w (VisPost D cls now w) := by
  have HP : Hid (∀ w', Below w.heap.size w w' → VisPost D cls now w (.returned (.slice none 0 0)) w') := Lib.hid (fun w' hb => ⟨_, [], [], rfl, fun h1 h2 => by omega, by unfold visOf; rw [if_neg (by omega)]; rfl, FRow.nil _ _, (fun y hy => by cases hy), hb⟩)
  have HB : Hid (∀ o1 o2 o3, Below w.heap.size w (((w.alloc o1).alloc o2).alloc o3)) := Lib.hid (fun o1 o2 o3 => (((Below.refl _ w).alloc (Nat.le_refl _) _).alloc (by simp) _).alloc (by simp; omega) _)
  rcases h with h | h
  · go_enter Tryz.func42, Tryz.ntmps42
    go_wp2_with fail
    go_ret
    exact HP.out _ (HB.out _ _ _)
  · have h0 : ¬ cls < 0 := by omega
    go_enter Tryz.func42, Tryz.ntmps42
    go_wp2_with fail
    go_ret
    exact HP.out _ (HB.out _ _ _)
set_option maxRecDepth 100000 in
set_option maxHeartbeats 4000000 in
theorem visible_yes {mem : Addr → Option Value} {B d : Nat} {gs : List FctE} (cls now : Int) (w : World) (h0 : 0 ≤ cls) (h4 : cls < 4) (hD : DigAt w B d gs) (hok : ∀ e ∈ gs, e.ok mem ∧ validF e.f = true) (hs : Sees mem w) (hlen : gs.length ≤ 1000) :
    Calls Tryz.prog 42 #[.pointer (some ⟨d, 0, none⟩), .int .i64 cls, .int .i64 now] w (VisPost (gs.map FctE.f) cls now w) := by
  have hB1 : Hid (Below w.heap.size w (((w.alloc (.cells #[.pointer (some ⟨d, 0, none⟩)] 63)).alloc (.cells #[.int .i64 cls] 3)).alloc (.cells #[.int .i64 now] 3))) := Lib.hid ((((Below.refl _ w).alloc (Nat.le_refl _) _).alloc (by simp) _).alloc (by simp; omega) _)
  have HH := Lib.hid (And.intro (heap_new1 w (.cells #[.pointer (some ⟨d, 0, none⟩)] 63) (.cells #[.int .i64 cls] 3)) (And.intro (heap_new2 w (.cells #[.pointer (some ⟨d, 0, none⟩)] 63) (.cells #[.int .i64 cls] 3)) (World.alloc_heap_new ((w.alloc (.cells #[.pointer (some ⟨d, 0, none⟩)] 63)).alloc (.cells #[.int .i64 cls] 3)) (.cells #[.int .i64 now] 3))))
  have HD := Lib.hid hD
  have HOK := Lib.hid hok
  have HS := Lib.hid hs
  have hmm := @run_makeMap Tryz.prog
  have HMM := Lib.hid hmm
  have HC04 := Lib.hid (And.intro h0 h4)
  clear hD hok hs hmm
  have h0' : ¬ cls < 0 := by omega
  have h4' : ¬ 4 ≤ cls := by omega
  go_enter Tryz.func42, Tryz.ntmps42
  go_upto_region 3 with fail
  generalize hW1 : World.alloc (World.alloc (World.alloc w _) _) _ = W1
  rw [hW1] at hB1
  obtain ⟨g0, g1, g2⟩ := HH.out
  have hz1 : W1.heap.size = w.heap.size + 3 := by rw [← hW1]; simp
  have H0 : Hid (W1.heap[w.heap.size]? = some (.cells #[.pointer (some ⟨d, 0, none⟩)] 63 (0, 0))) := Lib.hid (by rw [← hW1]; exact (Below.heap_alloc _ _ _ (Go.Proofs.YtgbihmafmmeicaaGreatDoor.hlt g0)).trans g0)
  have H1 : Hid (W1.heap[w.heap.size + 1]? = some (.cells #[.int .i64 cls] 3 (0, 0))) := Lib.hid (by rw [← hW1]; exact (Below.heap_alloc _ _ _ (Go.Proofs.YtgbihmafmmeicaaGreatDoor.hlt g1)).trans g1)
  have H2 : Hid (W1.heap[w.heap.size + 2]? = some (.cells #[.int .i64 now] 3 (0, 0))) := Lib.hid (by rw [← hW1]; simpa using g2)
  clear hW1 HH g0 g1 g2
  have k0 := blk_cell H0.out 0
  have k1 := blk_cell H1.out 0
  have k2 := blk_cell H2.out 0
  simp only [List.getElem?_toArray, List.getElem?_cons_zero] at k0 k1 k2
  have c1 := Lib.hid (digOut_any cls now W1 (HD.out.bel (hB1.out.mono (Nat.le_refl _))) (fun e he => (HOK.out e he).1) (HS.out.bel hB1.out))
  have hz := Lib.hid hz1
  clear hz1
  go_wp2_with fail
  refine c1.out.mono ?_
  rintro e W2 ⟨ov, out, rfl, hrow, hout, hb2⟩
  obtain ⟨oa, oc, rfl⟩ := hrow.shape
  have HR := Lib.hid hrow
  have HO := Lib.hid hout
  have HB2 := Lib.hid hb2
  have hlo : out.length ≤ 64 := by
    have := sorted_len out 1 64 hout.sorted hout.range
    omega
  clear hrow hout hb2 k0 k1 k2 c1
  have HW4 : Hid (Below W2.heap.size W2 ((W2.alloc (.cells #[.slice oa out.length oc] 30)).alloc (.cells Tryz.zeroCells80 80))) := Lib.hid (((Below.refl _ W2).alloc (Nat.le_refl _) _).alloc (by simp) _)
  have HOB := Lib.hid (heap_new1 W2 (.cells #[.slice oa out.length oc] 30) (.cells Tryz.zeroCells80 80))
  have HTB : Hid (Tab ((W2.alloc (.cells #[.slice oa out.length oc] 30)).alloc (.cells Tryz.zeroCells80 80)) (W2.heap.size + 1) 65 80 (inT [])) := Lib.hid (by
    unfold Tab
    rw [heap_new2, zero80])
  go_upto_region 5 with fail
  generalize hW4 : World.alloc (World.alloc W2 _) _ = W4
  rw [hW4] at HW4 HOB HTB
  have hz4 : Hid (W4.heap.size = W2.heap.size + 2) := Lib.hid (by rw [← hW4]; simp)
  clear hW4
  have ko : W4.cell? ⟨W2.heap.size, 0, none⟩ = some (.slice oa out.length oc) := blk_cell HOB.out 0
  go_wp2_with fail
  obtain ⟨og, oc', oa', e0, hoa, hcell⟩ := IRow.at _ _ _ _ HR.out
  injection e0 with e1 e2 e3
  subst e1 e3
  have HOA := Lib.hid hoa
  have HCE := Lib.hid hcell
  clear hoa hcell ko e2
  go_loopw [32] (fun i wr => ∃ j : Nat, j ≤ out.length ∧ i = .int .i64 j ∧ Tab wr (W2.heap.size + 1) 65 80 (inT (out.take j)) ∧ Upd (fun b => b = W2.heap.size + 1) W4 wr) (fun i _ => out.length - (intOf i).toNat)
  case atStart => exact ⟨0, Nat.zero_le _, rfl, HTB.out, Upd.refl _ _⟩
  case round =>
    obtain ⟨j, hj, rfl, htab, hu⟩ := hrel
    by_cases hlt : j < out.length
    · obtain ⟨rfl, hog⟩ := HOA.out (by omega)
      obtain ⟨hr1, hr2⟩ := HO.out.range _ (List.getElem_mem hlt)
      obtain ⟨s, hs⟩ : ∃ s : Nat, out[j] = (s : Nat) := ⟨out[j].toNat, by omega⟩
      have hc := HCE.out j hlt
      have hc4 : wr.cell? ⟨og, j, none⟩ = some (.int .i64 (s : Nat)) := by
        rw [hu.cell (p := ⟨og, j, none⟩) (by have := hz4.out; show og < _; omega) (by show og ≠ _; omega), HW4.out.cell (p := ⟨og, j, none⟩) hog, hc, hs]
      have HT1 : Hid (Tab (wr.setCell ⟨W2.heap.size + 1, s, none⟩ (.bool true)) (W2.heap.size + 1) 65 80 (inT (out.take (j + 1)))) := Lib.hid (by
        rw [List.take_succ_eq_append_getElem hlt, hs]
        exact (htab.set s (.bool true)).congr fun i _ => inT_add i)
      have HU1 : Hid (Upd (fun b => b = W2.heap.size + 1) W4 (wr.setCell ⟨W2.heap.size + 1, s, none⟩ (.bool true))) := Lib.hid (hu.setCell (.inl rfl) _)
      have t0 := htab.cell (j := s) (by omega)
      have t1 := htab.frozen s
      have hs0 : (0 : Int) ≤ (s : Nat) := by omega
      have hs65 : ((s : Nat) : Int) < 65 := by omega
      clear htab hu hc hs hr1 hr2 hog
      go_wp2_with fail
      go_roundw
      case rel => exact ⟨j + 1, by omega, by go_num, HT1.out, HU1.out⟩
      case measure => simp [intOf]; omega
    · obtain rfl : j = out.length := by omega
      rw [List.take_length] at htab
      have HB01 : Hid (Below W1.heap.size W1 wr) := Lib.hid ((HB2.out.trans (HW4.out.mono HB2.out.size)).trans (hu.below (fun k e => by have := HB2.out.size; omega) (by have := HB2.out.size; have := hz4.out; omega)))
      have HB02 : Hid (Below W2.heap.size W2 wr) := Lib.hid (HW4.out.trans (hu.below (fun k e => by omega) (by have := hz4.out; omega)))
      have HBW : Hid (Below w.heap.size w wr) := Lib.hid (hB1.out.trans (HB01.out.mono hB1.out.size))
      have HOM : Hid (OpenM wr (W2.heap.size + 1) w.heap.size (w.heap.size + 1) (w.heap.size + 2) W2.heap.size d B gs cls now (.slice oa out.length oc) out) := Lib.hid ⟨htab, (HB01.out.block _ (Go.Proofs.YtgbihmafmmeicaaGreatDoor.hlt H0.out)).trans H0.out, (HB01.out.block _ (Go.Proofs.YtgbihmafmmeicaaGreatDoor.hlt H1.out)).trans H1.out, (HB01.out.block _ (Go.Proofs.YtgbihmafmmeicaaGreatDoor.hlt H2.out)).trans H2.out, (hu.block _ (Go.Proofs.YtgbihmafmmeicaaGreatDoor.hlt HOB.out) (by omega)).trans HOB.out, HD.out.bel HBW.out, (HR.out.bel HB02.out).ints⟩
      obtain ⟨fv, mb, nn, hfr, _, htb⟩ := HOM.out.dig.at_
      obtain ⟨fb, fo, ⟨_, fa, fc, rfl, _, hfm, hfa⟩, hes⟩ := hfr.es (fun e he => (HOK.out e he).1.mono (fun a u h => (HS.out.bel HBW.out) a u h))
      have HVC : Hid (VisC mem wr (W2.heap.size + 1) w.heap.size (w.heap.size + 1) (w.heap.size + 2) W2.heap.size d B gs cls now (.slice oa out.length oc) out fa fc fb fo (sceneOf gs cls now out)) := Lib.hid ⟨HOM.out, HOK.out, HS.out.bel HBW.out, hfa, fun j h => (hes j h).2, hlen, HO.out.range, rfl⟩
      have kd := blk_cell HOM.out.dg 0
      have kf := htb.cell (j := 0) (by omega)
      simp only [List.getElem?_toArray, List.getElem?_cons_zero] at kd
      rw [dc_v] at kf
      clear htab hu hfr htb hfa hes
      have hmm := HMM.out
      have hgl : (gs.length : Int) ≤ 1000 := by omega
      have hb1 : (w.heap.size : Nat) < wr.heap.size := Go.Proofs.YtgbihmafmmeicaaGreatDoor.hlt HOM.out.dg
      have hbd : d < wr.heap.size := World.block_lt_of_cell? _ _ kf
      go_wp2_with fail
      refine vis_loop HVC.out _ _ _ _ _ _ _ _ _ _ _ _ _ _ _ _ _ _ _ _ _ _ _ _ _ _ _ _ _ _ _ _ _ _ _ _ _ _ _ _ _ _ _ _ _ _ _ _ _ _ _ _ _ _ _ _ _ _ _ _ _ _ _ _ _ _ _ _ _ _ _ _ _ _ _ _ _ _ _ _ _ _ _ _ _ _ _ _ _ _ _ _ _ _ _ _ _ _ _ _ _ _ _ _ _ _ _ _ _ _ _ _ _ _ _ _ _ _ _ _ _ _ _ _ _ _ _ _ _ _ _ (wr.alloc (.map #[] 0)) ⟨[], rfl, rfl, VisI.start⟩ _ ?_ (fun c a a2 w2 e h => ⟨e.trans h.1, h.2⟩)
      clear hmm kd kf
      intro u12 u15 u16 u17 u19 u46 u47 u48 u49 u50 u51 u52 u53 u54 u55 u56 u57 u58 u59 u60 u61 u62 u63 u64 u65 u66 u67 u68 u69 u70 u71 u72 u73 u74 u75 u76 u77 u78 u79 u80 u81 u82 u83 u84 u85 u86 u87 u88 u89 u90 u91 u92 u93 u94 u95 u96 u97 u98 u99 u100 u101 u102 u103 u104 u105 u106 u107 u108 u109 u110 u111 u112 u113 u114 u115 u116 u117 u118 u119 u120 u121 u122 u123 u124 u125 u126 u127 u128 u129 u130 u131 u132 u133 u134 u135 u136 u137 u138 w2 hR
      obtain ⟨ys, _, hys, hI⟩ := hR
      obtain ⟨ya, yn, yc, hv⟩ := hI.row.sl
      subst hv
      have hn := hI.lt
      have hsz := HBW.out.size
      have HP : Hid (VisPost (gs.map FctE.f) cls now w (.returned (.slice ya yn yc)) w2) := Lib.hid ⟨_, ys, out, rfl, fun _ _ => HO.out, by
        rw [hys]
        unfold visOf
        rw [if_pos HC04.out, ← visK_all]
        show visK _ gs.length = visK _ (gs.map FctE.f).length
        rw [List.length_map]
        rfl, hI.row.weaken (by omega), fun y hy => (hI.ok y hy).mono (memFr_mono (Upd.refl (fun _ => False) _) (fun b _ hf => ⟨fun g => hf (g.imp (fun g => by omega) id), fun g => g⟩)), HBW.out.trans (hI.bel.mono (by omega))⟩
      clear hys hI hn hsz
      go_wp2_with fail
      go_ret
      exact HP.out
end Go.Proofs.YtgbihmafmmeicaaGreatDoor
/-
  WHAT IS PROVED HERE: the walk of access.Visible. No condition but that the facts lie in memory and are tidy.
-/
namespace Go.Proofs.YtgbihmafmmeicaaGreatDoor
open Go.RowKit Mg Go.Shelf Go.Maps

theorem visible_any {mem : Addr → Option Value} {B d : Nat} {gs : List FctE} (cls now : Int) (w : World) (hD : DigAt w B d gs) (hok : ∀ e ∈ gs, e.ok mem ∧ validF e.f = true) (hs : Sees mem w) (hlen : gs.length ≤ 1000) :
    Calls Tryz.prog 42 #[.pointer (some ⟨d, 0, none⟩), .int .i64 cls, .int .i64 now] w (VisPost (gs.map FctE.f) cls now w) := by
  by_cases h : 0 ≤ cls ∧ cls < 4
  · exact visible_yes cls now w h.1 h.2 hD hok hs hlen
  · exact visible_no d cls now w _ (by omega)
theorem goodE_ok {mem : Addr → Option Value} {v : Value} {es : List FctE} (hes : EsM mem v es) : ∀ e ∈ goodE es, e.ok mem ∧ validF e.f = true := fun e he => by
  obtain ⟨b, o, _, h⟩ := hes
  obtain ⟨j, hj, hje⟩ := List.getElem_of_mem (List.mem_filter.1 he).1
  exact ⟨hje ▸ (h j hj).1, (List.mem_filter.1 he).2⟩
theorem goodE_len (es : List FctE) : (goodE es).length ≤ es.length := List.length_filter_le _ _
/-- a call's answer, seen from an earlier world -/
theorem VisPost.from {D : List Fct} {cls now : Int} {w W : World} {e : Ending} {w' : World} (h : VisPost D cls now W e w') (hb : Below w.heap.size w W) : VisPost D cls now w e w' := by
  obtain ⟨v, ys, L, h1, h2, h3, h4, h5, h6⟩ := h
  have := hb.size
  exact ⟨v, ys, L, h1, h2, h3, h4.weaken this, fun y hy => (h5 y hy).mono (memFr_mono (Upd.refl (fun _ => False) _) (fun b _ hf => ⟨fun g => hf (g.imp (fun g => by omega) id), fun g => g⟩)), hb.trans (h6.mono this)⟩
set_option maxRecDepth 100000 in
theorem access_visible_any {mem : Addr → Option Value} (v : Value) (es : List FctE) (hes : EsM mem v es) (ht : ∀ e ∈ es, Tidy e.f) (hlen : es.length ≤ 1000) (cls now : Int) (w : World) (hs : Sees mem w) (hmem : ∀ a u, mem a = some u → a.block < w.heap.size) :
    Calls Tryz.prog 24 #[v, .int .i64 cls, .int .i64 now] w (VisPost ((es.map FctE.f).filter validF) cls now w) := by
  have hsl : ∃ ao n cap, v = .slice ao n cap := by
    obtain ⟨_, _, ⟨_, ao, cap, rfl, _⟩, _⟩ := hes
    exact ⟨_, _, _, rfl⟩
  have c1 := Lib.hid (read_any v es hes ht hlen w hs hmem)
  have HOK := Lib.hid (goodE_ok hes)
  have hgl : Hid ((goodE es).length ≤ 1000) := Lib.hid (by have := goodE_len es; omega)
  rw [← goodE_map]
  have HS := Lib.hid hs
  obtain ⟨ao, n, cap, rfl⟩ := hsl
  clear hes ht hs hmem hlen
  go_enter Tryz.func24, Tryz.ntmps24
  go_wp2_with fail
  refine c1.out.mono ?_
  rintro e w1 ⟨d, rfl, _, hD, hb⟩
  have HD := Lib.hid hD
  have HB := Lib.hid hb
  clear hD hb
  go_wp2_with fail
  refine (visible_any cls now w1 HD.out HOK.out (HS.out.bel HB.out) hgl.out).mono ?_
  intro e w2 hp
  have hp2 := hp.from HB.out
  obtain ⟨v2, ys, L, rfl, h2, h3, h4, h5, h6⟩ := hp2
  obtain ⟨a2, n2, c2, rfl⟩ := h4.sl
  have HP : Hid (VisPost ((goodE es).map FctE.f) cls now w (.returned (.slice a2 n2 c2)) w2) := Lib.hid ⟨_, ys, L, rfl, h2, h3, h4, h5, h6⟩
  clear hp h2 h3 h4 h5 h6
  go_wp2_with fail
  go_ret
  exact HP.out
end Go.Proofs.YtgbihmafmmeicaaGreatDoor
/-
  WHAT IS PROVED HERE: slices.Compact on a row of the call's own; the walk of digest.times's closure. No condition but that what it captures lies in memory.
-/
namespace Go.Proofs.YtgbihmafmmeicaaGreatDoor
open Go.RowKit Mg Go.Shelf Go.Maps Go.Sort

theorem compact_len (l : List Int) : (Lib.compact l).length ≤ l.length := by
  unfold Lib.compact Lib.compactUpTo
  rw [List.length_map]
  exact Nat.le_trans (List.length_filter_le _ _) (by simp)
theorem compact_row {w : World} {B : Nat} {v : Value} {l : List Int} (h : IRow w B v l) (hl : l.length ≤ 100000) :
    Calls Tryz.prog 65 #[v] w fun e w' => ∃ v', e = .returned v' ∧ IRow w' B v' (Lib.compact l) ∧ w.grownBy w' v.ownBlock ∧ v'.ownBlock = v.ownBlock := by
  rcases h.2 with ⟨rfl, hz⟩ | ⟨g, cap, cur, rfl, hb, hg, hn, hc, hs, ht⟩
  · have : l = [] := List.eq_nil_of_length_eq_zero hz
    subst this
    refine (Any.slices_Compact_int_empty Tryz.compactA none 0 w).mono ?_
    rintro e w' ⟨rfl, rfl⟩
    exact ⟨_, rfl, by rw [show Lib.compact ([] : List Int) = [] from rfl]; exact h, ⟨rfl, rfl, rfl, Nat.le_refl _, fun _ _ _ => rfl⟩, rfl⟩
  · rw [Nat.mul_one] at ht
    have hH := holds_of_blockI (ss := l) hg ht
    have hcl := compact_len l
    refine (Any.slices_Compact_int Tryz.compactA g 0 cap l w hH (by omega) hn).mono ?_
    rintro e w' ⟨rfl, q, rfl⟩
    obtain ⟨z, hz⟩ : ∃ z, z = Lib.compact l ++ List.replicate (l.length - (Lib.compact l).length) (0 : Int) := ⟨_, rfl⟩
    have hzl : z.length = l.length := by rw [hz, List.length_append, List.length_replicate]; omega
    rw [← hz]
    have e0 : Sort.putRow (Value.int .i64) (Sort.ahead w q) g 0 z.toArray = grow (Sort.putRow (Value.int .i64) (Sort.ahead w q) g 0 z.toArray) #[] := by rw [grow_empty]
    rw [e0]
    refine ⟨_, rfl, ⟨by rw [List.length_map, Nat.mul_one], .inr ⟨g, cap, _, rfl, hb, heap_sortedI z.toArray hg, by omega, hc, by simp [Sort.putCells, hs], ?_⟩⟩, grownBy_sortedI _, rfl⟩
    have h1 := take_putCellsI cur z (by omega)
    have h2 : (Lib.compact l).map encI = (z.map (Value.int .i64)).take (Lib.compact l).length := by
      rw [hz, List.map_append, List.take_left' (by simp)]
      rfl
    rw [Nat.mul_one, h2, ← h1, List.take_take]
    congr 1
    omega
/-- the times that a label adds -/
def endOf (now : Int) (x : Lab) : List Int := if now < x.till then [x.till] else []
theorem endOf_len (now : Int) (x : Lab) : (endOf now x).length ≤ 1 := by unfold endOf; split <;> simp
/-- the box of the times that were found, at the first block behind W0; block T is kept -/
def EndI (W0 : World) (E : List Int) (T : Nat) (X : Obj) (wr : World) : Prop :=
  ∃ v, wr.heap[W0.heap.size]? = some (.cells #[v] 30 (0, 0)) ∧ IRow wr (W0.heap.size + 1) v E ∧ Below W0.heap.size W0 wr ∧ wr.heap[T]? = some X ∧ W0.heap.size < T ∧ v.ownBlock ≠ some T
theorem EndI.lt {W0 wr : World} {E : List Int} {T : Nat} {X : Obj} (h : EndI W0 E T X wr) : W0.heap.size < T ∧ T < wr.heap.size := by
  obtain ⟨v, _, _, _, h4, h5, _⟩ := h
  exact ⟨h5, Go.Proofs.YtgbihmafmmeicaaGreatDoor.hlt h4⟩
theorem EndI.bel {W0 wr w' : World} {E : List Int} {T : Nat} {X : Obj} (h : EndI W0 E T X wr) (hb : Below wr.heap.size wr w') : EndI W0 E T X w' := by
  obtain ⟨v, h1, h2, h3, h4, h5, h6⟩ := h
  exact ⟨v, (hb.block _ (Go.Proofs.YtgbihmafmmeicaaGreatDoor.hlt h1)).trans h1, h2.bel hb, h3.trans (hb.mono h3.size), (hb.block _ (Go.Proofs.YtgbihmafmmeicaaGreatDoor.hlt h4)).trans h4, h5, h6⟩
theorem EndI.add {W0 wr W1 W2 : World} {E : List Int} {T : Nat} {X : Obj} {v v2 : Value} {i : Int} {ob : Obj} (hx : wr.heap[W0.heap.size]? = some (.cells #[v] 30 (0, 0))) (hr : IRow wr (W0.heap.size + 1) v E) (hb : Below W0.heap.size W0 wr) (hT : wr.heap[T]? = some X) (hTn : W0.heap.size < T) (hne : v.ownBlock ≠ some T)
    (hW1 : Below wr.heap.size wr W1) (h2 : IRow W2 (W0.heap.size + 1) v2 (E ++ [i])) (hg : (W1.alloc ob).grownBy W2 v.ownBlock) (hn : v2.ownBlock = v.ownBlock ∨ v2.ownBlock = some (W1.alloc ob).heap.size) : EndI W0 (E ++ [i]) T X (W2.setCell ⟨W0.heap.size, 0, none⟩ v2) := by
  have hge := hr.ge
  have hlt := hr.lt
  have hz1 := hW1.size
  have hTl := Go.Proofs.YtgbihmafmmeicaaGreatDoor.hlt hT
  have hu : Upd (fun b => v.ownBlock = some b) wr W2 := ((Upd.of_below hW1).mono (G := fun b => v.ownBlock = some b) (fun i e => .inr e)).trans (((Upd.refl (fun b => v.ownBlock = some b) W1).alloc ob).grown hg (fun b e => .inl e)) (fun i e => .inl e)
  have hu2 := upd_cell W2 W0.heap.size 0 v2
  have hx2 : W2.heap[W0.heap.size]? = some (.cells #[v] 30 (0, 0)) := (hu.block _ (Go.Proofs.YtgbihmafmmeicaaGreatDoor.hlt hx) (fun e => by have := hge _ e; omega)).trans hx
  refine ⟨v2, blk_set hx2, h2.kept hu2 (fun k hk e => by have := h2.ge k hk; omega), hb.trans ((hu.below (fun k e => by have := hge k e; omega) (by have := hb.size; omega)).trans (hu2.below (fun k e => by omega) (by have := Go.Proofs.YtgbihmafmmeicaaGreatDoor.hlt hx2; omega))), (hu2.block _ (by have := hu.size; omega) (by omega)).trans ((hu.block _ hTl (fun e => hne e)).trans hT), hTn, fun e => ?_⟩
  rcases hn with h | h
  · exact hne (h ▸ e)
  · rw [h] at e
    injection e with e
    simp at e
    omega
set_option maxRecDepth 100000 in
set_option maxHeartbeats 2000000 in
theorem add_any {W0 W : World} {E : List Int} {T nb : Nat} {X : Obj} {now : Int} (h : EndI W0 E T X W) (hnb : W0.cell? ⟨nb, 0, none⟩ = some (.int .i64 now)) (hE : E.length ≤ 90000) (x : Lab) (av : Value) :
    Calls Tryz.prog 64 #[.agg (labCells x av), .pointer (some ⟨nb, 0, none⟩), .pointer (some ⟨W0.heap.size, 0, none⟩)] W fun e w' => e = .returned (.tuple #[]) ∧ EndI W0 (E ++ endOf now x) T X w' := by
  have HI := Lib.hid h
  have hlt := h.lt
  have hb1 : Hid (Below W.heap.size W (W.alloc (.cells (labCells x av) 34))) := Lib.hid ((Below.refl _ W).alloc (Nat.le_refl _) _)
  have hL := Lib.hid (World.alloc_heap_new W (.cells (labCells x av) 34))
  obtain ⟨v, h1, h2, h3, h4, h5, h6⟩ := (h.bel hb1.out)
  have hn1 := (h3.cell (p := ⟨nb, 0, none⟩) (World.block_lt_of_cell? _ _ hnb)).trans hnb
  have HV := Lib.hid (And.intro h1 (And.intro h2 (And.intro h3 (And.intro h4 (And.intro h5 h6)))))
  obtain ⟨x1, x2, x3, x4⟩ := x
  clear h hnb h2 h3 h4 h6
  go_enter Tryz.func64, Tryz.ntmps64
  go_upto_region 1 with fail
  generalize hW1 : W.alloc (.cells (labCells ⟨x1, x2, x3, x4⟩ av) 34) = W1 at *
  have k0 := blk_cell hL.out 0
  have kb := blk_cell h1 0
  have fb := blk_free h1 0
  simp only [labCells, List.getElem?_toArray, List.getElem?_cons_zero] at k0 kb
  clear h1 hW1
  by_cases hlt2 : now < x1
  · have HE : Hid (endOf now ⟨x1, x2, x3, x4⟩ = [x1]) := Lib.hid (by unfold endOf; rw [if_pos hlt2])
    go_wp2_with (at_builtin; go_must (refine wpList_app_int rfl _ _ rfl (W0.heap.size + 1) _ E rfl (IRow.alloc HV.out.2.1 _) x1 W1.heap.size 1 rfl (cell_new rfl rfl) (by omega) (by have := HV.out.2.2.1.size; have := Go.Proofs.YtgbihmafmmeicaaGreatDoor.hlt HV.out.1; simp; omega) ?_); intro v2 w2 h2 hg2 hn2; obtain ⟨a2, n2, c2, rfl⟩ := h2.sl; have hA := HI.out; obtain ⟨vv, q1, q2, q3, q4, q5, q6⟩ := hA.bel hb1.out; have H2 := Lib.hid (EndI.add HV.out.1 HV.out.2.1 HV.out.2.2.1 HV.out.2.2.2.1 HV.out.2.2.2.2.1 HV.out.2.2.2.2.2 (Below.refl _ _) h2 hg2 hn2); have hbx := (hg2.block W0.heap.size (by have := Go.Proofs.YtgbihmafmmeicaaGreatDoor.hlt HV.out.1; simp; omega) (fun e => by have := HV.out.2.1.ge _ e.symm; omega)).trans ((Below.heap_alloc W1 _ _ (Go.Proofs.YtgbihmafmmeicaaGreatDoor.hlt HV.out.1)).trans HV.out.1); have kb2 := blk_cell hbx 0; have fb2 := blk_free hbx 0; simp only [List.getElem?_toArray, List.getElem?_cons_zero] at kb2; clear h2 hg2 hn2 q1 q2 q3 q4 q5 q6 hA hbx kb fb k0)
    refine bodyPost_end (v := .tuple #[]) (by simp [results, Tryz.results64, go_sem]) rfl ?_
    exact ⟨rfl, by rw [HE.out]; exact H2.out⟩
  · have HE : Hid (endOf now ⟨x1, x2, x3, x4⟩ = []) := Lib.hid (by unfold endOf; rw [if_neg hlt2])
    go_wp2_with fail
    refine bodyPost_end (v := .tuple #[]) (by simp [results, Tryz.results64, go_sem]) rfl ?_
    exact ⟨rfl, by rw [HE.out, List.append_nil]; exact ⟨v, HV.out.1, HV.out.2.1, HV.out.2.2.1, HV.out.2.2.2.1, HV.out.2.2.2.2.1, HV.out.2.2.2.2.2⟩⟩
end Go.Proofs.YtgbihmafmmeicaaGreatDoor
/-
  WHAT IS PROVED HERE: the walk of digest.times (printed by tools/agj.py). No condition but that the digest's facts lie in memory and are valid.
-/
namespace Go.Proofs.YtgbihmafmmeicaaGreatDoor
open Go.RowKit Mg Go.Shelf Go.Maps Go.Sort

theorem endsAt_of (now : Int) (f : Fct) : endsAt now f = (if f.kind = 3 ∨ f.kind = 1 then endOf now f.lab else []) ++ f.blocks.flatMap fun b => endOf now b.lab := by
  unfold endsAt
  rw [List.filter_append]
  congr 1
  · split
    · unfold endOf
      by_cases h : now < f.lab.till <;> simp [h]
    · rfl
  · induction f.blocks with
    | nil => rfl
    | cons b r ih =>
      rw [List.map_cons, List.flatMap_cons, List.filter_cons, ih]
      unfold endOf
      by_cases h : now < b.lab.till <;> simp [h]
theorem valid_blocks {f : Fct} (h : validF f = true) : f.blocks.length ≤ 24 := by
  by_cases hk : f.kind = 1
  · exact (revise_parts (validF_revise h hk)).2.2.1.1
  · have hu := congrArg Fct.blocks (validF_used h)
    have : (usedF f).blocks = [] := by
      unfold usedF
      rw [if_neg hk]
      repeat' split
      all_goals rfl
    rw [hu, this]
    exact Nat.zero_le _
theorem endsAt_len (now : Int) {f : Fct} (h : validF f = true) : (endsAt now f).length ≤ 25 := by
  have hb := valid_blocks h
  unfold endsAt
  refine Nat.le_trans (List.length_filter_le _ _) ?_
  rw [List.length_append, List.length_map]
  split <;> simp <;> omega
theorem endsF_len (now : Int) : ∀ (l : List Fct), (∀ f ∈ l, validF f = true) → (endsF now l).length ≤ 25 * l.length
  | [], _ => Nat.zero_le _
  | f :: r, h => by
    have h1 := endsAt_len now (h f List.mem_cons_self)
    have h2 := endsF_len now r (fun g hg => h g (List.mem_cons_of_mem _ hg))
    unfold endsF at h2 ⊢
    rw [List.flatMap_cons, List.length_append, List.length_cons]
    omega
theorem endsF_snoc (now : Int) (l : List Fct) (f : Fct) : endsF now (l ++ [f]) = endsF now l ++ endsAt now f := by unfold endsF; rw [List.flatMap_append]; simp
/-- what times answers -/
def TimesPost (D : List Fct) (now : Int) (W : World) (e : Ending) (w' : World) : Prop := ∃ v, e = .returned v ∧ IRow w' W.heap.size v (Lib.compact (sortL (endsF now D))) ∧ Below W.heap.size W w'
def EndH (W0 : World) (E : List Int) (wr : World) : Prop := ∃ v, wr.heap[W0.heap.size]? = some (.cells #[v] 30 (0, 0)) ∧ IRow wr (W0.heap.size + 1) v E ∧ Below W0.heap.size W0 wr
theorem EndH.new {W0 wr : World} {E : List Int} (h : EndH W0 E wr) (X : Obj) : EndI W0 E wr.heap.size X (wr.alloc X) := by
  obtain ⟨v, h1, h2, h3⟩ := h
  have hb : Below wr.heap.size wr (wr.alloc X) := (Below.refl _ wr).alloc (Nat.le_refl _) _
  exact ⟨v, (hb.block _ (Go.Proofs.YtgbihmafmmeicaaGreatDoor.hlt h1)).trans h1, h2.bel hb, h3.trans (hb.mono h3.size), World.alloc_heap_new _ _, Go.Proofs.YtgbihmafmmeicaaGreatDoor.hlt h1, fun e => by have := h2.lt _ e; omega⟩
theorem EndI.head {W0 wr : World} {E : List Int} {T : Nat} {X : Obj} (h : EndI W0 E T X wr) : EndH W0 E wr := by
  obtain ⟨v, h1, h2, h3, _⟩ := h
  exact ⟨v, h1, h2, h3⟩
set_option maxRecDepth 100000 in
set_option maxHeartbeats 4000000 in
theorem times_any {mem : Addr → Option Value} {B d : Nat} {gs : List FctE} (now : Int) (w : World) (hD : DigAt w B d gs) (hok : ∀ e ∈ gs, e.ok mem ∧ validF e.f = true) (hs : Sees mem w) (hlen : gs.length ≤ 1000) :
    Calls Tryz.prog 46 #[.pointer (some ⟨d, 0, none⟩), .int .i64 now] w (TimesPost (gs.map FctE.f) now w) := by
  obtain ⟨W0, hW0⟩ : ∃ W0, W0 = w.alloc (.cells #[.int .i64 now] 3) := ⟨_, rfl⟩
  have hB0 : Hid (Below w.heap.size w W0) := Lib.hid (by rw [hW0]; exact (Below.refl _ w).alloc (Nat.le_refl _) _)
  have hnow : Hid (W0.cell? ⟨w.heap.size, 0, none⟩ = some (.int .i64 now)) := Lib.hid (by rw [hW0]; exact blk_cell (World.alloc_heap_new w _) 0)
  have HD := Lib.hid (hD.bel hB0.out)
  have HOK := Lib.hid hok
  have HS := Lib.hid (hs.bel hB0.out)
  have hH0 : Hid (EndH W0 [] (W0.alloc (.cells #[.slice none 0 0] 30))) := Lib.hid ⟨_, World.alloc_heap_new W0 _, World.ownsRow_nil _ _ _ _, (Below.refl _ W0).alloc (Nat.le_refl _) _⟩
  have hN : Hid (W0.heap.size = w.heap.size + 1) := Lib.hid (by rw [hW0]; simp)
  obtain ⟨fv, mb, nn, hfr, _, htb⟩ := HD.out.at_
  obtain ⟨fb, fo, ⟨_, fa, fc, rfl, _, hfm, hfa⟩, hes⟩ := hfr.es (fun e he => (HOK.out e he).1.mono (fun a u h => HS.out a u h))
  have HES := Lib.hid hes
  have HFA := Lib.hid hfa
  have kf := ((Below.refl _ W0).alloc (Nat.le_refl _) (.cells #[.slice none 0 0] 30)).cell (p := ⟨d, 0, none⟩) (World.block_lt_of_cell? _ _ (htb.cell (j := 0) (by omega)))
  rw [htb.cell (j := 0) (by omega), dc_v] at kf
  have HW := Lib.hid hW0
  clear hD hok hs hes hfa hfr htb
  go_enter Tryz.func46, Tryz.ntmps46
  go_upto_region 1 with fail
  rw [← hW0]
  clear hW0
  have hgl : (gs.length : Int) ≤ 1000 := by omega
  go_wp2_with fail
  clear kf
  go_loopw [17] (fun i wr => ∃ k : Nat, k ≤ gs.length ∧ i = .int .i64 k ∧ EndH W0 (endsF now ((gs.take k).map FctE.f)) wr) (fun i _ => gs.length - (intOf i).toNat)
  case atStart => exact ⟨0, Nat.zero_le _, rfl, hH0.out⟩
  case round =>
    obtain ⟨k, hk, rfl, hH⟩ := hrel
    obtain ⟨wo, rfl⟩ : ∃ wo, wo = wr := ⟨_, rfl⟩
    by_cases hlt : k < gs.length
    · obtain rfl := HFA.out (by omega)
      have HH := Lib.hid hH
      obtain ⟨hxo, hxv⟩ := HOK.out _ (List.getElem_mem hlt)
      obtain ⟨_, hat⟩ := HES.out k hlt
      have hBW : Below W0.heap.size W0 wo := by obtain ⟨_, _, _, h⟩ := hH; exact h
      have HAT : Hid (gs[k].at (fun p => wo.cell? p) fb (fo + k * 23)) := Lib.hid (fun j u hj => (hBW.cell (World.block_lt_of_cell? _ _ (hat j u hj))).trans (hat j u hj))
      have HSN : Hid (endsF now ((gs.take (k + 1)).map FctE.f) = endsF now ((gs.take k).map FctE.f) ++ endsAt now gs[k].f) := Lib.hid (by rw [List.take_succ_eq_append_getElem hlt, List.map_append]; exact endsF_snoc _ _ _)
      have hEl : (endsF now ((gs.take k).map FctE.f)).length ≤ 25 * k := by
        have := endsF_len now ((gs.take k).map FctE.f) (fun f hf => by obtain ⟨e, he, rfl⟩ := List.mem_map.1 hf; exact (HOK.out e (List.mem_of_mem_take he)).2)
        rw [List.length_map, List.length_take] at this
        omega
      have HXO := Lib.hid hxo
      have hbl24 := valid_blocks hxv
      have hsz : Hid (gs[k].cells.size = 23) := Lib.hid rfl
      have hone := Lib.hid (gs[k].one)
      clear hH hxo hxv hat hBW
      generalize gs[k] = x at *
      generalize endsF now ((gs.take k).map FctE.f) = E at *
      obtain ⟨ao', cap', bb, bo, e0, hcap, hcm, hao, hbl⟩ := HXO.out.parts.2.1.open_
      injection e0 with e1 e2 e3
      subst e1 e3
      obtain ⟨vba, hvba⟩ : ∃ v, v = x.ba := ⟨_, rfl⟩
      rw [← hvba] at hao
      have HBA := Lib.hid hao
      have HVBA := Lib.hid hvba
      have HBL := Lib.hid hbl
      have HEA := Lib.hid (endsAt_of now x.f)
      have HI := Lib.hid (HH.out.new (.cells x.cells 45))
      have HT := Lib.hid (World.alloc_heap_new wo (.cells x.cells 45))
      clear hao hbl hcap hcm hvba
      go_upto_region 6 with (first
        | ((with_reducible refine at_fload _ rfl ?_); go_must (refine wpList_fct_mid rfl _ rfl (by simp [Act.eval]) HAT.out ?_))
        | ((with_reducible refine at_fstore _ _ rfl ?_); go_must (refine wpList_fct_new rfl _ _ rfl rfl _ _ _ (by simp [Act.eval]) (by simp [Act.eval]) (by rfl) hsz.out hone.out ?_)))
      generalize hT : wo.heap.size = T at *
      generalize wo.alloc (.cells x.cells 45) = W1 at *
      have k2 : W1.cell? ⟨T, 2, none⟩ = some (.int .i64 x.f.kind) := blk_cell HT.out 2
      have k10 : W1.cell? ⟨T, 10, none⟩ = some (.slice vba x.f.blocks.length x.bc) := by rw [HVBA.out]; exact blk_cell HT.out 10
      have k11 : W1.cell? ⟨T, 11, none⟩ = some (.int .i64 x.f.lab.till) := blk_cell HT.out 11
      have k12 : W1.cell? ⟨T, 12, none⟩ = some x.av := blk_cell HT.out 12
      have k13 : W1.cell? ⟨T, 13, none⟩ = some (.int .i64 x.f.lab.appr) := blk_cell HT.out 13
      have k14 : W1.cell? ⟨T, 14, none⟩ = some (.int .i64 x.f.lab.denied) := blk_cell HT.out 14
      by_cases h3 : x.f.kind = 3
      · have HKD := Lib.hid h3
        have HCA : Hid (Calls Tryz.prog 64 #[.agg #[.int .i64 x.f.lab.till, x.av, .int .i64 x.f.lab.appr, .int .i64 x.f.lab.denied], .pointer (some ⟨w.heap.size, 0, none⟩), .pointer (some ⟨W0.heap.size, 0, none⟩)] W1 fun e w' => e = .returned (.tuple #[]) ∧ EndI W0 (E ++ endOf now x.f.lab) T (.cells x.cells 45 (0, 0)) w') := Lib.hid (add_any HI.out hnow.out (by omega) x.f.lab x.av)
        rw [h3] at k2
        clear h3
        go_wp2_with fail
        refine HCA.out.mono ?_
        rintro e W2 ⟨rfl, hI2⟩
        have HI2 := Lib.hid hI2
        have hTT : W2.heap[T]? = some (.cells x.cells 45 (0, 0)) := by obtain ⟨_, _, _, _, h, _⟩ := hI2; exact h
        clear k2 k10 k11 k12 k13 k14 hI2
        have k10 : W2.cell? ⟨T, 10, none⟩ = some (.slice vba x.f.blocks.length x.bc) := by rw [HVBA.out]; exact blk_cell hTT 10
        clear hTT
        go_wp2_with fail
        clear k10
        have HEE : Hid (endsAt now x.f = endOf now x.f.lab ++ x.f.blocks.flatMap fun b => endOf now b.lab) := Lib.hid (by rw [HEA.out, if_pos (by rw [HKD.out]; decide)])
        obtain ⟨E2, hE2⟩ : ∃ E2, E2 = E ++ endOf now x.f.lab := ⟨_, rfl⟩
        have hE2l : E2.length ≤ 25 * k + 1 := by rw [hE2, List.length_append]; have := endOf_len now x.f.lab; omega
        rw [← hE2] at HI2
        have HE2 := Lib.hid hE2
        clear hE2
        go_loopw [36] (fun i wr => ∃ j : Nat, j ≤ x.f.blocks.length ∧ i = .int .i64 j ∧ EndI W0 (E2 ++ (x.f.blocks.take j).flatMap fun b => endOf now b.lab) T (.cells x.cells 45 (0, 0)) wr ∧ ((x.f.blocks.take j).flatMap fun b => endOf now b.lab).length ≤ j) (fun i _ => x.f.blocks.length - (intOf i).toNat)
        case atStart => exact ⟨0, Nat.zero_le _, rfl, by simpa using HI2.out, Nat.zero_le _⟩
        case round =>
          obtain ⟨j, hj, rfl, hI3, hEj⟩ := hrel
          obtain ⟨wi, rfl⟩ : ∃ wi, wi = wr := ⟨_, rfl⟩
          by_cases hlj : j < x.f.blocks.length
          · obtain rfl := HBA.out (by omega)
            have hBW : Below W0.heap.size W0 wi := by obtain ⟨_, _, _, h, _⟩ := hI3; exact h
            obtain ⟨_, lo, lc, hints, c9⟩ := (HBL.out j hlj).nine (HS.out.bel hBW)
            obtain ⟨c0, c1, c2, c3, c4, c5, c6, c7, c8⟩ := c9
            have HST : Hid ((x.f.blocks.take (j + 1)).flatMap (fun b => endOf now b.lab) = (x.f.blocks.take j).flatMap (fun b => endOf now b.lab) ++ endOf now x.f.blocks[j].lab) := Lib.hid (by rw [List.take_succ_eq_append_getElem hlj, List.flatMap_append]; simp)
            have HI3 := Lib.hid hI3
            generalize x.f.blocks[j] = y at *
            obtain ⟨id, kind, text, story, ref, ⟨till, after, appr, denied⟩⟩ := y
            dsimp only at *
            have HCA := Lib.hid (add_any (HI3.out.bel ((Below.refl _ wi).alloc (Nat.le_refl _) (.cells #[.int .i64 id, .int .i64 kind, .string text, .int .i64 story, .int .i64 ref, .int .i64 till, .slice lo after.length lc, .int .i64 appr, .int .i64 denied] 56))) hnow.out (by rw [List.length_append]; omega) ⟨till, after, appr, denied⟩ (.slice lo after.length lc))
            generalize ((x.f.blocks.take j).flatMap fun b => endOf now b.lab) = EJ at *
            have hEl1 := endOf_len now ⟨till, after, appr, denied⟩
            clear hI3 hBW hints
            go_wp2_with fail
            refine HCA.out.mono ?_
            rintro e w3 ⟨rfl, hI4⟩
            have HI4 := Lib.hid hI4
            clear hI4 c0 c1 c2 c3 c4 c5 c6 c7 c8
            go_wp2_with fail
            go_roundw
            case rel => exact ⟨j + 1, by omega, by go_num, by rw [HST.out, ← List.append_assoc]; exact HI4.out, by rw [HST.out, List.length_append]; omega⟩
            case measure => simp [intOf]; omega
          · obtain rfl : j = x.f.blocks.length := by omega
            rw [List.take_length] at hI3
            have HHH : Hid (EndH W0 (endsF now ((gs.take (k + 1)).map FctE.f)) wi) := Lib.hid (by rw [HSN.out, HEE.out, ← List.append_assoc, ← HE2.out]; exact hI3.head)
            clear hI3 hEj
            go_wp2_with fail
            go_roundw
            case rel => exact ⟨k + 1, by omega, by go_num, HHH.out⟩
            case measure => simp [intOf]; omega
      · have b3 : (x.f.kind == 3) = false := by simpa using h3
        by_cases h1 : x.f.kind = 1
        · have HKD := Lib.hid h1
          have HCA : Hid (Calls Tryz.prog 64 #[.agg #[.int .i64 x.f.lab.till, x.av, .int .i64 x.f.lab.appr, .int .i64 x.f.lab.denied], .pointer (some ⟨w.heap.size, 0, none⟩), .pointer (some ⟨W0.heap.size, 0, none⟩)] W1 fun e w' => e = .returned (.tuple #[]) ∧ EndI W0 (E ++ endOf now x.f.lab) T (.cells x.cells 45 (0, 0)) w') := Lib.hid (add_any HI.out hnow.out (by omega) x.f.lab x.av)
          rw [h1] at k2
          clear h1
          go_wp2_with fail
          refine HCA.out.mono ?_
          rintro e W2 ⟨rfl, hI2⟩
          have HI2 := Lib.hid hI2
          have hTT : W2.heap[T]? = some (.cells x.cells 45 (0, 0)) := by obtain ⟨_, _, _, _, h, _⟩ := hI2; exact h
          clear k2 k10 k11 k12 k13 k14 hI2
          have k10 : W2.cell? ⟨T, 10, none⟩ = some (.slice vba x.f.blocks.length x.bc) := by rw [HVBA.out]; exact blk_cell hTT 10
          clear hTT
          go_wp2_with fail
          clear k10
          have HEE : Hid (endsAt now x.f = endOf now x.f.lab ++ x.f.blocks.flatMap fun b => endOf now b.lab) := Lib.hid (by rw [HEA.out, if_pos (by rw [HKD.out]; decide)])
          obtain ⟨E2, hE2⟩ : ∃ E2, E2 = E ++ endOf now x.f.lab := ⟨_, rfl⟩
          have hE2l : E2.length ≤ 25 * k + 1 := by rw [hE2, List.length_append]; have := endOf_len now x.f.lab; omega
          rw [← hE2] at HI2
          have HE2 := Lib.hid hE2
          clear hE2
          go_loopw [36] (fun i wr => ∃ j : Nat, j ≤ x.f.blocks.length ∧ i = .int .i64 j ∧ EndI W0 (E2 ++ (x.f.blocks.take j).flatMap fun b => endOf now b.lab) T (.cells x.cells 45 (0, 0)) wr ∧ ((x.f.blocks.take j).flatMap fun b => endOf now b.lab).length ≤ j) (fun i _ => x.f.blocks.length - (intOf i).toNat)
          case atStart => exact ⟨0, Nat.zero_le _, rfl, by simpa using HI2.out, Nat.zero_le _⟩
          case round =>
            obtain ⟨j, hj, rfl, hI3, hEj⟩ := hrel
            obtain ⟨wi, rfl⟩ : ∃ wi, wi = wr := ⟨_, rfl⟩
            by_cases hlj : j < x.f.blocks.length
            · obtain rfl := HBA.out (by omega)
              have hBW : Below W0.heap.size W0 wi := by obtain ⟨_, _, _, h, _⟩ := hI3; exact h
              obtain ⟨_, lo, lc, hints, c9⟩ := (HBL.out j hlj).nine (HS.out.bel hBW)
              obtain ⟨c0, c1, c2, c3, c4, c5, c6, c7, c8⟩ := c9
              have HST : Hid ((x.f.blocks.take (j + 1)).flatMap (fun b => endOf now b.lab) = (x.f.blocks.take j).flatMap (fun b => endOf now b.lab) ++ endOf now x.f.blocks[j].lab) := Lib.hid (by rw [List.take_succ_eq_append_getElem hlj, List.flatMap_append]; simp)
              have HI3 := Lib.hid hI3
              generalize x.f.blocks[j] = y at *
              obtain ⟨id, kind, text, story, ref, ⟨till, after, appr, denied⟩⟩ := y
              dsimp only at *
              have HCA := Lib.hid (add_any (HI3.out.bel ((Below.refl _ wi).alloc (Nat.le_refl _) (.cells #[.int .i64 id, .int .i64 kind, .string text, .int .i64 story, .int .i64 ref, .int .i64 till, .slice lo after.length lc, .int .i64 appr, .int .i64 denied] 56))) hnow.out (by rw [List.length_append]; omega) ⟨till, after, appr, denied⟩ (.slice lo after.length lc))
              generalize ((x.f.blocks.take j).flatMap fun b => endOf now b.lab) = EJ at *
              have hEl1 := endOf_len now ⟨till, after, appr, denied⟩
              clear hI3 hBW hints
              go_wp2_with fail
              refine HCA.out.mono ?_
              rintro e w3 ⟨rfl, hI4⟩
              have HI4 := Lib.hid hI4
              clear hI4 c0 c1 c2 c3 c4 c5 c6 c7 c8
              go_wp2_with fail
              go_roundw
              case rel => exact ⟨j + 1, by omega, by go_num, by rw [HST.out, ← List.append_assoc]; exact HI4.out, by rw [HST.out, List.length_append]; omega⟩
              case measure => simp [intOf]; omega
            · obtain rfl : j = x.f.blocks.length := by omega
              rw [List.take_length] at hI3
              have HHH : Hid (EndH W0 (endsF now ((gs.take (k + 1)).map FctE.f)) wi) := Lib.hid (by rw [HSN.out, HEE.out, ← List.append_assoc, ← HE2.out]; exact hI3.head)
              clear hI3 hEj
              go_wp2_with fail
              go_roundw
              case rel => exact ⟨k + 1, by omega, by go_num, HHH.out⟩
              case measure => simp [intOf]; omega
        · have b1 : (x.f.kind == 1) = false := by simpa using h1
          have HKD := Lib.hid (And.intro h3 h1)
          have HI2 : Hid (EndI W0 (E ++ []) T (.cells x.cells 45 (0, 0)) W1) := Lib.hid (by rw [List.append_nil]; exact HI.out)
          clear h3 h1
          go_wp2_with fail
          clear k2 k10 k11 k12 k13 k14
          have HEE : Hid (endsAt now x.f = ([] : List Int) ++ x.f.blocks.flatMap fun b => endOf now b.lab) := Lib.hid (by rw [HEA.out, if_neg (by intro h; rcases h with h | h; exact HKD.out.1 h; exact HKD.out.2 h)])
          obtain ⟨E2, hE2⟩ : ∃ E2, E2 = E ++ ([] : List Int) := ⟨_, rfl⟩
          have hE2l : E2.length ≤ 25 * k + 1 := by rw [hE2, List.length_append]; have := hEl; simp; omega
          rw [← hE2] at HI2
          have HE2 := Lib.hid hE2
          clear hE2
          go_loopw [36] (fun i wr => ∃ j : Nat, j ≤ x.f.blocks.length ∧ i = .int .i64 j ∧ EndI W0 (E2 ++ (x.f.blocks.take j).flatMap fun b => endOf now b.lab) T (.cells x.cells 45 (0, 0)) wr ∧ ((x.f.blocks.take j).flatMap fun b => endOf now b.lab).length ≤ j) (fun i _ => x.f.blocks.length - (intOf i).toNat)
          case atStart => exact ⟨0, Nat.zero_le _, rfl, by simpa using HI2.out, Nat.zero_le _⟩
          case round =>
            obtain ⟨j, hj, rfl, hI3, hEj⟩ := hrel
            obtain ⟨wi, rfl⟩ : ∃ wi, wi = wr := ⟨_, rfl⟩
            by_cases hlj : j < x.f.blocks.length
            · obtain rfl := HBA.out (by omega)
              have hBW : Below W0.heap.size W0 wi := by obtain ⟨_, _, _, h, _⟩ := hI3; exact h
              obtain ⟨_, lo, lc, hints, c9⟩ := (HBL.out j hlj).nine (HS.out.bel hBW)
              obtain ⟨c0, c1, c2, c3, c4, c5, c6, c7, c8⟩ := c9
              have HST : Hid ((x.f.blocks.take (j + 1)).flatMap (fun b => endOf now b.lab) = (x.f.blocks.take j).flatMap (fun b => endOf now b.lab) ++ endOf now x.f.blocks[j].lab) := Lib.hid (by rw [List.take_succ_eq_append_getElem hlj, List.flatMap_append]; simp)
              have HI3 := Lib.hid hI3
              generalize x.f.blocks[j] = y at *
              obtain ⟨id, kind, text, story, ref, ⟨till, after, appr, denied⟩⟩ := y
              dsimp only at *
              have HCA := Lib.hid (add_any (HI3.out.bel ((Below.refl _ wi).alloc (Nat.le_refl _) (.cells #[.int .i64 id, .int .i64 kind, .string text, .int .i64 story, .int .i64 ref, .int .i64 till, .slice lo after.length lc, .int .i64 appr, .int .i64 denied] 56))) hnow.out (by rw [List.length_append]; omega) ⟨till, after, appr, denied⟩ (.slice lo after.length lc))
              generalize ((x.f.blocks.take j).flatMap fun b => endOf now b.lab) = EJ at *
              have hEl1 := endOf_len now ⟨till, after, appr, denied⟩
              clear hI3 hBW hints
              go_wp2_with fail
              refine HCA.out.mono ?_
              rintro e w3 ⟨rfl, hI4⟩
              have HI4 := Lib.hid hI4
              clear hI4 c0 c1 c2 c3 c4 c5 c6 c7 c8
              go_wp2_with fail
              go_roundw
              case rel => exact ⟨j + 1, by omega, by go_num, by rw [HST.out, ← List.append_assoc]; exact HI4.out, by rw [HST.out, List.length_append]; omega⟩
              case measure => simp [intOf]; omega
            · obtain rfl : j = x.f.blocks.length := by omega
              rw [List.take_length] at hI3
              have HHH : Hid (EndH W0 (endsF now ((gs.take (k + 1)).map FctE.f)) wi) := Lib.hid (by rw [HSN.out, HEE.out, ← List.append_assoc, ← HE2.out]; exact hI3.head)
              clear hI3 hEj
              go_wp2_with fail
              go_roundw
              case rel => exact ⟨k + 1, by omega, by go_num, HHH.out⟩
              case measure => simp [intOf]; omega
    · obtain rfl : k = gs.length := by omega
      rw [List.take_length] at hH
      have hEl : (endsF now (gs.map FctE.f)).length ≤ 25 * gs.length := by
        have := endsF_len now (gs.map FctE.f) (fun f hf => by obtain ⟨e, he, rfl⟩ := List.mem_map.1 hf; exact (HOK.out e he).2)
        rwa [List.length_map] at this
      obtain ⟨v, hx, hr, hb⟩ := hH
      obtain ⟨va, vc, rfl⟩ := hr.shape
      generalize hEE : endsF now (gs.map FctE.f) = E at *
      have HEE := Lib.hid hEE
      clear hEE
      have HX := Lib.hid hx
      have HR := Lib.hid hr
      have HB := Lib.hid hb
      have kv := blk_cell hx 0
      simp only [List.getElem?_toArray, List.getElem?_cons_zero] at kv
      clear hx hr hb
      go_wp2_with fail
      refine (sort_row HR.out (by omega)).mono ?_
      rintro e w2 ⟨rfl, hr2, hg2⟩
      have hx2 := (hg2.block W0.heap.size (Go.Proofs.YtgbihmafmmeicaaGreatDoor.hlt HX.out) (fun e => by have := HR.out.ge _ e.symm; omega)).trans HX.out
      have hge := HR.out.ge
      have HB2 : Hid (Below W0.heap.size W0 w2) := Lib.hid (HB.out.trans ((Below.refl _ wo).grown hg2 HB.out.size (fun k e => by have := hge k e; omega)))
      have hl2 : (sortL E).length = E.length := List.length_mergeSort _
      have HR2 : Hid (IRow w2 (W0.heap.size + 1) (.slice va E.length vc) (sortL E)) := Lib.hid hr2
      have HX2 := Lib.hid hx2
      clear kv hr2 hg2 hx2 hge
      have kv := blk_cell HX2.out 0
      simp only [List.getElem?_toArray, List.getElem?_cons_zero] at kv
      go_wp2_with fail
      refine (compact_row HR2.out (by omega)).mono ?_
      rintro e w3 ⟨v3, rfl, hr3, hg3, hv3⟩
      obtain ⟨a3, n3, c3, rfl⟩ := hr3.sl
      have hge := HR2.out.ge
      have HP : Hid (TimesPost (gs.map FctE.f) now w (.returned (.slice a3 n3 c3)) w3) := Lib.hid ⟨_, rfl, by rw [HEE.out]; exact ⟨hr3.1, hr3.2.imp id (fun ⟨g, cp, cur, h1, h2, h3⟩ => ⟨g, cp, cur, h1, by have := hN.out; omega, h3⟩)⟩, hB0.out.trans ((HB2.out.trans ((Below.refl _ w2).grown hg3 HB2.out.size (fun k e => by have := hge k e; omega))).mono hB0.out.size)⟩
      clear kv hr3 hg3 hv3 hge
      go_wp2_with fail
      go_ret
      exact HP.out
end Go.Proofs.YtgbihmafmmeicaaGreatDoor
/-
  WHAT IS PROVED HERE: the walks of sort.Search at access.Next's closure, of fact.SameList. Condition: fact.Same returns, where the lists are of one length.
-/
namespace Go.Proofs.YtgbihmafmmeicaaGreatDoor
open Go.RowKit Mg Go.Shelf Go.Maps Go.Sort

theorem half_cast (lo hi : Nat) : (((lo + hi) / 2 : Nat) : Int) = ((lo : Int) + (hi : Int)) / 2 := by omega
/-- what sort.Search answers -/
def SearchPost (n : Nat) (R : Nat → Bool → Prop) (W : World) (e : Ending) (w' : World) : Prop := ∃ r : Nat, e = .returned (.int .i64 r) ∧ r ≤ n ∧ (r < n → R r true) ∧ (0 < r → R (r - 1) false) ∧ Below W.heap.size W w'
def RetB (R : Bool → Prop) (W : World) (e : Ending) (w' : World) : Prop := ∃ b, e = .returned (.bool b) ∧ R b ∧ Below W.heap.size W w'
set_option maxRecDepth 100000 in
set_option maxHeartbeats 2000000 in
theorem search_any (p1 p2 p3 p4 : Value) (n : Nat) (R : Nat → Bool → Prop) (W : World) (hn : n ≤ 100000)
    (hf : ∀ (W' : World) (i : Nat), i < n → Below W.heap.size W W' → Calls Tryz.prog 48 #[.int .i64 i, p1, p2, p3, p4] W' (RetB (R i) W')) :
    Calls Tryz.prog 47 #[.int .i64 n, .func (.func 48) #[] #[p1, p2, p3, p4]] W (SearchPost n R W) := by
  have HF := Lib.hid hf
  clear hf
  go_enter Tryz.func47, Tryz.ntmps47
  go_wp2_with fail
  go_loopw [5, 6] (fun s5 s6 wr => ∃ lo hi : Nat, s5 = .int .i64 lo ∧ s6 = .int .i64 hi ∧ lo ≤ hi ∧ hi ≤ n ∧ (hi < n → R hi true) ∧ (0 < lo → R (lo - 1) false) ∧ Below W.heap.size W wr) (fun s5 s6 _ => (intOf s6).toNat - (intOf s5).toNat)
  case atStart => exact ⟨0, n, rfl, rfl, Nat.zero_le _, Nat.le_refl _, fun h => by omega, fun h => by omega, Below.refl _ _⟩
  case round =>
    obtain ⟨lo, hi, rfl, rfl, hlh, hin, h1, h2, hb⟩ := hrel
    obtain ⟨wo, rfl⟩ : ∃ wo, wo = wr := ⟨_, rfl⟩
    have HB := Lib.hid hb
    have H1 := Lib.hid h1
    have H2 := Lib.hid h2
    clear hb h1 h2
    by_cases hlt : lo < hi
    · have hc := HF.out wo ((lo + hi) / 2) (by omega) HB.out
      rw [half_cast] at hc
      have HC := Lib.hid hc
      clear hc
      go_wp2_with fail
      refine HC.out.mono ?_
      rintro e w3 ⟨b, rfl, hR, hb3⟩
      have HR := Lib.hid hR
      have HB3 := Lib.hid (HB.out.trans (hb3.mono HB.out.size))
      clear hR hb3
      cases b
      · go_wp2_with fail
        refine ⟨⟨(lo + hi) / 2 + 1, hi, by rw [← half_cast]; rfl, rfl, by omega, hin, H1.out, fun _ => by simpa using HR.out, HB3.out⟩, ?_⟩
        simp [intOf]; omega
      · go_wp2_with fail
        refine ⟨⟨lo, (lo + hi) / 2, rfl, by rw [← half_cast], by omega, by omega, fun _ => HR.out, H2.out, HB3.out⟩, ?_⟩
        simp [intOf]; omega
    · obtain rfl : lo = hi := by omega
      go_wp2_with fail
      go_ret
      exact ⟨lo, rfl, hin, H1.out, H2.out, HB.out⟩
end Go.Proofs.YtgbihmafmmeicaaGreatDoor
/-
  WHAT IS PROVED HERE: the walk of fact.SameList. Condition: fact.Same returns, where the lists are of one length.
-/
namespace Go.Proofs.YtgbihmafmmeicaaGreatDoor
open Go.RowKit Mg Go.Shelf Go.Maps Go.Sort

/-- fact.Same returns at any two facts -/
def FSame : Prop := ∀ (mem : Addr → Option Value) (e1 e2 : FctE) (w : World), Sees mem w → e1.ok mem → e2.ok mem → Calls Tryz.prog 67 #[.agg e1.cells, .agg e2.cells] w (RetB (fun _ => True) w)
theorem EsM.open_ {mem : Addr → Option Value} {v : Value} {es : List FctE} (h : EsM mem v es) : ∃ ao cap b o, v = .slice ao es.length cap ∧ es.length ≤ maxLen ∧ (0 < es.length → ao = some ⟨b, o, none⟩) ∧ ∀ j (h : j < es.length), es[j].ok mem ∧ es[j].at mem b (o + j * 23) := by
  obtain ⟨b, o, ⟨_, ao, cap, h1, h2, h3, h4⟩, h5⟩ := h
  exact ⟨ao, cap, b, o, h1, by omega, h4, h5⟩
set_option maxRecDepth 100000 in
set_option maxHeartbeats 2000000 in
theorem eqFacts_any {mem : Addr → Option Value} (v1 v2 : Value) (es1 es2 : List FctE) (h1 : EsM mem v1 es1) (h2 : EsM mem v2 es2) (w : World) (hs : Sees mem w) (hS : es1.length = es2.length → FSame) :
    Calls Tryz.prog 66 #[v1, v2, .func (.func 67) #[] #[]] w (RetB (fun b => b = true → es1.length = es2.length) w) := by
  obtain ⟨a1, c1, b1, o1, rfl, hm1, ha1, he1⟩ := h1.open_
  obtain ⟨a2, c2, b2, o2, rfl, hm2, ha2, he2⟩ := h2.open_
  unfold maxLen at hm1 hm2
  have HS := Lib.hid hs
  have HF := Lib.hid hS
  have HA1 := Lib.hid ha1
  have HA2 := Lib.hid ha2
  have HE1 := Lib.hid he1
  have HE2 := Lib.hid he2
  have hl1 : (es1.length : Int) ≤ 9223372036854775807 := by omega
  have hl2 : (es2.length : Int) ≤ 9223372036854775807 := by omega
  clear hs hS ha1 ha2 he1 he2 h1 h2 hm1 hm2
  by_cases hne : es1.length = es2.length
  · have HNE := Lib.hid hne
    have HC := Lib.hid (HF.out hne)
    obtain ⟨n2, hn2⟩ : ∃ n2, n2 = es2.length := ⟨_, rfl⟩
    have HN2' := Lib.hid hn2
    rw [show (Value.slice a2 es2.length c2) = .slice a2 es1.length c2 by rw [hne]]
    clear hn2
    clear hne
    go_enter Tryz.func66, Tryz.ntmps66
    go_wp2_with fail
    go_loopw [17] (fun i wr => ∃ k : Nat, k ≤ es1.length ∧ i = .int .i64 k ∧ Below w.heap.size w wr) (fun i _ => es1.length - (intOf i).toNat)
    case atStart => exact ⟨0, Nat.zero_le _, rfl, Below.refl _ _⟩
    case round =>
      obtain ⟨k, hk, rfl, hb⟩ := hrel
      obtain ⟨wo, rfl⟩ : ∃ wo, wo = wr := ⟨_, rfl⟩
      by_cases hlt : k < es1.length
      · obtain rfl := HA1.out (by omega)
        obtain rfl := HA2.out (by have := HNE.out; omega)
        have hlt2 : k < es2.length := by have := HNE.out; omega
        obtain ⟨hok1, hat1⟩ := HE1.out k hlt
        obtain ⟨hok2, hat2⟩ := HE2.out k hlt2
        have hsw := HS.out.bel hb
        have HAT1 : Hid (es1[k].at (fun p => wo.cell? p) b1 (o1 + k * 23)) := Lib.hid (fun j u hj => hsw _ _ (hat1 j u hj))
        have HAT2 : Hid (es2[k].at (fun p => (wo.alloc (.cells es1[k].cells 45)).cell? p) b2 (o2 + k * 23)) := Lib.hid (fun j u hj => ((Below.refl _ wo).alloc (Nat.le_refl _) _).cell (World.block_lt_of_cell? _ _ (hsw _ _ (hat2 j u hj))) |>.trans (hsw _ _ (hat2 j u hj)))
        have HB := Lib.hid hb
        have HCA := Lib.hid (fun W (h : Below w.heap.size w W) => HC.out mem es1[k] es2[k] W (HS.out.bel h) hok1 hok2)
        have hsz1 : Hid (es1[k].cells.size = 23) := Lib.hid rfl
        have hone1 := Lib.hid (es1[k].one)
        have hsz2 : Hid (es2[k].cells.size = 23) := Lib.hid rfl
        have hone2 := Lib.hid (es2[k].one)
        clear hok1 hat1 hok2 hat2 hsw hb
        generalize es1[k] = x at *
        generalize es2[k] = y at *
        clear hlt2
        have HB2 : Hid (Below w.heap.size w ((wo.alloc (.cells x.cells 45)).alloc (.cells y.cells 45))) := Lib.hid ((HB.out.alloc HB.out.size _).alloc (by have := HB.out.size; simp; omega) _)
        have HN1 := Lib.hid (heap_new1 wo (.cells x.cells 45) (.cells y.cells 45))
        have HN2 := Lib.hid (heap_new2 wo (.cells x.cells 45) (.cells y.cells 45))
        go_upto_region 7 with (first
          | ((with_reducible refine at_fload (.tmp 20) rfl ?_); go_must (refine wpList_fct_mid rfl _ rfl (by simp [Act.eval]) HAT1.out ?_))
          | ((with_reducible refine at_fload (.tmp 24) rfl ?_); go_must (refine wpList_fct_mid rfl _ rfl (by simp [Act.eval]) HAT2.out ?_))
          | ((with_reducible refine at_fstore (.tmp 8) _ rfl ?_); go_must (refine wpList_fct_new rfl _ _ rfl rfl _ _ _ (by simp [Act.eval]) (by simp [Act.eval]) (by rfl) hsz1.out hone1.out ?_))
          | ((with_reducible refine at_fstore (.tmp 9) _ rfl ?_); go_must (refine wpList_fct_new rfl _ _ rfl rfl _ _ _ (by simp [Act.eval]) (by simp [Act.eval]) (by rfl) hsz2.out hone2.out ?_)))
        generalize hW2 : (wo.alloc (.cells x.cells 45)).alloc (.cells y.cells 45) = W2 at *
        generalize hG : wo.heap.size = G at *
        clear hW2
        go_wp2_with (first
          | ((with_reducible refine at_fload (.tmp 8) rfl ?_); go_must (refine wpList_fct_load rfl _ rfl G (by first | (simp [Act.eval]; done) | simp [Act.eval, Act.put]) _ HN1.out hsz1.out ?_))
          | ((with_reducible refine at_fload (.tmp 9) rfl ?_); go_must (refine wpList_fct_load rfl _ rfl (G + 1) (by first | (simp [Act.eval]; done) | simp [Act.eval, Act.put]) _ HN2.out hsz2.out ?_)))
        refine (HCA.out _ HB2.out).mono ?_
        rintro e w3 ⟨b, rfl, _, hb3⟩
        have HB3 := Lib.hid (HB2.out.trans (hb3.mono HB2.out.size))
        clear hb3
        cases b
        · go_wp2_with fail
          go_ret
          exact ⟨false, rfl, (fun h => by cases h), HB3.out⟩
        · go_wp2_with fail
          go_roundw
          case rel => exact ⟨k + 1, by omega, by go_num, HB3.out⟩
          case measure => simp [intOf]; omega
      · obtain rfl : k = es1.length := by omega
        have HB := Lib.hid hb
        clear hb
        go_wp2_with fail
        go_ret
        exact ⟨true, rfl, fun _ => HNE.out, HB.out⟩
  · have hne2 : ((es1.length : Int) != (es2.length : Int)) = true := by simpa using (fun h => hne (by omega))
    have HNE := Lib.hid hne
    clear hne
    go_enter Tryz.func66, Tryz.ntmps66
    go_wp2_with fail
    all_goals first
      | (go_ret
         exact ⟨false, rfl, (fun h => by cases h), Below.refl _ _⟩)
      | (exfalso; have h := HNE.out; simp_all; done)
set_option maxRecDepth 100000 in
theorem sameFacts_any {mem : Addr → Option Value} (v1 v2 : Value) (es1 es2 : List FctE) (h1 : EsM mem v1 es1) (h2 : EsM mem v2 es2) (w : World) (hs : Sees mem w) (hS : es1.length = es2.length → FSame) :
    Calls Tryz.prog 49 #[v1, v2] w (RetB (fun b => b = true → es1.length = es2.length) w) := by
  have HC := Lib.hid (eqFacts_any v1 v2 es1 es2 h1 h2 w hs hS)
  obtain ⟨a1, c1, b1, o1, rfl, _⟩ := h1.open_
  obtain ⟨a2, c2, b2, o2, rfl, _⟩ := h2.open_
  clear h1 h2 hs hS
  go_enter Tryz.func49, Tryz.ntmps49
  go_wp2_with fail
  refine HC.out.mono ?_
  rintro e w3 ⟨b, rfl, hR, hb⟩
  have HR := Lib.hid hR
  have HB := Lib.hid hb
  clear hR hb
  go_wp2_with fail
  go_ret
  exact ⟨b, rfl, HR.out, HB.out⟩
end Go.Proofs.YtgbihmafmmeicaaGreatDoor
/-
  WHAT IS PROVED HERE: the walks of access.Next's closure and of access.Next. Condition: fact.Same returns, or no two lists that are compared are of one length.
-/
namespace Go.Proofs.YtgbihmafmmeicaaGreatDoor
open Go.RowKit Mg Go.Shelf Go.Maps Go.Sort

/-- a time at which the class sees a list of n facts -/
def SeesN (D : List Fct) (cls t : Int) (n : Nat) : Prop := ∃ L, (0 ≤ cls → cls < 4 → OutIs (digF D) cls t L) ∧ (visOf D cls t L).length = n
/-- fact.Same returns, or no list of n facts is seen at the times E -/
def NoTie (D : List Fct) (cls : Int) (n : Nat) (E : List Int) : Prop := FSame ∨ ∀ t ∈ E, ¬ SeesN D cls t n
structure NextM (W : World) (sb db cb eb d B : Nat) (gs : List FctE) (cls : Int) (sv : Value) (ss : List FctE) (ev : Value) (E : List Int) : Prop where
  sb : W.heap[sb]? = some (.cells #[sv] 25 (0, 0))
  db : W.heap[db]? = some (.cells #[.pointer (some ⟨d, 0, none⟩)] 63 (0, 0))
  cb : W.heap[cb]? = some (.cells #[.int .i64 cls] 3 (0, 0))
  eb : W.heap[eb]? = some (.cells #[ev] 30 (0, 0))
  dig : DigAt W B d gs
  row : EsM (fun a => W.cell? a) sv ss
  ends : IntsM (fun a => W.cell? a) ev E
theorem NextM.bel {W W' : World} {sb db cb eb d B : Nat} {gs : List FctE} {cls : Int} {sv : Value} {ss : List FctE} {ev : Value} {E : List Int} (h : NextM W sb db cb eb d B gs cls sv ss ev E) (hb : Below W.heap.size W W') : NextM W' sb db cb eb d B gs cls sv ss ev E :=
  ⟨(hb.block _ (Go.Proofs.YtgbihmafmmeicaaGreatDoor.hlt h.sb)).trans h.sb, (hb.block _ (Go.Proofs.YtgbihmafmmeicaaGreatDoor.hlt h.db)).trans h.db, (hb.block _ (Go.Proofs.YtgbihmafmmeicaaGreatDoor.hlt h.cb)).trans h.cb, (hb.block _ (Go.Proofs.YtgbihmafmmeicaaGreatDoor.hlt h.eb)).trans h.eb, h.dig.bel hb, h.row.mono (sees_bel hb), h.ends.mono (sees_bel hb)⟩
set_option maxRecDepth 100000 in
set_option maxHeartbeats 2000000 in
theorem next1_any {mem : Addr → Option Value} {W : World} {sb db cb eb d B : Nat} {gs : List FctE} {cls : Int} {sv : Value} {ss : List FctE} {ev : Value} {E : List Int} (h : NextM W sb db cb eb d B gs cls sv ss ev E) (hok : ∀ e ∈ gs, e.ok mem ∧ validF e.f = true) (hs : Sees mem W) (hlen : gs.length ≤ 1000) (hT : NoTie (gs.map FctE.f) cls ss.length E) (i : Nat) (hi : i < E.length) :
    Calls Tryz.prog 48 #[.int .i64 i, .pointer (some ⟨sb, 0, none⟩), .pointer (some ⟨db, 0, none⟩), .pointer (some ⟨cb, 0, none⟩), .pointer (some ⟨eb, 0, none⟩)] W (RetB (fun b => b = false → SeesN (gs.map FctE.f) cls E[i] ss.length) W) := by
  obtain ⟨sa, sc, _, _, rfl, _, _, _⟩ := h.row.open_
  obtain ⟨ea, ec, eg, eo, rfl, hec, hem, hea, hei⟩ := h.ends.open_ (fun a u h => h)
  unfold maxLen at hem
  obtain rfl := hea (by omega)
  have H := Lib.hid h
  have HOK := Lib.hid hok
  have HS := Lib.hid hs
  have HT := Lib.hid hT
  have hii := hei i hi
  obtain ⟨t, ht⟩ : ∃ t, t = E[i] := ⟨_, rfl⟩
  rw [← ht] at hii ⊢
  have HTE : Hid (t ∈ E) := Lib.hid (by rw [ht]; exact List.getElem_mem hi)
  have k0 := blk_cell h.sb 0
  have k1 := blk_cell h.db 0
  have k2 := blk_cell h.cb 0
  have k3 := blk_cell h.eb 0
  simp only [List.getElem?_toArray, List.getElem?_cons_zero] at k0 k1 k2 k3
  have HSS : Hid (W.drew.cell? ⟨sb, 0, none⟩ = some (.slice sa ss.length sc) ∧ W.drew.cell? ⟨db, 0, none⟩ = some (.pointer (some ⟨d, 0, none⟩)) ∧ W.drew.cell? ⟨cb, 0, none⟩ = some (.int .i64 cls) ∧ W.drew.cell? ⟨eb, 0, none⟩ = some (.slice (some ⟨eg, eo, none⟩) E.length ec) ∧ W.drew.cell? ⟨eg, eo + i, none⟩ = some (.int .i64 t)) := Lib.hid ⟨k0, k1, k2, k3, hii⟩
  have hil : (i : Int) < E.length := by omega
  clear h hok hs hT ht hii k0 k1 k2 k3 hea hei
  go_enter Tryz.func48, Tryz.ntmps48
  go_wp2_with fail
  refine wp_mix [mT, mT, mT, mT, mT, mT, mT, mF, mF, mF, mF] 1000 (fun W2 => W2.cell? ⟨sb, 0, none⟩ = some (.slice sa ss.length sc) ∧ W2.cell? ⟨db, 0, none⟩ = some (.pointer (some ⟨d, 0, none⟩)) ∧ W2.cell? ⟨cb, 0, none⟩ = some (.int .i64 cls) ∧ W2.cell? ⟨eb, 0, none⟩ = some (.slice (some ⟨eg, eo, none⟩) E.length ec) ∧ W2.cell? ⟨eg, eo + i, none⟩ = some (.int .i64 t)) (by kernel_rfl) (by kernel_rfl) HSS.out ?_
  refine wpMix_take (.slice sa ss.length sc) (fun _ _ _ _ h => h) HSS.out (by rfl) (fun W2 hW => by have q0 := hW.1; go_simp) ?_
  simp only [Act.put, List.setIfInBounds_toArray, List.set_cons_zero, List.set_cons_succ]
  refine wpMix_take (.pointer (some ⟨d, 0, none⟩)) (fun _ _ _ _ h => h) HSS.out (by rfl) (fun W2 hW => by have q0 := hW.2.1; go_simp) ?_
  simp only [Act.put, List.setIfInBounds_toArray, List.set_cons_zero, List.set_cons_succ]
  refine wpMix_take (.int .i64 cls) (fun _ _ _ _ h => h) HSS.out (by rfl) (fun W2 hW => by have q0 := hW.2.2.1; go_simp) ?_
  simp only [Act.put, List.setIfInBounds_toArray, List.set_cons_zero, List.set_cons_succ]
  refine wpMix_take (.slice (some ⟨eg, eo, none⟩) E.length ec) (fun _ _ _ _ h => h) HSS.out (by rfl) (fun W2 hW => by have q0 := hW.2.2.2.1; go_simp) ?_
  simp only [Act.put, List.setIfInBounds_toArray, List.set_cons_zero, List.set_cons_succ]
  refine wpMix_take (.int .i64 i) (fun _ _ _ _ h => h) HSS.out (by rfl) (fun W2 hW => by go_simp) ?_
  simp only [Act.put, List.setIfInBounds_toArray, List.set_cons_zero, List.set_cons_succ]
  refine wpMix_take (.pointer (some ⟨eg, eo + i, none⟩)) (fun _ _ _ _ h => h) HSS.out (by rfl) (fun W2 hW => by go_simp) ?_
  simp only [Act.put, List.setIfInBounds_toArray, List.set_cons_zero, List.set_cons_succ]
  refine wpMix_take (.int .i64 t) (fun _ _ _ _ h => h) HSS.out (by rfl) (fun W2 hW => by have q0 := hW.2.2.2.2; go_simp) ?_
  simp only [Act.put, List.setIfInBounds_toArray, List.set_cons_zero, List.set_cons_succ]
  refine wpMix_step (fun K hK => ?_)
  go_simp
  refine (visible_any cls t W.drew (H.out.dig.bel ((Below.refl _ W).drew)) HOK.out (HS.out.bel ((Below.refl _ W).drew)) hlen).mono ?_
  rintro e w3 ⟨v3, ys, L, rfl, hL, hys, hrow, hyok, hb3⟩
  obtain ⟨ya, yn, yc, rfl⟩ := hrow.sl
  dsimp only
  have HSS3 : Hid (w3.cell? ⟨sb, 0, none⟩ = some (.slice sa ss.length sc) ∧ w3.cell? ⟨db, 0, none⟩ = some (.pointer (some ⟨d, 0, none⟩)) ∧ w3.cell? ⟨cb, 0, none⟩ = some (.int .i64 cls) ∧ w3.cell? ⟨eb, 0, none⟩ = some (.slice (some ⟨eg, eo, none⟩) E.length ec) ∧ w3.cell? ⟨eg, eo + i, none⟩ = some (.int .i64 t)) := Lib.hid (by
    obtain ⟨k0, k1, k2, k3, k4⟩ := HSS.out
    exact ⟨sees_bel hb3 _ _ k0, sees_bel hb3 _ _ k1, sees_bel hb3 _ _ k2, sees_bel hb3 _ _ k3, sees_bel hb3 _ _ k4⟩)
  have hyl : ys.length = (visOf (gs.map FctE.f) cls t L).length := by rw [← hys, List.length_map]
  have HY := Lib.hid (hrow.es (fun y hy => (hyok y hy).mono (memFr_sees _ _)))
  have HR := Lib.hid ((H.out.bel ((Below.refl _ W).drew)).bel hb3).row
  have HN : Hid (ss.length = ys.length → SeesN (gs.map FctE.f) cls t ss.length) := Lib.hid (fun h => ⟨L, hL, by rw [h, hyl]⟩)
  have HB3 : Hid (Below W.heap.size W w3) := Lib.hid (((Below.refl _ W).drew).trans hb3)
  refine hK _ _ HSS3.out ?_
  clear hK K hL hys hrow hyok hb3 hyl
  refine wpMix_step (fun K hK => ?_)
  go_simp
  refine (sameFacts_any (.slice sa ss.length sc) (.slice ya yn yc) ss ys HR.out HY.out w3 (fun a u h => h) (fun e => by
    rcases HT.out with h | h
    · exact h
    · exact absurd (HN.out e) (h t HTE.out))).mono ?_
  rintro e w4 ⟨b, rfl, hbr, hb4⟩
  dsimp only
  have HSS4 : Hid (w4.cell? ⟨sb, 0, none⟩ = some (.slice sa ss.length sc) ∧ w4.cell? ⟨db, 0, none⟩ = some (.pointer (some ⟨d, 0, none⟩)) ∧ w4.cell? ⟨cb, 0, none⟩ = some (.int .i64 cls) ∧ w4.cell? ⟨eb, 0, none⟩ = some (.slice (some ⟨eg, eo, none⟩) E.length ec) ∧ w4.cell? ⟨eg, eo + i, none⟩ = some (.int .i64 t)) := Lib.hid (by
    obtain ⟨k0, k1, k2, k3, k4⟩ := HSS3.out
    exact ⟨sees_bel hb4 _ _ k0, sees_bel hb4 _ _ k1, sees_bel hb4 _ _ k2, sees_bel hb4 _ _ k3, sees_bel hb4 _ _ k4⟩)
  have HB4 := Lib.hid (HB3.out.trans (hb4.mono HB3.out.size))
  have HBR := Lib.hid hbr
  refine hK _ _ HSS4.out ?_
  clear hK K hbr hb4
  refine wpMix_step (fun K hK => ?_); go_simp; refine hK _ _ HSS4.out ?_; clear hK K
  refine wpMix_step (fun K hK => ?_); go_simp; refine hK _ _ HSS4.out ?_; clear hK K
  refine wpMix_nil ?_
  go_wp2_with fail
  go_ret
  exact ⟨!b, rfl, fun e => HN.out (HBR.out (by simpa using e)), HB4.out⟩
end Go.Proofs.YtgbihmafmmeicaaGreatDoor
/-
  WHAT IS PROVED HERE: the walk of access.Next. Condition: fact.Same returns, or no two lists that are compared are of one length.
-/
namespace Go.Proofs.YtgbihmafmmeicaaGreatDoor
open Go.RowKit Mg Go.Shelf Go.Maps Go.Sort

def endsOf (D : List Fct) (now : Int) : List Int := Lib.compact (sortL (endsF now D))
/-- what Next answers: -1, or a time of E ahead of which as much is seen as now -/
def NextPost (D : List Fct) (cls now : Int) (w : World) (e : Ending) (w' : World) : Prop :=
  ∃ (r : Nat) (n : Int) (k : Nat), e = .returned (.int .i64 n) ∧ SeesN D cls now k ∧ r ≤ (endsOf D now).length ∧ (r = (endsOf D now).length → n = -1) ∧ (∀ h : r < (endsOf D now).length, n = (endsOf D now)[r]) ∧ (0 < r → ∃ h : r - 1 < (endsOf D now).length, SeesN D cls (endsOf D now)[r - 1] k) ∧ Below w.heap.size w w'
set_option maxRecDepth 100000 in
set_option maxHeartbeats 2000000 in
theorem next_any {mem : Addr → Option Value} (v : Value) (es : List FctE) (hes : EsM mem v es) (ht : ∀ e ∈ es, Tidy e.f) (hlen : es.length ≤ 1000) (cls now : Int) (w : World) (hs : Sees mem w) (hmem : ∀ a u, mem a = some u → a.block < w.heap.size)
    (hT : ∀ k, SeesN ((es.map FctE.f).filter validF) cls now k → NoTie ((es.map FctE.f).filter validF) cls k (endsOf ((es.map FctE.f).filter validF) now)) :
    Calls Tryz.prog 29 #[v, .int .i64 cls, .int .i64 now] w (NextPost ((es.map FctE.f).filter validF) cls now w) := by
  have hsl : ∃ ao n cap, v = .slice ao n cap := by
    obtain ⟨_, _, ⟨_, ao, cap, rfl, _⟩, _⟩ := hes
    exact ⟨_, _, _, rfl⟩
  have hb0 : Below w.heap.size w (w.alloc (.cells #[.int .i64 cls] 3)) := (Below.refl _ w).alloc (Nat.le_refl _) _
  have c1 := Lib.hid (read_any v es hes ht hlen (w.alloc (.cells #[.int .i64 cls] 3)) (hs.bel hb0) (fun a u h => by have := hmem a u h; simp; omega))
  have HOK := Lib.hid (goodE_ok hes)
  have hgl : Hid ((goodE es).length ≤ 1000) := Lib.hid (by have := goodE_len es; omega)
  rw [← goodE_map] at hT ⊢
  generalize goodE es = gs at *
  have HT := Lib.hid hT
  have HS := Lib.hid (hs.bel hb0)
  have HB0 := Lib.hid hb0
  have HC := Lib.hid (World.alloc_heap_new w (.cells #[.int .i64 cls] 3))
  obtain ⟨ao, n, cap, rfl⟩ := hsl
  have hz0 : (w.alloc (.cells #[.int .i64 cls] 3)).heap.size = w.heap.size + 1 := by simp
  have HZ := Lib.hid hz0
  clear hes ht hs hmem hlen hb0 hT hz0
  go_enter Tryz.func29, Tryz.ntmps29
  go_upto_region 1 with fail
  generalize hW0 : w.alloc (.cells #[.int .i64 cls] 3) = W0 at *
  clear hW0
  go_wp2_with fail
  refine c1.out.mono ?_
  rintro e w1 ⟨d, rfl, _, hD, hb⟩
  have HD := Lib.hid hD
  have HB1 := Lib.hid hb
  clear hD hb c1
  -- the box of the digest
  have HB2 : Hid (Below w1.heap.size w1 (w1.alloc (.cells #[.pointer (some ⟨d, 0, none⟩)] 63))) := Lib.hid ((Below.refl _ w1).alloc (Nat.le_refl _) _)
  have HDB := Lib.hid (World.alloc_heap_new w1 (.cells #[.pointer (some ⟨d, 0, none⟩)] 63))
  go_upto_region 2 with fail
  generalize hW2 : w1.alloc (.cells #[.pointer (some ⟨d, 0, none⟩)] 63) = W2 at *
  generalize hdb : w1.heap.size = db at *
  clear hW2
  have HB12 : Hid (Below W0.heap.size W0 W2) := Lib.hid (HB1.out.trans (HB2.out.mono (by rw [← hdb]; exact HB1.out.size)))
  have k0 := blk_cell HDB.out 0
  have k1 := blk_cell ((HB12.out.block _ (Go.Proofs.YtgbihmafmmeicaaGreatDoor.hlt HC.out)).trans HC.out) 0
  simp only [List.getElem?_toArray, List.getElem?_cons_zero] at k0 k1
  have c2 := Lib.hid (visible_any cls now W2 (HD.out.bel (by rw [hdb]; exact HB2.out)) HOK.out (HS.out.bel HB12.out) hgl.out)
  go_wp2_with fail
  refine c2.out.mono ?_
  rintro e w3 ⟨v3, ss, L, rfl, hL, hss, hrow, hyok, hb3⟩
  obtain ⟨ya, yn, yc, rfl⟩ := hrow.sl
  have HSN : Hid (SeesN (gs.map FctE.f) cls now ss.length) := Lib.hid ⟨L, hL, by rw [← hss, List.length_map]⟩
  have HY := Lib.hid (hrow.es (fun y hy => (hyok y hy).mono (memFr_sees _ _)))
  have HB3 := Lib.hid hb3
  clear k0 k1 hL hss hrow hyok hb3 c2
  -- the box of what is seen
  have HB4 : Hid (Below w3.heap.size w3 (w3.alloc (.cells #[.slice ya yn yc] 25))) := Lib.hid ((Below.refl _ w3).alloc (Nat.le_refl _) _)
  have HSB := Lib.hid (World.alloc_heap_new w3 (.cells #[.slice ya yn yc] 25))
  go_upto_region 3 with fail
  generalize hW4 : w3.alloc (.cells #[.slice ya yn yc] 25) = W4 at *
  generalize hsb : w3.heap.size = sb at *
  clear hW4
  have HY4 : Hid (EsM (fun a => W4.cell? a) (.slice ya yn yc) ss) := Lib.hid (HY.out.mono (sees_bel (by rw [hsb]; exact HB4.out)))
  have HB24 : Hid (Below W2.heap.size W2 W4) := Lib.hid (HB3.out.trans (HB4.out.mono (by rw [← hsb]; exact HB3.out.size)))
  have HB04 : Hid (Below W0.heap.size W0 W4) := Lib.hid (HB12.out.trans (HB24.out.mono HB12.out.size))
  have HDB4 := Lib.hid ((HB24.out.block db (Go.Proofs.YtgbihmafmmeicaaGreatDoor.hlt HDB.out)).trans HDB.out)
  have k0 := blk_cell HDB4.out 0
  simp only [List.getElem?_toArray, List.getElem?_cons_zero] at k0
  have HD4 := Lib.hid ((HD.out.bel (by rw [hdb]; exact HB2.out)).bel HB24.out)
  have c3 := Lib.hid (times_any now W4 HD4.out HOK.out (HS.out.bel HB04.out) hgl.out)
  go_wp2_with fail
  refine c3.out.mono ?_
  rintro e w5 ⟨v5, rfl, hrow, hb5⟩
  obtain ⟨ea, ec, rfl⟩ := hrow.shape
  have HR5 := Lib.hid hrow
  have HB5 := Lib.hid hb5
  clear k0 hrow hb5 c3
  -- the box of the times
  have HB6 : Hid (Below w5.heap.size w5 (w5.alloc (.cells #[.slice ea (Lib.compact (sortL (endsF now (gs.map FctE.f)))).length ec] 30))) := Lib.hid ((Below.refl _ w5).alloc (Nat.le_refl _) _)
  have HEB := Lib.hid (World.alloc_heap_new w5 (.cells #[.slice ea (Lib.compact (sortL (endsF now (gs.map FctE.f)))).length ec] 30))
  have HEN : Hid (endsOf (gs.map FctE.f) now = Lib.compact (sortL (endsF now (gs.map FctE.f)))) := Lib.hid rfl
  have hEl : (Lib.compact (sortL (endsF now (gs.map FctE.f)))).length ≤ 25000 := by
    have h1 := compact_len (sortL (endsF now (gs.map FctE.f)))
    have h2 : (sortL (endsF now (gs.map FctE.f))).length = (endsF now (gs.map FctE.f)).length := List.length_mergeSort _
    have h3 := endsF_len now (gs.map FctE.f) (fun f hf => by obtain ⟨e, he, rfl⟩ := List.mem_map.1 hf; exact (HOK.out e he).2)
    have h4 := hgl.out
    rw [List.length_map] at h3
    omega
  generalize Lib.compact (sortL (endsF now (gs.map FctE.f))) = E at *
  go_upto_region 4 with fail
  generalize hW6 : w5.alloc (.cells #[.slice ea E.length ec] 30) = W6 at *
  generalize heb : w5.heap.size = eb at *
  clear hW6
  have HB46 : Hid (Below W4.heap.size W4 W6) := Lib.hid (HB5.out.trans (HB6.out.mono (by rw [← heb]; exact HB5.out.size)))
  have HB06 : Hid (Below W0.heap.size W0 W6) := Lib.hid (HB04.out.trans (HB46.out.mono HB04.out.size))
  have HR6 := Lib.hid (HR5.out.bel (by rw [heb]; exact HB6.out))
  have HNM : Hid (NextM W6 sb db w.heap.size eb d (W0.heap.size + 5) gs cls (.slice ya yn yc) ss (.slice ea E.length ec) E) := Lib.hid ⟨(HB46.out.block _ (Go.Proofs.YtgbihmafmmeicaaGreatDoor.hlt HSB.out)).trans HSB.out, (HB46.out.block _ (Go.Proofs.YtgbihmafmmeicaaGreatDoor.hlt HDB4.out)).trans HDB4.out, (HB06.out.block _ (Go.Proofs.YtgbihmafmmeicaaGreatDoor.hlt HC.out)).trans HC.out, HEB.out, HD4.out.bel HB46.out, HY4.out.mono (sees_bel HB46.out), HR6.out.ints⟩
  have c4 : Hid (Calls Tryz.prog 47 #[.int .i64 E.length, .func (.func 48) #[] #[.pointer (some ⟨sb, 0, none⟩), .pointer (some ⟨db, 0, none⟩), .pointer (some ⟨w.heap.size, 0, none⟩), .pointer (some ⟨eb, 0, none⟩)]] W6 (SearchPost E.length (fun i b => b = false → ∃ h : i < E.length, SeesN (gs.map FctE.f) cls E[i] ss.length) W6)) :=
    Lib.hid (search_any _ _ _ _ E.length _ W6 (by omega) (fun W' i hi hb => (next1_any (HNM.out.bel hb) HOK.out ((HS.out.bel HB06.out).bel hb) hgl.out (by have := HT.out _ HSN.out; rw [HEN.out] at this; exact this) i hi).mono (fun e w' ⟨b, h1, h2, h3⟩ => ⟨b, h1, fun e => ⟨hi, h2 e⟩, h3⟩)))
  have ke := blk_cell HEB.out 0
  simp only [List.getElem?_toArray, List.getElem?_cons_zero] at ke
  go_wp2_with fail
  refine c4.out.mono ?_
  rintro e w7 ⟨r, rfl, hr, hr1, hr2, hb7⟩
  have HB7 : Hid (Below w.heap.size w w7) := Lib.hid (HB0.out.trans ((HB06.out.trans (hb7.mono HB06.out.size)).mono HB0.out.size))
  have HR2 : Hid (0 < r → ∃ h : r - 1 < E.length, SeesN (gs.map FctE.f) cls E[r - 1] ss.length) := Lib.hid (fun h => hr2 h rfl)
  have HEB7 := Lib.hid ((hb7.block _ (Go.Proofs.YtgbihmafmmeicaaGreatDoor.hlt HEB.out)).trans HEB.out)
  have HI7 := Lib.hid (HR6.out.ints.mono (sees_bel hb7))
  clear ke c4 hr1 hr2 hb7
  have ke := blk_cell HEB7.out 0
  simp only [List.getElem?_toArray, List.getElem?_cons_zero] at ke
  by_cases hlt : r = E.length
  · subst hlt
    go_wp2_with fail
    go_ret
    exact ⟨E.length, -1, ss.length, rfl, HSN.out, by rw [HEN.out]; exact Nat.le_refl _, fun _ => rfl, fun h => absurd h (by rw [HEN.out]; omega), by simp only [HEN.out]; exact HR2.out, HB7.out⟩
  · obtain ⟨a2, c2, eg, eo, e0, _, _, hea, hei⟩ := HI7.out.open_ (fun a u h => h)
    injection e0 with e1 e2 e3
    subst e1 e3
    have hrl : r < E.length := by omega
    obtain rfl := hea (by omega)
    have hc := hei r hrl
    have bne : ((r : Int) == (E.length : Int)) = false := by simpa using (fun h => hlt (by omega))
    have hri : (r : Int) < E.length := by omega
    have HLT := Lib.hid hrl
    clear hea hei e2
    obtain ⟨t, ht⟩ : ∃ t, t = E[r]'HLT.out := ⟨_, rfl⟩
    rw [← ht] at hc
    have HTT := Lib.hid ht
    have HNEQ := Lib.hid hlt
    clear ht hlt hrl
    go_wp2_with fail
    go_ret
    exact ⟨r, t, ss.length, rfl, HSN.out, by rw [HEN.out]; exact Nat.le_of_lt HLT.out, fun h => absurd h (by rw [HEN.out]; have := HLT.out; omega), fun h => by simp only [HEN.out]; exact HTT.out, by simp only [HEN.out]; exact HR2.out, HB7.out⟩
end Go.Proofs.YtgbihmafmmeicaaGreatDoor
/-
  WHAT IS PROVED HERE: plain: what the fixed calls of the Access laws show. No condition.
-/
namespace Go.Proofs.YtgbihmafmmeicaaGreatDoor
open Go.RowKit Mg Go.Shelf

def sB1 : Blk := ⟨1, 1, ⟨#[65]⟩, 0, 0, ⟨0, [], 0, 0⟩⟩
def sB2 : Blk := ⟨2, 1, ⟨#[66]⟩, 0, 0, ⟨0, [], 1, 0⟩⟩
def sF1 : Fct := { fct0 with kind := 3, story := 1, lab := ⟨10, [], 0, 0⟩ }
def sF2 : Fct := { fct0 with kind := 3, story := 2, lab := ⟨0, [1], 0, 0⟩ }
def sF3 : Fct := { fct0 with kind := 1, story := 1, lang := ⟨#[101, 110]⟩, rev := 1, title := ⟨#[84]⟩, author := ⟨#[97, 110, 110]⟩, blocks := [sB1, sB2] }
def sF4 : Fct := { fct0 with kind := 1, story := 2, lang := ⟨#[101, 110]⟩, rev := 1, title := ⟨#[85]⟩, author := ⟨#[98, 111, 98]⟩ }
def sD : List Fct := [sF1, sF2, sF3, sF4]
def sR1 : Fct := { fct0 with kind := 3, story := 1, lab := ⟨0, [2], 0, 0⟩ }
def sR2 : Fct := { fct0 with kind := 3, story := 2, lab := ⟨0, [1], 0, 0⟩ }
def sRD : List Fct := [sR1, sR2]
def sV : List Fct := [stripF sF1, stripF sF2, { sF3 with blocks := [sB1] }, sF4]
theorem sD_valid : sD.filter validF = sD := by kernel_rfl
theorem sR_valid : sRD.filter validF = sRD := by kernel_rfl
theorem sVis10 : visC ⟨sD, 0, 10, [1, 2]⟩ = sV := by kernel_rfl
theorem sVis9 : visC ⟨sD, 0, 9, []⟩ = [] := by kernel_rfl
theorem sVis0 : visC ⟨sD, 0, 0, []⟩ = [] := by kernel_rfl
theorem sE0 : endsF 0 sD = [10] := by kernel_rfl
theorem sE10 : endsF 10 sD = [] := by kernel_rfl
theorem closed_by (D : Dig) (cls now : Int) (L : List Int) (h : (List.range 65).all (fun s => !D.goes cls now L (s : Nat) || L.contains ((s : Nat) : Int)) = true) : D.Closed cls now L := by
  intro s h1 h2 hg
  rw [List.all_eq_true] at h
  have := h s.toNat (List.mem_range.2 (by omega))
  rw [show ((s.toNat : Nat) : Int) = s by omega] at this
  simp only [hg, Bool.not_true, Bool.false_or] at this
  simpa using this
theorem sGo1 : (digF sD).goes 0 10 [] 1 = true := by kernel_rfl
theorem sGo2 : (digF sD).goes 0 10 ([] ++ [1]) 2 = true := by kernel_rfl
theorem sO10 : OutIs (digF sD) 0 10 [1, 2] :=
  (((Found.nil _ _ _).more (s := 1) (by omega) (by omega) (by simp) sGo1).more (s := 2) (by omega) (by omega) (by simp) sGo2).out (closed_by _ _ _ _ (by kernel_rfl)) (by simp) (fun s => Iff.rfl)
theorem sO9 : OutIs (digF sD) 0 9 [] := (Found.nil _ _ _).out (closed_by _ _ _ _ (by kernel_rfl)) List.Pairwise.nil (fun s => Iff.rfl)
theorem sO0 : OutIs (digF sD) 0 0 [] := (Found.nil _ _ _).out (closed_by _ _ _ _ (by kernel_rfl)) List.Pairwise.nil (fun s => Iff.rfl)
theorem sOR : OutIs (digF sRD) 0 100 [] := (Found.nil _ _ _).out (closed_by _ _ _ _ (by kernel_rfl)) List.Pairwise.nil (fun s => Iff.rfl)
theorem out_one {d : Dig} {cls now : Int} {L M : List Int} (h : OutIs d cls now L) (k : OutIs d cls now M) : L = M := sorted_ext h.sorted k.sorted fun s => ⟨h.least M k.closed s, k.least L h.closed s⟩
theorem tidy1 : Tidy sF1 := ⟨by decide, by kernel_rfl⟩
theorem tidy2 : Tidy sF2 := ⟨by decide, by kernel_rfl⟩
theorem tidy3 : Tidy sF3 := ⟨by decide, by kernel_rfl⟩
theorem tidy4 : Tidy sF4 := ⟨by decide, by kernel_rfl⟩
theorem tidyr1 : Tidy sR1 := ⟨by decide, by kernel_rfl⟩
theorem tidyr2 : Tidy sR2 := ⟨by decide, by kernel_rfl⟩
theorem sends0 : endsOf sD 0 = [10] := by
  unfold endsOf
  rw [sE0]
  rw [show sortL [10] = [10] by simp [sortL]]
  rfl
theorem sends10 : endsOf sD 10 = [] := by
  unfold endsOf
  rw [sE10]
  rw [show sortL [] = [] by simp [sortL]]
  rfl
theorem sees0 {k : Nat} (h : SeesN sD 0 0 k) : k = 0 := by
  obtain ⟨L, hL, rfl⟩ := h
  rw [out_one (hL (by omega) (by omega)) sO0]
  unfold visOf
  rw [if_pos (by omega), sVis0]; rfl
theorem sees10 {k : Nat} (h : SeesN sD 0 10 k) : k = 4 := by
  obtain ⟨L, hL, rfl⟩ := h
  rw [out_one (hL (by omega) (by omega)) sO10]
  unfold visOf
  rw [if_pos (by omega), sVis10]; rfl
theorem sTie0 : ∀ k, SeesN sD 0 0 k → NoTie sD 0 k (endsOf sD 0) := fun k h => .inr fun t ht hn => by
  rw [sends0, List.mem_singleton] at ht
  subst ht
  have h1 := sees0 h
  have h2 := sees10 hn
  omega
theorem sTie10 : ∀ k, SeesN sD 0 10 k → NoTie sD 0 k (endsOf sD 10) := fun k h => .inr fun t ht _ => by
  rw [sends10] at ht
  cases ht
theorem sNext0 {w w' : World} {e : Ending} (h : NextPost sD 0 0 w e w') : e = .returned (.int .i64 10) ∧ Below w.heap.size w w' := by
  obtain ⟨r, n, k, he, hk, hr, h1, h2, h3, hb⟩ := h
  refine ⟨?_, hb⟩
  rw [he]
  have hr0 : r = 0 := by
    rcases Nat.eq_zero_or_pos r with h | h
    · exact h
    · obtain ⟨hlt, hs⟩ := h3 h
      have hr1 : r = 1 := by
        have : (endsOf sD 0).length = 1 := by rw [sends0]; rfl
        omega
      subst hr1
      have e10 : (endsOf sD 0)[1 - 1] = 10 := by simp [sends0]
      rw [e10] at hs
      have := sees0 hk
      have := sees10 hs
      omega
  subst hr0
  have hl : (0 : Nat) < (endsOf sD 0).length := by rw [sends0]; exact Nat.zero_lt_one
  have := h2 hl
  rw [this]
  simp [sends0]
theorem sNext10 {w w' : World} {e : Ending} (h : NextPost sD 0 10 w e w') : e = .returned (.int .i64 (-1)) ∧ Below w.heap.size w w' := by
  obtain ⟨r, n, k, he, hk, hr, h1, h2, h3, hb⟩ := h
  refine ⟨?_, hb⟩
  have hl : (endsOf sD 10).length = 0 := by rw [sends10]; rfl
  rw [he, h1 (by omega)]
end Go.Proofs.YtgbihmafmmeicaaGreatDoor
/-
  WHAT IS PROVED HERE: the fixed calls of the Access laws (sane): they return true. No condition.
-/
namespace Go.Proofs.YtgbihmafmmeicaaGreatDoor
open Go.RowKit Mg Go.Shelf

/-! literals of facts and of lists of facts -/
abbrev zeroF : Value := .agg #[.int .i64 0, .int .i64 0, .int .i64 0, .int .i64 0, .string .empty, .int .i64 0, .int .i64 0, .string .empty, .string .empty, .slice none 0 0, .slice none 0 0, .int .i64 0, .slice none 0 0, .int .i64 0, .int .i64 0, .int .i64 0, .int .i64 0, .int .i64 0, .string .empty, .string .empty, .int .i64 0, .int .i64 0, .int .i64 0]
section
variable {ops : Array Oper} {rest : List Oper} {o : Oper} {a : Act} {w : World} {Q : Exit → Act → World → Prop}
theorem at_fslices (n : Nat) (parts : Array (Nat × Operand)) (_ : o.op = .buildSlice 25 n parts) (h : wpList Tryz.prog ops Q (o :: rest) a w) : wpList Tryz.prog ops Q (o :: rest) a w := h
theorem wpList_fct_slices (hgd : o.guard = none) (n : Nat) (parts : Array (Nat × Operand)) (ho : o.op = .buildSlice 25 n parts) (cells : Array Value) (h0 : 0 < n) (h1 : n ≤ 1000) (L : List (Nat × Value)) (hp : (parts.map fun (i, x) => (i, a.eval x)).toList = L)
    (hf : Instr.fill (fun i => some (i * 23, 23)) ((Array.range (n * 23)).map (zeroF.cells[· % zeroF.cells.size]!)) L = some cells)
    (h : wpList Tryz.prog ops Q rest (a.put o.dst (.slice (some ⟨w.heap.size, 0, none⟩) n n)) (w.alloc (.cells cells 45))) : wpList Tryz.prog ops Q (o :: rest) a w := by
  refine wpList_plain hgd fun K hK => ?_
  obtain ⟨i0, hi0, hz0, hz1, hz2⟩ := info_parts fct_info
  refine wp_buildSlice 25 45 n parts ho cells i0 _ Tryz.underlying25 hi0 hz0 (by rw [hz1]; omega) (by rw [hz1]; omega) ?_ (hK _ _ h)
  rw [hz1, hp]
  exact hf
end
theorem frow_lit {w : World} {B g : Nat} {es : List FctE} (hB : B ≤ g) (hh : w.heap[g]? = some (.cells (rowVals es).toArray 45 (0, 0))) (hl : es.length ≤ 1000) : FRow w B (.slice (some ⟨g, 0, none⟩) es.length es.length) es := by
  have hlen : (rowVals es).length = es.length * 23 := by
    unfold rowVals
    rw [List.length_flatMap]
    have : ∀ l : List FctE, (l.map fun e => e.cells.toList.length).sum = l.length * 23 := fun l => by
      induction l with
      | nil => rfl
      | cons e r ih => rw [List.map_cons, List.sum_cons, ih, Array.length_toList, FctE.size, List.length_cons]; omega
    exact this es
  refine ⟨hlen, .inr ⟨g, es.length, _, rfl, hB, hh, Nat.le_refl _, by unfold maxLen; omega, by simpa using hlen, ?_⟩⟩
  rw [List.toList_toArray, List.take_of_length_le (by omega)]
def sE2 (g : Nat) : FctE := ⟨sF2, none, 0, none, 0, some ⟨g, 0, none⟩, 1⟩
def sE3 (g : Nat) : FctE := ⟨sF3, none, 0, some ⟨g, 0, none⟩, 2, none, 0⟩
def sEs (g h : Nat) : List FctE := [plainE sF1, sE2 h, sE3 g, plainE sF4]
def sRs (g h : Nat) : List FctE := [⟨sR1, none, 0, none, 0, some ⟨g, 0, none⟩, 1⟩, ⟨sR2, none, 0, none, 0, some ⟨h, 0, none⟩, 1⟩]
theorem fill4 (g h : Nat) : Instr.fill (fun i => some (i * 23, 23)) ((Array.range (4 * 23)).map (zeroF.cells[· % zeroF.cells.size]!)) [(0, .agg (plainE sF1).cells), (1, .agg (sE2 h).cells), (2, .agg (sE3 g).cells), (3, .agg (plainE sF4).cells)] = some (rowVals (sEs g h)).toArray := by kernel_rfl
theorem fill2 (g h : Nat) : Instr.fill (fun i => some (i * 23, 23)) ((Array.range (2 * 23)).map (zeroF.cells[· % zeroF.cells.size]!)) [(0, .agg (⟨sR1, none, 0, none, 0, some ⟨g, 0, none⟩, 1⟩ : FctE).cells), (1, .agg (⟨sR2, none, 0, none, 0, some ⟨h, 0, none⟩, 1⟩ : FctE).cells)] = some (rowVals (sRs g h)).toArray := by kernel_rfl
theorem sb1 : Tryz.prog.built 45 [(2, .int .i64 3), (3, .int .i64 1), (11, .agg #[.int .i64 10, .slice none 0 0, .int .i64 0, .int .i64 0])] = some (plainE sF1).cells := by kernel_rfl
theorem sb2 (g : Nat) : Tryz.prog.built 45 [(2, .int .i64 3), (3, .int .i64 2), (11, .agg #[.int .i64 0, .slice (some ⟨g, 0, none⟩) 1 1, .int .i64 0, .int .i64 0])] = some (sE2 g).cells := by kernel_rfl
theorem sb3 (g : Nat) : Tryz.prog.built 45 [(2, .int .i64 1), (3, .int .i64 1), (4, .string ⟨#[101, 110]⟩), (5, .int .i64 1), (7, .string ⟨#[84]⟩), (8, .string ⟨#[97, 110, 110]⟩), (10, .slice (some ⟨g, 0, none⟩) 2 2)] = some (sE3 g).cells := by kernel_rfl
theorem sb4 : Tryz.prog.built 45 [(2, .int .i64 1), (3, .int .i64 2), (4, .string ⟨#[101, 110]⟩), (5, .int .i64 1), (7, .string ⟨#[85]⟩), (8, .string ⟨#[98, 111, 98]⟩)] = some (plainE sF4).cells := by kernel_rfl
theorem sbr1 (g : Nat) : Tryz.prog.built 45 [(2, .int .i64 3), (3, .int .i64 1), (11, .agg #[.int .i64 0, .slice (some ⟨g, 0, none⟩) 1 1, .int .i64 0, .int .i64 0])] = some (⟨sR1, none, 0, none, 0, some ⟨g, 0, none⟩, 1⟩ : FctE).cells := by kernel_rfl
theorem sbr2 (g : Nat) : Tryz.prog.built 45 [(2, .int .i64 3), (3, .int .i64 2), (11, .agg #[.int .i64 0, .slice (some ⟨g, 0, none⟩) 1 1, .int .i64 0, .int .i64 0])] = some (⟨sR2, none, 0, none, 0, some ⟨g, 0, none⟩, 1⟩ : FctE).cells := by kernel_rfl
abbrev sBlk : Array Value := #[.int .i64 1, .int .i64 1, .string ⟨#[65]⟩, .int .i64 0, .int .i64 0, .int .i64 0, .slice none 0 0, .int .i64 0, .int .i64 0, .int .i64 2, .int .i64 1, .string ⟨#[66]⟩, .int .i64 0, .int .i64 0, .int .i64 0, .slice none 0 0, .int .i64 1, .int .i64 0]
theorem ok_small {f : Fct} (h : okI f.kind ∧ okI f.story ∧ f.lang.size ≤ maxLen ∧ okI f.rev ∧ f.title.size ≤ maxLen ∧ f.author.size ≤ maxLen ∧ okI f.lab.till) (he : f = { fct0 with kind := f.kind, story := f.story, lang := f.lang, rev := f.rev, title := f.title, author := f.author, blocks := f.blocks, lab := { till := f.lab.till, after := f.lab.after, appr := 0, denied := 0 } }) (hb : ∀ x ∈ f.blocks, x.text.size ≤ maxLen ∧ okI x.kind ∧ okI x.id) : FOK f := by
  have z := fok_zero
  obtain ⟨h1, h2, h3, h4, h5, h6, h7⟩ := h
  rw [he]
  exact ⟨z.i0, z.i1, h1, h2, h3, h4, z.i6, h5, h6, h7, z.i13, z.i14, z.i15, z.i16, z.i17, z.s18, z.s19, z.i20, z.i21, z.i22, hb⟩
theorem ml (n : Nat) (h : n ≤ 100) : n ≤ maxLen := by unfold maxLen; omega
theorem ok1 : FOK sF1 := ok_small ⟨okS (by decide) (by decide), okS (by decide) (by decide), ml _ (by decide), okS (by decide) (by decide), ml _ (by decide), ml _ (by decide), okS (by decide) (by decide)⟩ rfl (fun x hx => by cases hx)
theorem ok2 : FOK sF2 := ok_small ⟨okS (by decide) (by decide), okS (by decide) (by decide), ml _ (by decide), okS (by decide) (by decide), ml _ (by decide), ml _ (by decide), okS (by decide) (by decide)⟩ rfl (fun x hx => by cases hx)
theorem ok3 : FOK sF3 := ok_small ⟨okS (by decide) (by decide), okS (by decide) (by decide), ml _ (by decide), okS (by decide) (by decide), ml _ (by decide), ml _ (by decide), okS (by decide) (by decide)⟩ rfl (fun x hx => by
  rcases List.mem_cons.1 hx with rfl | hx
  · exact ⟨ml _ (by decide), okS (by decide) (by decide), okS (by decide) (by decide)⟩
  · rcases List.mem_cons.1 hx with rfl | hx
    · exact ⟨ml _ (by decide), okS (by decide) (by decide), okS (by decide) (by decide)⟩
    · cases hx)
theorem ok4 : FOK sF4 := ok_small ⟨okS (by decide) (by decide), okS (by decide) (by decide), ml _ (by decide), okS (by decide) (by decide), ml _ (by decide), ml _ (by decide), okS (by decide) (by decide)⟩ rfl (fun x hx => by cases hx)
theorem okr1 : FOK sR1 := ok_small ⟨okS (by decide) (by decide), okS (by decide) (by decide), ml _ (by decide), okS (by decide) (by decide), ml _ (by decide), ml _ (by decide), okS (by decide) (by decide)⟩ rfl (fun x hx => by cases hx)
theorem okr2 : FOK sR2 := ok_small ⟨okS (by decide) (by decide), okS (by decide) (by decide), ml _ (by decide), okS (by decide) (by decide), ml _ (by decide), ml _ (by decide), okS (by decide) (by decide)⟩ rfl (fun x hx => by cases hx)
theorem blks_nil (mem : Addr → Option Value) : BlksM mem (.slice none 0 0) [] := ⟨0, 0, sliceNil, fun j hj => absurd hj (by simp)⟩
theorem sB1_ok : sB1.text.size ≤ maxLen ∧ okI sB1.kind ∧ okI sB1.id := ⟨ml _ (by decide), okS (by decide) (by decide), okS (by decide) (by decide)⟩
theorem sB2_ok : sB2.text.size ≤ maxLen ∧ okI sB2.kind ∧ okI sB2.id := ⟨ml _ (by decide), okS (by decide) (by decide), okS (by decide) (by decide)⟩
theorem sBlks {w : World} {g : Nat} (h : w.heap[g]? = some (.cells sBlk 56 (0, 0))) : BlksM (fun a => w.cell? a) (.slice (some ⟨g, 0, none⟩) 2 2) [sB1, sB2] := by
  have c : ∀ j, w.cell? ⟨g, j, none⟩ = sBlk[j]? := fun j => blk_cell h j
  refine ⟨g, 0, ⟨ml _ (by decide), some ⟨g, 0, none⟩, 2, rfl, by decide, ml _ (by decide), fun _ => rfl⟩, fun j hj => ?_⟩
  match j, hj with
  | 0, _ => exact ⟨⟨c 0, c 1, c 2, c 3, c 4⟩, ⟨c 5, c 7, c 8⟩, sB1_ok, _, c 6, IntsM.nil _⟩
  | 1, _ => exact ⟨⟨c 9, c 10, c 11, c 12, c 13⟩, ⟨c 14, c 16, c 17⟩, sB2_ok, _, c 15, IntsM.nil _⟩
theorem sList {w : World} {g : Nat} (h0 : w.heap[g]? = some (.cells sBlk 56 (0, 0))) (h1 : w.heap[g + 1]? = some (.cells (([1] : List Int).map encI).toArray 3 (0, 0))) (h2 : w.heap[g + 2]? = some (.cells (rowVals (sEs g (g + 1))).toArray 45 (0, 0))) : EsM (fun a => w.cell? a) (.slice (some ⟨g + 2, 0, none⟩) 4 4) (sEs g (g + 1)) := by
  refine FRow.es (B := g) (frow_lit (by omega) h2 (by show _ ≤ 1000; first | (simp [sEs]; done) | (simp [sRs]; done))) (fun e he => ?_)
  have hi := (irow_lit (B := g) (by omega) h1 (by decide)).ints
  rcases List.mem_cons.1 he with rfl | he
  · exact plain_ok ok1 rfl rfl rfl
  rcases List.mem_cons.1 he with rfl | he
  · exact ⟨ok2, StrsM.nil _, blks_nil _, hi⟩
  rcases List.mem_cons.1 he with rfl | he
  · exact ⟨ok3, StrsM.nil _, sBlks h0, IntsM.nil _⟩
  rcases List.mem_cons.1 he with rfl | he
  · exact plain_ok ok4 rfl rfl rfl
  cases he
theorem sRing {w : World} {g : Nat} (h0 : w.heap[g]? = some (.cells (([2] : List Int).map encI).toArray 3 (0, 0))) (h1 : w.heap[g + 1]? = some (.cells (([1] : List Int).map encI).toArray 3 (0, 0))) (h2 : w.heap[g + 2]? = some (.cells (rowVals (sRs g (g + 1))).toArray 45 (0, 0))) : EsM (fun a => w.cell? a) (.slice (some ⟨g + 2, 0, none⟩) 2 2) (sRs g (g + 1)) := by
  refine FRow.es (B := g) (frow_lit (by omega) h2 (by show _ ≤ 1000; first | (simp [sEs]; done) | (simp [sRs]; done))) (fun e he => ?_)
  have hi := (irow_lit (B := g) (by omega) h1 (by decide)).ints
  have hi2 := (irow_lit (B := g) (by omega) h0 (by decide)).ints
  rcases List.mem_cons.1 he with rfl | he
  · exact ⟨okr1, StrsM.nil _, blks_nil _, hi2⟩
  rcases List.mem_cons.1 he with rfl | he
  · exact ⟨okr2, StrsM.nil _, blks_nil _, hi⟩
  cases he
theorem sTidy {g h : Nat} : ∀ e ∈ sEs g h, Tidy e.f := fun e he => by
  rcases List.mem_cons.1 he with rfl | he
  · exact tidy1
  rcases List.mem_cons.1 he with rfl | he
  · exact tidy2
  rcases List.mem_cons.1 he with rfl | he
  · exact tidy3
  rcases List.mem_cons.1 he with rfl | he
  · exact tidy4
  cases he
theorem sTidyR {g h : Nat} : ∀ e ∈ sRs g h, Tidy e.f := fun e he => by
  rcases List.mem_cons.1 he with rfl | he
  · exact tidyr1
  rcases List.mem_cons.1 he with rfl | he
  · exact tidyr2
  cases he
theorem sMap (g h : Nat) : ((sEs g h).map FctE.f).filter validF = sD := by rw [show (sEs g h).map FctE.f = sD from rfl, sD_valid]
theorem sMapR (g h : Nat) : ((sRs g h).map FctE.f).filter validF = sRD := by rw [show (sRs g h).map FctE.f = sRD from rfl, sR_valid]
end Go.Proofs.YtgbihmafmmeicaaGreatDoor
/-
  WHAT IS PROVED HERE: the walk of the Access laws' fixed calls (sane). No condition.
-/
namespace Go.Proofs.YtgbihmafmmeicaaGreatDoor
open Go.RowKit Mg Go.Shelf

theorem FRow.shape {w : World} {B : Nat} {v : Value} {es : List FctE} (h : FRow w B v es) : ∃ ao cap, v = .slice ao es.length cap := by
  rcases h.2 with ⟨rfl, hz⟩ | ⟨g, cap, cur, rfl, _⟩
  · exact ⟨none, 0, by rw [hz]⟩
  · exact ⟨_, _, rfl⟩
theorem cells_lt (W : World) : ∀ a u, (fun a => W.cell? a) a = some u → a.block < W.heap.size := fun _ _ h => World.block_lt_of_cell? W _ h
/-- what the fixed calls need of the world: the two lists lie in memory -/
structure SanI (gl gr : Nat) (W : World) : Prop where
  b0 : W.heap[gl]? = some (.cells sBlk 56 (0, 0))
  i0 : W.heap[gl + 1]? = some (.cells (([1] : List Int).map encI).toArray 3 (0, 0))
  l0 : W.heap[gl + 2]? = some (.cells (rowVals (sEs gl (gl + 1))).toArray 45 (0, 0))
  r0 : W.heap[gr]? = some (.cells (([2] : List Int).map encI).toArray 3 (0, 0))
  r1 : W.heap[gr + 1]? = some (.cells (([1] : List Int).map encI).toArray 3 (0, 0))
  r2 : W.heap[gr + 2]? = some (.cells (rowVals (sRs gr (gr + 1))).toArray 45 (0, 0))
theorem SanI.bel {gl gr : Nat} {W W' : World} (h : SanI gl gr W) (hb : Below W.heap.size W W') : SanI gl gr W' :=
  ⟨(hb.block _ (Go.Proofs.YtgbihmafmmeicaaGreatDoor.hlt h.b0)).trans h.b0, (hb.block _ (Go.Proofs.YtgbihmafmmeicaaGreatDoor.hlt h.i0)).trans h.i0, (hb.block _ (Go.Proofs.YtgbihmafmmeicaaGreatDoor.hlt h.l0)).trans h.l0, (hb.block _ (Go.Proofs.YtgbihmafmmeicaaGreatDoor.hlt h.r0)).trans h.r0, (hb.block _ (Go.Proofs.YtgbihmafmmeicaaGreatDoor.hlt h.r1)).trans h.r1, (hb.block _ (Go.Proofs.YtgbihmafmmeicaaGreatDoor.hlt h.r2)).trans h.r2⟩
theorem san_vis {g : Nat} {W : World} (h : EsM (fun a => W.cell? a) (.slice (some ⟨g + 2, 0, none⟩) 4 4) (sEs g (g + 1))) (cls now : Int) : Calls Tryz.prog 24 #[.slice (some ⟨g + 2, 0, none⟩) 4 4, .int .i64 cls, .int .i64 now] W (VisPost sD cls now W) := by
  have := access_visible_any _ _ h sTidy (by show 4 ≤ 1000; omega) cls now W (fun a u h => h) (cells_lt W)
  rwa [sMap] at this
theorem san_out {g : Nat} {W : World} (h : EsM (fun a => W.cell? a) (.slice (some ⟨g + 2, 0, none⟩) 4 4) (sEs g (g + 1))) (cls now : Int) : Calls Tryz.prog 14 #[.slice (some ⟨g + 2, 0, none⟩) 4 4, .int .i64 cls, .int .i64 now] W (OutPost (digF sD) cls now W) := by
  have := access_out_any _ _ h sTidy (by show 4 ≤ 1000; omega) cls now W (fun a u h => h) (cells_lt W)
  rwa [sMap] at this
theorem san_outR {g : Nat} {W : World} (h : EsM (fun a => W.cell? a) (.slice (some ⟨g + 2, 0, none⟩) 2 2) (sRs g (g + 1))) (cls now : Int) : Calls Tryz.prog 14 #[.slice (some ⟨g + 2, 0, none⟩) 2 2, .int .i64 cls, .int .i64 now] W (OutPost (digF sRD) cls now W) := by
  have := access_out_any _ _ h sTidyR (by show 2 ≤ 1000; omega) cls now W (fun a u h => h) (cells_lt W)
  rwa [sMapR] at this
theorem san_next0 {g : Nat} {W : World} (h : EsM (fun a => W.cell? a) (.slice (some ⟨g + 2, 0, none⟩) 4 4) (sEs g (g + 1))) : Calls Tryz.prog 29 #[.slice (some ⟨g + 2, 0, none⟩) 4 4, .int .i64 0, .int .i64 0] W fun e w' => e = .returned (.int .i64 10) ∧ Below W.heap.size W w' := by
  have := next_any _ _ h sTidy (by show 4 ≤ 1000; omega) 0 0 W (fun a u h => h) (cells_lt W) (by rw [sMap]; exact sTie0)
  rw [sMap] at this
  exact this.mono (fun e w' h => sNext0 h)
theorem san_next10 {g : Nat} {W : World} (h : EsM (fun a => W.cell? a) (.slice (some ⟨g + 2, 0, none⟩) 4 4) (sEs g (g + 1))) : Calls Tryz.prog 29 #[.slice (some ⟨g + 2, 0, none⟩) 4 4, .int .i64 0, .int .i64 10] W fun e w' => e = .returned (.int .i64 (-1)) ∧ Below W.heap.size W w' := by
  have := next_any _ _ h sTidy (by show 4 ≤ 1000; omega) 0 10 W (fun a u h => h) (cells_lt W) (by rw [sMap]; exact sTie10)
  rw [sMap] at this
  exact this.mono (fun e w' h => sNext10 h)
theorem visNone {cls now : Int} {W w' : World} {e : Ending} (h : VisPost sD cls now W e w') (hc : (cls = 0 ∧ now = 9) ∨ cls = 4) : ∃ ao cap, e = .returned (.slice ao 0 cap) ∧ Below W.heap.size W w' := by
  obtain ⟨v, ys, L, he, hL, hys, hr, _, hb⟩ := h
  have hz : ys.length = 0 := by
    have h2 : (visOf sD cls now L).length = 0 := by
      rcases hc with ⟨rfl, rfl⟩ | rfl
      · rw [out_one (hL (by omega) (by omega)) sO9]
        unfold visOf
        rw [if_pos (by omega), sVis9]; rfl
      · unfold visOf
        rw [if_neg (by omega)]; rfl
    rw [← hys, List.length_map] at h2
    exact h2
  obtain ⟨ao, cap, rfl⟩ := hr.shape
  exact ⟨ao, cap, by rw [he, hz], hb⟩
theorem outLen {D : List Fct} {cls now : Int} {L0 : List Int} {W w' : World} {e : Ending} (h : OutPost (digF D) cls now W e w') (h0 : OutIs (digF D) cls now L0) : ∃ ao cap, e = .returned (.slice ao L0.length cap) ∧ Below W.heap.size W w' := by
  obtain ⟨v, L, he, hr, ho, hb⟩ := h
  rw [out_one ho h0] at hr
  obtain ⟨ao, cap, rfl⟩ := hr.shape
  exact ⟨ao, cap, he, hb⟩
/-- what is seen at the time 10: four facts, of which three cells are read -/
theorem vis4 {W w' : World} {e : Ending} (h : VisPost sD 0 10 W e w') : ∃ yb yo yc bb bo bc, e = .returned (.slice (some ⟨yb, yo, none⟩) 4 yc) ∧ w'.cell? ⟨yb, yo + 46 + 10, none⟩ = some (.slice (some ⟨bb, bo, none⟩) 1 bc) ∧ w'.cell? ⟨yb, yo + 11, none⟩ = some (.int .i64 0) ∧ w'.cell? ⟨bb, bo, none⟩ = some (.int .i64 1) ∧ Below W.heap.size W w' := by
  obtain ⟨v, ys, L, he, hL, hys, hr, hok, hb⟩ := h
  rw [out_one (hL (by omega) (by omega)) sO10] at hys
  have hv : visOf sD 0 10 [1, 2] = sV := by unfold visOf; rw [if_pos (by omega), sVis10]
  rw [hv] at hys
  have hl : ys.length = 4 := by have := congrArg List.length hys; rw [List.length_map] at this; exact this
  obtain ⟨ao, cap, b, o, rfl, _, hao, hes⟩ := (hr.es (fun y hy => (hok y hy).mono (memFr_sees _ _))).open_
  rw [hl] at he
  obtain rfl := hao (by omega)
  obtain ⟨hok2, hat2⟩ := hes 2 (by omega)
  obtain ⟨_, hat0⟩ := hes 0 (by omega)
  have hf2 : ys[2].f = { sF3 with blocks := [sB1] } := by
    have : (ys.map FctE.f)[2]'(by rw [List.length_map]; omega) = ys[2].f := by rw [List.getElem_map]
    rw [← this]; simp only [hys]; rfl
  have hf0 : ys[0].f = stripF sF1 := by
    have : (ys.map FctE.f)[0]'(by rw [List.length_map]; omega) = ys[0].f := by rw [List.getElem_map]
    rw [← this]; simp only [hys]; rfl
  obtain ⟨a2, c2, b2, o2, e2, _, _, ha2, hb2⟩ := hok2.parts.2.1.open_
  have hbl : ys[2].f.blocks.length = 1 := by rw [hf2]; rfl
  have q10 := hat2 10 (.slice ys[2].ba ys[2].f.blocks.length ys[2].bc) rfl
  injection e2 with e3 e4 e5
  have hba : ys[2].ba = some ⟨b2, o2, none⟩ := by rw [e3]; exact ha2 (by omega)
  rw [hba, hbl] at q10
  have hid := (hb2 0 (by omega)).1.1
  have hb0 : ys[2].f.blocks[0].id = 1 := by simp only [hf2]; rfl
  rw [hb0] at hid
  have q11 := hat0 11 (.int .i64 ys[0].f.lab.till) rfl
  rw [hf0] at q11
  exact ⟨b, o, cap, b2, o2, _, he, by simpa using q10, by have h := q11; simp only [Nat.zero_mul, Nat.add_zero] at h; exact h, by simpa using hid, hb⟩
end Go.Proofs.YtgbihmafmmeicaaGreatDoor
/-
  WHAT IS PROVED HERE: the walk of the Access laws' fixed calls (sane). No condition.
-/
namespace Go.Proofs.YtgbihmafmmeicaaGreatDoor
open Go.RowKit Mg Go.Shelf

set_option maxRecDepth 100000 in
set_option maxHeartbeats 8000000 in
theorem sane_any (w : World) : Calls Tryz.prog 10 #[] w fun e w' => e = .returned (.bool true) ∧ Below w.heap.size w w' := by
  have HB0 : Hid (∀ o1 o2 o3, Below w.heap.size w (((w.alloc o1).alloc o2).alloc o3)) := Lib.hid (fun o1 o2 o3 => (((Below.refl _ w).alloc (Nat.le_refl _) _).alloc (by simp) _).alloc (by simp; omega) _)
  go_enter Tryz.func10, Tryz.ntmps10
  go_upto_region 3 with (first
    | ((with_reducible refine at_fbuild _ rfl ?_); go_must (refine wpList_buildTo rfl 45 _ rfl _ rfl _ (by simp [Act.eval, Act.put]; with_reducible (first | exact sb1 | exact sb2 _ | exact sb3 _ | exact sb4)) ?_))
    | ((with_reducible refine at_fslices _ _ rfl ?_); go_must (refine wpList_fct_slices rfl _ _ rfl _ (by omega) (by omega) _ (by simp [Act.eval, Act.put]) (fill4 w.heap.size (w.heap.size + 1)) ?_)))
  have hH0 := World.alloc_heap_new w (.cells sBlk 56)
  have hb1 : Below (w.alloc (.cells sBlk 56)).heap.size (w.alloc (.cells sBlk 56)) ((w.alloc (.cells sBlk 56)).alloc (.cells (([1] : List Int).map encI).toArray 3)) := (Below.refl _ _).alloc (Nat.le_refl _) _
  have hH1 := World.alloc_heap_new (w.alloc (.cells sBlk 56)) (.cells (([1] : List Int).map encI).toArray 3)
  have hb2 : Below ((w.alloc (.cells sBlk 56)).alloc (.cells (([1] : List Int).map encI).toArray 3)).heap.size ((w.alloc (.cells sBlk 56)).alloc (.cells (([1] : List Int).map encI).toArray 3)) (((w.alloc (.cells sBlk 56)).alloc (.cells (([1] : List Int).map encI).toArray 3)).alloc (.cells (rowVals (sEs w.heap.size (w.heap.size + 1))).toArray 45)) := (Below.refl _ _).alloc (Nat.le_refl _) _
  have hH2 := World.alloc_heap_new ((w.alloc (.cells sBlk 56)).alloc (.cells (([1] : List Int).map encI).toArray 3)) (.cells (rowVals (sEs w.heap.size (w.heap.size + 1))).toArray 45)
  replace hH0 := (hb2.block _ (by simp; omega)).trans ((hb1.block _ (by simp)).trans hH0)
  replace hH1 := (hb2.block _ (by simp)).trans hH1
  have hBW := HB0.out (.cells sBlk 56) (.cells (([1] : List Int).map encI).toArray 3) (.cells (rowVals (sEs w.heap.size (w.heap.size + 1))).toArray 45)
  simp only [World.size_alloc] at hH1 hH2
  generalize hW3 : World.alloc (World.alloc (World.alloc w _) _) _ = W3
  rw [show ((w.alloc (.cells sBlk 56)).alloc (.cells (([1] : List Int).map encI).toArray 3)).alloc (.cells (rowVals (sEs w.heap.size (w.heap.size + 1))).toArray 45) = W3 from hW3] at hH0 hH1 hH2 hBW
  clear hW3 hb1 hb2
  have HW3 := Lib.hid hBW
  have HE3 := Lib.hid (And.intro hH0 (And.intro hH1 hH2))
  have HL3 := Lib.hid (sList hH0 hH1 hH2)
  clear hH0 hH1 hH2 hBW HB0
  go_wp2_with fail
  refine (san_vis (g := w.heap.size) HL3.out 0 10).mono ?_
  intro e W4 hv
  obtain ⟨yb, yo, yc, bb, bo, bc, rfl, q1, q2, q3, hb4⟩ := vis4 hv
  have HQ := Lib.hid (And.intro q1 (And.intro q2 q3))
  have HB4 := Lib.hid hb4
  clear hv q1 q2 q3 hb4
  go_upto_region 5 with (first
    | ((with_reducible refine at_fbuild _ rfl ?_); go_must (refine wpList_buildTo rfl 45 _ rfl _ rfl _ (by simp [Act.eval]; with_reducible (first | exact sbr1 _ | exact sbr2 _)) ?_))
    | ((with_reducible refine at_fslices _ _ rfl ?_); go_must (refine wpList_fct_slices rfl _ _ rfl _ (by omega) (by omega) _ (by simp [Act.eval, Act.put]) (fill2 W4.heap.size (W4.heap.size + 1)) ?_)))
  have hH0 := World.alloc_heap_new W4 (.cells (([2] : List Int).map encI).toArray 3)
  have hb1 : Below (W4.alloc (.cells (([2] : List Int).map encI).toArray 3)).heap.size (W4.alloc (.cells (([2] : List Int).map encI).toArray 3)) ((W4.alloc (.cells (([2] : List Int).map encI).toArray 3)).alloc (.cells (([1] : List Int).map encI).toArray 3)) := (Below.refl _ _).alloc (Nat.le_refl _) _
  have hH1 := World.alloc_heap_new (W4.alloc (.cells (([2] : List Int).map encI).toArray 3)) (.cells (([1] : List Int).map encI).toArray 3)
  have hb2 : Below ((W4.alloc (.cells (([2] : List Int).map encI).toArray 3)).alloc (.cells (([1] : List Int).map encI).toArray 3)).heap.size ((W4.alloc (.cells (([2] : List Int).map encI).toArray 3)).alloc (.cells (([1] : List Int).map encI).toArray 3)) (((W4.alloc (.cells (([2] : List Int).map encI).toArray 3)).alloc (.cells (([1] : List Int).map encI).toArray 3)).alloc (.cells (rowVals (sRs W4.heap.size (W4.heap.size + 1))).toArray 45)) := (Below.refl _ _).alloc (Nat.le_refl _) _
  have hH2 := World.alloc_heap_new ((W4.alloc (.cells (([2] : List Int).map encI).toArray 3)).alloc (.cells (([1] : List Int).map encI).toArray 3)) (.cells (rowVals (sRs W4.heap.size (W4.heap.size + 1))).toArray 45)
  replace hH0 := (hb2.block _ (by simp; omega)).trans ((hb1.block _ (by simp)).trans hH0)
  replace hH1 := (hb2.block _ (by simp)).trans hH1
  have hBW : Below W4.heap.size W4 (((W4.alloc (.cells (([2] : List Int).map encI).toArray 3)).alloc (.cells (([1] : List Int).map encI).toArray 3)).alloc (.cells (rowVals (sRs W4.heap.size (W4.heap.size + 1))).toArray 45)) := (((Below.refl _ W4).alloc (Nat.le_refl _) _).alloc (by simp) _).alloc (by simp; omega) _
  simp only [World.size_alloc] at hH1 hH2
  generalize hW5 : World.alloc (World.alloc (World.alloc W4 _) _) _ = W5
  rw [show ((W4.alloc (.cells (([2] : List Int).map encI).toArray 3)).alloc (.cells (([1] : List Int).map encI).toArray 3)).alloc (.cells (rowVals (sRs W4.heap.size (W4.heap.size + 1))).toArray 45) = W5 from hW5] at hH0 hH1 hH2 hBW
  clear hW5 hb1 hb2
  have HW5 : Hid (Below w.heap.size w W5) := Lib.hid (HW3.out.trans ((HB4.out.trans (hBW.mono HB4.out.size)).mono HW3.out.size))
  have HS5 : Hid (SanI w.heap.size W4.heap.size W5) := Lib.hid ⟨(hBW.block _ (by have := HB4.out.size; have := Go.Proofs.YtgbihmafmmeicaaGreatDoor.hlt HE3.out.1; omega)).trans ((HB4.out.block _ (Go.Proofs.YtgbihmafmmeicaaGreatDoor.hlt HE3.out.1)).trans HE3.out.1), (hBW.block _ (by have := HB4.out.size; have := Go.Proofs.YtgbihmafmmeicaaGreatDoor.hlt HE3.out.2.1; omega)).trans ((HB4.out.block _ (Go.Proofs.YtgbihmafmmeicaaGreatDoor.hlt HE3.out.2.1)).trans HE3.out.2.1), (hBW.block _ (by have := HB4.out.size; have := Go.Proofs.YtgbihmafmmeicaaGreatDoor.hlt HE3.out.2.2; omega)).trans ((HB4.out.block _ (Go.Proofs.YtgbihmafmmeicaaGreatDoor.hlt HE3.out.2.2)).trans HE3.out.2.2), hH0, hH1, hH2⟩
  have HQ5 : Hid (W5.cell? ⟨yb, yo + 46 + 10, none⟩ = some (.slice (some ⟨bb, bo, none⟩) 1 bc) ∧ W5.cell? ⟨yb, yo + 11, none⟩ = some (.int .i64 0) ∧ W5.cell? ⟨bb, bo, none⟩ = some (.int .i64 1)) := Lib.hid ⟨sees_bel hBW _ _ HQ.out.1, sees_bel hBW _ _ HQ.out.2.1, sees_bel hBW _ _ HQ.out.2.2⟩
  clear hH0 hH1 hH2 hBW
  go_wp2_with fail
  refine ((san_vis (g := w.heap.size) (sList HS5.out.b0 HS5.out.i0 HS5.out.l0) 0 9).mono (fun e w2 h => visNone h (.inl ⟨rfl, rfl⟩))).mono ?_
  intro e W6 hv
  obtain ⟨a6, c6, hv, hb⟩ := hv
  subst hv
  have HS6 := Lib.hid (HS5.out.bel hb)
  have HW6 := Lib.hid (HW5.out.trans (hb.mono HW5.out.size))
  have HQ6 : Hid (W6.cell? ⟨yb, yo + 46 + 10, none⟩ = some (.slice (some ⟨bb, bo, none⟩) 1 bc) ∧ W6.cell? ⟨yb, yo + 11, none⟩ = some (.int .i64 0) ∧ W6.cell? ⟨bb, bo, none⟩ = some (.int .i64 1)) := Lib.hid ⟨sees_bel hb _ _ HQ5.out.1, sees_bel hb _ _ HQ5.out.2.1, sees_bel hb _ _ HQ5.out.2.2⟩
  clear hb HS5 HW5 HQ5
  go_wp2_with fail
  refine ((san_vis (g := w.heap.size) (sList HS6.out.b0 HS6.out.i0 HS6.out.l0) 4 10).mono (fun e w2 h => visNone h (.inr rfl))).mono ?_
  intro e W7 hv
  obtain ⟨a7, c7, hv, hb⟩ := hv
  subst hv
  have HS7 := Lib.hid (HS6.out.bel hb)
  have HW7 := Lib.hid (HW6.out.trans (hb.mono HW6.out.size))
  have HQ7 : Hid (W7.cell? ⟨yb, yo + 46 + 10, none⟩ = some (.slice (some ⟨bb, bo, none⟩) 1 bc) ∧ W7.cell? ⟨yb, yo + 11, none⟩ = some (.int .i64 0) ∧ W7.cell? ⟨bb, bo, none⟩ = some (.int .i64 1)) := Lib.hid ⟨sees_bel hb _ _ HQ6.out.1, sees_bel hb _ _ HQ6.out.2.1, sees_bel hb _ _ HQ6.out.2.2⟩
  clear hb HS6 HW6 HQ6
  go_wp2_with fail
  refine ((san_out (g := w.heap.size) (sList HS7.out.b0 HS7.out.i0 HS7.out.l0) 0 9).mono (fun e w2 h => outLen h sO9)).mono ?_
  intro e W8 hv
  obtain ⟨a8, c8, hv, hb⟩ := hv
  subst hv
  have HS8 := Lib.hid (HS7.out.bel hb)
  have HW8 := Lib.hid (HW7.out.trans (hb.mono HW7.out.size))
  have HQ8 : Hid (W8.cell? ⟨yb, yo + 46 + 10, none⟩ = some (.slice (some ⟨bb, bo, none⟩) 1 bc) ∧ W8.cell? ⟨yb, yo + 11, none⟩ = some (.int .i64 0) ∧ W8.cell? ⟨bb, bo, none⟩ = some (.int .i64 1)) := Lib.hid ⟨sees_bel hb _ _ HQ7.out.1, sees_bel hb _ _ HQ7.out.2.1, sees_bel hb _ _ HQ7.out.2.2⟩
  clear hb HS7 HW7 HQ7
  go_wp2_with fail
  refine ((san_out (g := w.heap.size) (sList HS8.out.b0 HS8.out.i0 HS8.out.l0) 0 10).mono (fun e w2 h => outLen h sO10)).mono ?_
  intro e W9 hv
  obtain ⟨a9, c9, hv, hb⟩ := hv
  subst hv
  have HS9 := Lib.hid (HS8.out.bel hb)
  have HW9 := Lib.hid (HW8.out.trans (hb.mono HW8.out.size))
  have HQ9 : Hid (W9.cell? ⟨yb, yo + 46 + 10, none⟩ = some (.slice (some ⟨bb, bo, none⟩) 1 bc) ∧ W9.cell? ⟨yb, yo + 11, none⟩ = some (.int .i64 0) ∧ W9.cell? ⟨bb, bo, none⟩ = some (.int .i64 1)) := Lib.hid ⟨sees_bel hb _ _ HQ8.out.1, sees_bel hb _ _ HQ8.out.2.1, sees_bel hb _ _ HQ8.out.2.2⟩
  clear hb HS8 HW8 HQ8
  have k1 := HQ9.out.1
  have k2 := HQ9.out.2.1
  have k3 := HQ9.out.2.2
  go_wp2_with fail
  refine (san_next0 (g := w.heap.size) (sList HS9.out.b0 HS9.out.i0 HS9.out.l0)).mono ?_
  intro e W10 hv
  obtain ⟨hv, hb⟩ := hv
  subst hv
  clear k1 k2 k3
  have HS10 := Lib.hid (HS9.out.bel hb)
  have HW10 := Lib.hid (HW9.out.trans (hb.mono HW9.out.size))
  have HQ10 : Hid (W10.cell? ⟨yb, yo + 46 + 10, none⟩ = some (.slice (some ⟨bb, bo, none⟩) 1 bc) ∧ W10.cell? ⟨yb, yo + 11, none⟩ = some (.int .i64 0) ∧ W10.cell? ⟨bb, bo, none⟩ = some (.int .i64 1)) := Lib.hid ⟨sees_bel hb _ _ HQ9.out.1, sees_bel hb _ _ HQ9.out.2.1, sees_bel hb _ _ HQ9.out.2.2⟩
  clear hb HS9 HW9 HQ9
  go_wp2_with fail
  refine (san_next10 (g := w.heap.size) (sList HS10.out.b0 HS10.out.i0 HS10.out.l0)).mono ?_
  intro e W11 hv
  obtain ⟨hv, hb⟩ := hv
  subst hv
  have HS11 := Lib.hid (HS10.out.bel hb)
  have HW11 := Lib.hid (HW10.out.trans (hb.mono HW10.out.size))
  have HQ11 : Hid (W11.cell? ⟨yb, yo + 46 + 10, none⟩ = some (.slice (some ⟨bb, bo, none⟩) 1 bc) ∧ W11.cell? ⟨yb, yo + 11, none⟩ = some (.int .i64 0) ∧ W11.cell? ⟨bb, bo, none⟩ = some (.int .i64 1)) := Lib.hid ⟨sees_bel hb _ _ HQ10.out.1, sees_bel hb _ _ HQ10.out.2.1, sees_bel hb _ _ HQ10.out.2.2⟩
  clear hb HS10 HW10 HQ10
  go_wp2_with fail
  refine ((san_outR (g := W4.heap.size) (sRing HS11.out.r0 HS11.out.r1 HS11.out.r2) 0 100).mono (fun e w2 h => outLen h sOR)).mono ?_
  intro e W12 hv
  obtain ⟨a12, c12, hv, hb⟩ := hv
  subst hv
  have HS12 := Lib.hid (HS11.out.bel hb)
  have HW12 := Lib.hid (HW11.out.trans (hb.mono HW11.out.size))
  have HQ12 : Hid (W12.cell? ⟨yb, yo + 46 + 10, none⟩ = some (.slice (some ⟨bb, bo, none⟩) 1 bc) ∧ W12.cell? ⟨yb, yo + 11, none⟩ = some (.int .i64 0) ∧ W12.cell? ⟨bb, bo, none⟩ = some (.int .i64 1)) := Lib.hid ⟨sees_bel hb _ _ HQ11.out.1, sees_bel hb _ _ HQ11.out.2.1, sees_bel hb _ _ HQ11.out.2.2⟩
  clear hb HS11 HW11 HQ11
  go_wp2_with fail
  go_ret
  exact ⟨rfl, HW12.out⟩
end Go.Proofs.YtgbihmafmmeicaaGreatDoor
/-
  WHAT IS PROVED HERE: a list of facts appended to another; a made row of facts; the laws' At at two numbers. No condition.
-/
namespace Go.Proofs.YtgbihmafmmeicaaGreatDoor
open Go.RowKit Mg Go.Shelf

theorem rowVals_len (es : List FctE) : (rowVals es).length = es.length * 23 := by
  unfold rowVals
  rw [List.length_flatMap]
  induction es with
  | nil => rfl
  | cons e r ih => rw [List.map_cons, List.sum_cons, ih, Array.length_toList, FctE.size, List.length_cons]; omega
theorem rowVals_app (es fs : List FctE) : rowVals (es ++ fs) = rowVals es ++ rowVals fs := by unfold rowVals; rw [List.flatMap_append]
theorem reads_es {w : World} {ao : Option Addr} {cap : Nat} {es : List FctE} (h : EsM (fun a => w.cell? a) (.slice ao es.length cap) es) : Reads w w.heap.size 23 ao es.length (rowVals es) := by
  obtain ⟨ao', cap', b, o, e, _, h1, h2⟩ := h.open_
  injection e with e1 e2 e3
  subst e1
  refine ⟨by rw [rowVals_len], fun hn => ?_⟩
  refine ⟨_, h1 hn, ?_, fun j u hu => ?_⟩
  · obtain ⟨_, hat⟩ := h2 0 hn
    have := World.block_lt_of_cell? w _ (hat 0 (.int .i64 es[0].f.n) rfl)
    simpa using this
  · have hjl := (List.getElem?_eq_some_iff.1 hu).1
    rw [rowVals_len] at hjl
    have hd : j / 23 < es.length := by omega
    have hm : j % 23 < 23 := Nat.mod_lt _ (by omega)
    have e1 := rowVals_get es (j / 23) (j % 23) hd hm
    rw [show j / 23 * 23 + j % 23 = j by omega, hu] at e1
    have := (h2 (j / 23) hd).2 (j % 23) u e1.symm
    unfold Addr.add
    rw [show o + j / 23 * 23 + j % 23 = o + j by omega] at this
    by_cases h0 : j = 0
    · subst h0; simpa using this
    · simp [h0]; simpa using this
section
variable {ops : Array Oper} {rest : List Oper} {o : Oper} {a : Act} {w : World} {Q : Exit → Act → World → Prop} {K : Act → World → Prop}
theorem wp_app_facts (s x : Operand) (ho : o.op = .call { callee := .builtin .append, args := #[s, x], argTypes := #[25, 25] })
    (B : Nat) (v : Value) (es : List FctE) (hs : a.eval s = v) (hown : FRow w B v es) (ao : Option Addr) (cap : Nat) (fs : List FctE) (hx : a.eval x = .slice ao fs.length cap) (hf : EsM (fun a => w.cell? a) (.slice ao fs.length cap) fs) (hlen : es.length + fs.length ≤ 100000) (hB : B ≤ w.heap.size)
    (h : ∀ v' w', FRow w' B v' (es ++ fs) → w.grownBy w' v.ownBlock → (v'.ownBlock = v.ownBlock ∨ v'.ownBlock = some w.heap.size) → K (a.put o.dst v') w') : o.wp Tryz.prog a w K Q := by
  obtain ⟨i0, hi0, hz0, hz1, hz2⟩ := info_parts fct_info
  refine wp_append_any w s x 25 ho B 45 i0 _ 23 272 Tryz.underlying25 hi0 hz0 hz1 hz2 rfl (by decide) v es.length (rowVals es) hs hown w.heap.size ao fs.length cap (rowVals fs) hx (reads_es hf) (fun u hu => by
    unfold rowVals at hu
    obtain ⟨e, _, hu⟩ := List.mem_flatMap.1 hu
    exact (Array.all_eq_true_iff_forall_mem.1 e.one) u (by simpa using hu)) (by unfold maxLen; omega) (by omega) hB (fun v' w' h1 h2 h3 => h v' w' ?_ h2 h3)
  unfold FRow
  rw [List.length_append, rowVals_app]
  exact h1
theorem wpList_app_facts (hgd : o.guard = none) (s x : Operand) (ho : o.op = .call { callee := .builtin .append, args := #[s, x], argTypes := #[25, 25] })
    (B : Nat) (v : Value) (es : List FctE) (hs : a.eval s = v) (hown : FRow w B v es) (ao : Option Addr) (cap : Nat) (fs : List FctE) (hx : a.eval x = .slice ao fs.length cap) (hf : EsM (fun a => w.cell? a) (.slice ao fs.length cap) fs) (hlen : es.length + fs.length ≤ 100000) (hB : B ≤ w.heap.size)
    (h : ∀ v' w', FRow w' B v' (es ++ fs) → w.grownBy w' v.ownBlock → (v'.ownBlock = v.ownBlock ∨ v'.ownBlock = some w.heap.size) → wpList Tryz.prog ops Q rest (a.put o.dst v') w') : wpList Tryz.prog ops Q (o :: rest) a w :=
  wpList_plain hgd fun _ hK => wp_app_facts s x ho B v es hs hown ao cap fs hx hf hlen hB (fun v' w' h1 h2 h3 => hK _ _ (h v' w' h1 h2 h3))
end
set_option maxHeartbeats 400000 in
theorem at_any2 (a b : Int) (ha : okI a) (hb : okI b) (w : World) :
    Calls Tryz.prog 13 #[.agg #[.int .i64 a, .int .i64 b]] w fun r w' => r = .returned (.tuple #[.int .i64 (pickF a 4), .int .i64 (pickF b 25)]) ∧ Below w.heap.size w w' := by
  have c1 := fun W k => pick_quiet a 4 ha (by omega) (by omega) W k
  have c2 := fun W k => pick_quiet b 25 hb (by omega) (by omega) W k
  generalize pickF a 4 = pa at *
  generalize pickF b 25 = pb at *
  clear ha hb
  go_enter Tryz.func13, Tryz.ntmps13
  go_wp2_with fail
  generalize hW : w.alloc _ = W1
  have k0 : W1.cell? ⟨w.heap.size, 0, none⟩ = some (.int .i64 a) := by rw [← hW]; simp
  have k1 : W1.cell? ⟨w.heap.size, 1, none⟩ = some (.int .i64 b) := by rw [← hW]; simp
  have hB : Hid (Below w.heap.size w W1) := Lib.hid (by rw [← hW]; exact (Below.refl _ w).alloc (Nat.le_refl _) _)
  clear hW
  generalize hH : w.heap.size = H at k0 k1 ⊢
  replace c1 := c1 W1
  replace c2 := c2 W1
  go_quiet ((first | (go_at_call 15; with_reducible exact c1 _) | (go_at_call 15; with_reducible exact c2 _)))
  go_wp2_with fail
  refine bodyPost_ret (v := .tuple #[.int .i64 pa, .int .i64 pb]) (by simp [results, Tryz.results13, go_sem]) rfl ?_
  exact ⟨rfl, below_drewN hB.out nq⟩
/-- elements that lie elsewhere, after a list that a call made -/
theorem ListI.apps {W0 wr w' : World} {v v' : Value} {ys fs : List FctE} {W1 : World} (h : ListI W0 v ys wr) (hb : Below wr.heap.size wr W1) (hf : ∀ e ∈ fs, ∀ mem, e.ok mem) (hr : FRow w' W0.heap.size v' (ys ++ fs)) (hg : W1.grownBy w' v.ownBlock)
    (hn : v'.ownBlock = v.ownBlock ∨ v'.ownBlock = some W1.heap.size) : ListI W0 v' (ys ++ fs) w' := by
  have h1 := h.below hb
  have hge := h1.row.ge
  have hu : Upd (fun b => v.ownBlock = some b) W1 w' := (Upd.refl _ W1).grown hg (fun b e => .inl e)
  refine ⟨h1.bel.trans (hu.below (fun k e => (hge k e).1) h1.bel.size), hr, fun e he => ?_⟩
  rcases List.mem_append.1 he with he | he
  · exact (h1.ok e he).mono (memFr_mono hu fun k hk hf => ⟨fun g => by
      rcases g with g | g
      · exact hf (.inl g)
      · rcases hn with e | e
        · exact hf (.inr (e ▸ g))
        · rw [e] at g; injection g with g; omega, fun g => hf (.inr g)⟩)
  · exact hf e he _
end Go.Proofs.YtgbihmafmmeicaaGreatDoor
/-
  WHAT IS PROVED HERE: what the rows of this seat list holds in memory, a world for the witness, and the last step of a law's row. No condition.
-/
namespace Go.Proofs.YtgbihmafmmeicaaGreatDoor
open Go.ChangeShapes Go.WideShapes Go.ChangeAt Go.RowKit Go.ChangeMaps Go.Deep
section
variable {H : Type} {enc : TypeId × Value → H} {P : Program}
theorem post_of_below {f : Func} {s : ChangeSpec} {apart fresh handsOn again : Bool} {W W' : World} {args : Array Value} {v : Value} {ds gs : List (DataW H)} {before pa pv : List MemPlace}
    (hW : DataW.Whole enc P f.params.toList s.vars apart W args.toList ds gs before)
    (hres : ∀ (b : Nat) (sp : Nat → Bool) (hd : Bool), DataW.TrodAll enc P W' b sp hd f.resultTypes.toList (v.resultList f.resultTypes.size) (s.fn H (ds ++ gs)).results [])
    (hargs : ∀ sp : Nat → Bool, (∀ p ∈ before, sp p.block = true) → DataW.TrodAll enc P W' 0 sp true f.params.toList args.toList (s.fn H (ds ++ gs)).args pa)
    (hvars : ∀ sp : Nat → Bool, (∀ p ∈ before, sp p.block = true) → DataW.TrodVars enc P W' sp s.vars (s.fn H (ds ++ gs)).vars pv)
    (hps : before = pa ++ pv) (hb : Below W.heap.size W W')
    (hok : ∀ (j : Nat) (t : TypeId) (r : Value), f.resultTypes[j]? = some t → (v.resultList f.resultTypes.size)[j]? = some r → Value.okWide P W' .any 0 t r) :
    s.post enc P f apart fresh handsOn again W args v W' := by
  have hlt : ∀ p ∈ before, p.block < W.heap.size := fun p hp => hW.lt p hp
  have hold : ∀ p ∈ before, (fun b => decide (b < W.heap.size)) p.block = true := fun p hp => by simpa using hlt p hp
  refine ⟨ds, gs, before, [], pa, pv, hW, hres _ _ _, hargs _ hold, hvars _ hold, World.keptBut_mono (fun p hp => ⟨hp, ?_⟩) (hb.frame (· ∈ before)), fun _ => ?_⟩
  · rw [hps, List.mem_append] at hp
    exact Or.inr hp
  · obtain ⟨_, _, _, _, _, hz, hn⟩ := hW
    refine ⟨hok, _, _, ([] ++ pa) ++ pv, ⟨[] ++ pa, pv, trodAll_append (hargs _ (fun _ _ => rfl)) (hres _ _ _), hvars _ (fun _ _ => rfl), rfl, ?_, ?_⟩, ?_⟩
    · intro b off hp
      have hin : MemPlace.cell b off ∈ before := by rw [hps]; simpa using hp
      rw [hb.frozen (hlt _ hin)]
      exact hz b off hin
    · intro ha
      have := hn ha
      rw [hps] at this
      simpa using this
    · intro p hp _
      rw [hps]
      simpa using hp
end

theorem own : ownKnob Tryz.prog.godebug = none := by kernel_rfl
/-- what the rows of this seat list -/
def laidAll : List (String × DataW Unit) := Rows.accessTakenRow.laid
noncomputable def lit1 : DataW Unit → List Value
  | .lit (.int k n) => [.int k n]
  | .agg ps => ps.flatMap fun
    | .lit (.int k n) => [.int k n]
    | _ => []
  | _ => []
noncomputable def lit2 : DataW Unit → List Value
  | .agg ps => ps.flatMap lit1
  | _ => []
noncomputable def layIn (h : Array Obj) (x : String × DataW Unit) : Array Obj :=
  match Tryz.prog.globalNamed x.1 with
  | some g => h.modify g (fun o => match o with
    | .cells _ t _ => .cells (lit2 x.2).toArray t (0, 0)
    | o => o)
  | none => h
/-- a world for the witness: the settled one, each listed table holding what the row lists -/
noncomputable def laidWorld (os : Os) : World :=
  { World.holding Tryz.prog os ⟨#[], #[], []⟩ with heap := laidAll.foldl layIn (World.holding Tryz.prog os ⟨#[], #[], []⟩).heap }
theorem laidOut : laidOutB Tryz.prog = true := by kernel_rfl
theorem trodAll_stays {H : Type} {enc : TypeId × Value → H} {W W' : World} (hb : Below W.heap.size W W') (sp : Nat → Bool) : ∀ {ts : List TypeId} {vs : List Value} {ds : List (DataW H)} {ps : List MemPlace},
    (∀ t ∈ ts, Tryz.prog.readableRec t = true ∧ t < Tryz.prog.types.size) → DataW.TrodAll enc Tryz.prog W 0 (fun _ => true) true ts vs ds ps → (∀ p ∈ ps, p.block < W.heap.size) → (∀ p ∈ ps, sp p.block = true) →
    DataW.TrodAll enc Tryz.prog W' 0 sp true ts vs ds ps
  | [], [], [], _, _, h, _, _ => h
  | t :: ts, v :: vs, d :: ds, _, hr, h, hlt, hsp => by
    obtain ⟨p, q, h1, h2, rfl⟩ := h
    refine ⟨p, q, WideElems.Trod_stays laidOut (hr t (by simp)).1 (hr t (by simp)).2 h1 (fun x hx => hb.same (hlt x (by simp [hx]))) (fun x hx => hsp x (by simp [hx])), ?_, rfl⟩
    exact trodAll_stays hb sp (fun t ht => hr t (by simp [ht])) h2 (fun x hx => hlt x (by simp [hx])) (fun x hx => hsp x (by simp [hx]))
  | [], _ :: _, _, _, _, h, _, _ => h.elim
  | [], [], _ :: _, _, _, h, _, _ => h.elim
  | _ :: _, [], _, _, _, h, _, _ => h.elim
  | _ :: _, _ :: _, [], _, _, h, _, _ => h.elim
set_option maxRecDepth 100000 in
theorem close_law {H : Type} {enc : TypeId × Value → H} {f : Func} {s : ChangeSpec} {W W' : World} {args : Array Value} {ds gs : List (DataW H)} {before : List MemPlace}
    (hW : DataW.Whole enc Tryz.prog f.params.toList s.vars false W args.toList ds gs before) (hv : s.vars = []) (hres : f.resultTypes = #[4])
    (hspec : (s.fn H ds).results = [.lit (.bool true)] ∧ (s.fn H ds).args = ds ∧ (s.fn H ds).vars = []) (hread : ∀ t ∈ f.params.toList, Tryz.prog.readableRec t = true ∧ t < Tryz.prog.types.size) (hb : Below W.heap.size W W') :
    s.post enc Tryz.prog f false true false false W args (.bool true) W' := by
  have hW2 := hW
  obtain ⟨p, q, hA, hV, rfl, _, _⟩ := hW
  rw [hv] at hV
  obtain ⟨rfl, rfl⟩ := trodVars_none hV
  obtain ⟨s1, s2, s3⟩ := hspec
  have hlt := hW2.lt
  refine post_of_below (pa := p) (pv := []) hW2 (fun _ _ _ => ?_) (fun sp hsp => ?_) (fun _ _ => ?_) rfl hb ?_
  · rw [List.append_nil, s1, hres]
    exact trodAll_cons_mk (shut_bool Tryz.underlying4 _) trodAll_mk0
  · rw [List.append_nil, s2]
    exact trodAll_stays hb sp hread hA (fun x hx => hlt x (by simp [hx])) (fun x hx => hsp x (by simp [hx]))
  · rw [List.append_nil, s3, hv]
    exact rfl
  · exact ok_one hres rfl (okWide_bool_mk Tryz.underlying4 _)

end Go.Proofs.YtgbihmafmmeicaaGreatDoor
/-
  WHAT IS PROVED HERE: an argument that reads as a list of blocks lies in memory as the contracts want it. No condition.
-/
namespace Go.Proofs.YtgbihmafmmeicaaGreatDoor
open Go.ChangeShapes Go.WideShapes Go.RowKit Go.Deep Mg

theorem cell_add {w : World} {a : Addr} {k : Nat} {v : Value} (h : w.cell? (a.add k) = some v) : w.cell? ⟨a.block, a.off + k, none⟩ = some v := by
  by_cases hk : k = 0
  · subst hk
    have e : a.add 0 = a := by simp [Addr.add]
    rw [e] at h
    obtain ⟨b, o, s⟩ := a
    cases s with
    | none => exact h
    | some x =>
      unfold World.cell? at h
      simp at h
      split at h <;> simp at h
  · unfold Addr.add at h
    rwa [if_neg hk] at h
theorem cell_spot {w : World} {a : Addr} {v : Value} (h : w.cell? a = some v) : a = ⟨a.block, a.off, none⟩ := by
  obtain ⟨b, o, s⟩ := a
  cases s with
  | none => rfl
  | some x =>
    unfold World.cell? at h
    simp at h
    split at h <;> simp at h
theorem add_zero (a : Addr) : a.add 0 = a := by simp [Addr.add]
section
variable {H : Type} {enc : TypeId × Value → H} {P : Program} {w W : World} {base : Nat} {spare : Nat → Bool} {held : Bool}
/-- a slice's cells, element by element -/
theorem open_rows {t e : TypeId} {fuel n : Nat} {cs : List Value} {x : DataW H × List MemPlace} (ht : P.underlying t = some (.slice e)) (hC : P.cellsOf e = n) (hpos : 0 < n) (h : DataW.trod enc P w base spare held fuel t cs = some x) :
    cs = [.slice none 0 0] ∨
    ∃ (a : Addr) (len cap : Nat), cs = [.slice (some a) len cap] ∧ len ≤ cap ∧ cap ≤ maxLen ∧ (0 < len → a = ⟨a.block, a.off, none⟩) ∧
      ∀ i, i < len → ∃ (cs' : List Value) (y : DataW H × List MemPlace) (m : Nat), cs'.length = n ∧ DataW.trod enc P w base spare held m e cs' = some y ∧ ∀ j (hj : j < cs'.length), w.cell? ⟨a.block, a.off + i * n + j, none⟩ = some cs'[j] := by
  subst hC
  rcases DataW.trod_slice ht h with ⟨h0, _⟩ | ⟨a, len, cap, elems, rest, n, rfl, hcs, hx, _, hl, hm, hlen, hel, _, _⟩
  · exact .inl h0
  · refine .inr ⟨a, len, cap, hcs, hl, hm, fun h0 => ?_, fun i hi => ?_⟩
    · have h1 := hel 0 h0
      rw [List.getElem?_eq_getElem (by omega), Option.bind_eq_some_iff, Nat.zero_mul, add_zero] at h1
      obtain ⟨cs', hc, ht'⟩ := h1
      obtain ⟨_, hcl, hat⟩ := World.cells?_some hc
      have h2 := hat 0 hpos
      rw [List.getElem?_eq_getElem (by rw [hcl]; exact hpos), add_zero] at h2
      exact cell_spot h2
    have h1 := hel i hi
    rw [List.getElem?_eq_getElem (by omega)] at h1
    rw [Option.bind_eq_some_iff] at h1
    obtain ⟨cs', hc, ht'⟩ := h1
    obtain ⟨_, hcl, hat⟩ := World.cells?_some hc
    refine ⟨cs', _, n, hcl, ht', fun j hj => ?_⟩
    have h2 := hat j (by omega)
    rw [List.getElem?_eq_getElem hj, Go.Deep.add_add] at h2
    rw [Nat.add_assoc]
    exact cell_add h2
theorem int_arg {fuel : Nat} {v : Value} {x : DataW H × List MemPlace} (h : DataW.trod enc Tryz.prog w base spare held fuel 3 [v] = some x) : ∃ n : Int, v = .int .i64 n ∧ okI n := by
  obtain ⟨n, h1, _, h2⟩ := DataW.trod_int Tryz.underlying3 h
  injection h1 with h1 _
  refine ⟨n, h1, ?_⟩
  have e1 : IntKind.i64.min = -9223372036854775808 := by decide
  have e2 : IntKind.i64.max = 9223372036854775807 := by decide
  simp only [Lit.wf, e1, e2, Bool.and_eq_true, decide_eq_true_eq] at h2
  exact h2
theorem string_arg {fuel : Nat} {v : Value} {x : DataW H × List MemPlace} (h : DataW.trod enc Tryz.prog w base spare held fuel 9 [v] = some x) : ∃ s : ByteArray, v = .string s ∧ s.size ≤ maxLen := by
  obtain ⟨s, h1, _, h3⟩ := DataW.trod_string Tryz.underlying9 h
  injection h1 with h1 _
  exact ⟨s, h1, h3⟩
theorem each_ints {mem : Addr → Option Value} {b : Nat} : ∀ (n o : Nat), (∀ i, i < n → ∃ x : Int, mem ⟨b, o + i, none⟩ = some (.int .i64 x)) → ∃ l : List Int, l.length = n ∧ ∀ j (h : j < l.length), mem ⟨b, o + j, none⟩ = some (.int .i64 l[j])
  | 0, o, _ => ⟨[], rfl, fun j h => absurd h (by simp)⟩
  | n + 1, o, h => by
    obtain ⟨x, hx⟩ := h 0 (by omega)
    obtain ⟨l, h1, h2⟩ := each_ints n (o + 1) (fun i hi => by rw [show o + 1 + i = o + (i + 1) by omega]; exact h (i + 1) (by omega))
    refine ⟨x :: l, by simp [h1], fun j hj => ?_⟩
    cases j with
    | zero => exact hx
    | succ j => rw [show o + (j + 1) = o + 1 + j by omega]; exact h2 j (by simpa using hj)
theorem cells3 : Tryz.prog.cellsOf 3 = 1 := by kernel_rfl
theorem cells9 : Tryz.prog.cellsOf 9 = 1 := by kernel_rfl
theorem cells25 : Tryz.prog.cellsOf 30 = 1 := by kernel_rfl
theorem cells37 : Tryz.prog.cellsOf 34 = 4 := by kernel_rfl
theorem cells39 : Tryz.prog.cellsOf 56 = 9 := by kernel_rfl
theorem ints_arg {fuel : Nat} {v : Value} {x : DataW H × List MemPlace} (h : DataW.trod enc Tryz.prog w base spare held fuel 30 [v] = some x) : ∃ l : List Int, IntsM (fun a => w.cell? a) v l := by
  rcases open_rows Tryz.underlying30 cells3 (by omega) h with h0 | ⟨a, len, cap, hcs, hl, hm, hsp, hi⟩
  · injection h0 with h0 _
    subst h0
    exact ⟨[], IntsM.nil _⟩
  · injection hcs with hcs _
    subst hcs
    obtain ⟨l, h1, h2⟩ := each_ints (mem := fun a => w.cell? a) (b := a.block) len a.off (fun i hil => by
      obtain ⟨cs', y, m, hcl, ht, hc⟩ := hi i hil
      match cs', hcl with
      | [u], _ =>
        obtain ⟨n, rfl, _⟩ := int_arg ht
        have := hc 0 (by simp)
        exact ⟨n, by simpa using this⟩)
    subst h1
    exact ⟨l, a.block, a.off, ⟨Nat.le_trans hl hm, some a, cap, rfl, hl, hm, fun h0 => by rw [← hsp h0]⟩, h2⟩
theorem one37 : ∃ fs, Tryz.prog.underlying 34 = some (.struct fs) ∧ (fs.map (·.type)).toList = [3, 30, 3, 3] ∧ (fs.map (·.offset)).toList = [0, 1, 2, 3] :=
  ⟨_, Tryz.underlying34, by simp, by simp⟩
theorem one39 : ∃ fs, Tryz.prog.underlying 56 = some (.struct fs) ∧ (fs.map (·.type)).toList = [3, 3, 9, 3, 3, 34] ∧ (fs.map (·.offset)).toList = [0, 1, 2, 3, 4, 5] :=
  ⟨_, Tryz.underlying56, by simp, by simp⟩
theorem field_arg {t : TypeId} {fs : Array Field} {fuel : Nat} {cs : List Value} {x : DataW H × List MemPlace} (hu : P.underlying t = some (.struct fs)) (h : DataW.trod enc P w base spare held fuel t cs = some x) :
    ∃ m, ∀ (j : Nat) (t' : TypeId) (o : Nat), (fs.map (·.type)).toList[j]? = some t' → (fs.map (·.offset)).toList[j]? = some o → ∃ y : DataW H × List MemPlace, DataW.trod enc P w base spare held m t' ((cs.drop o).take (P.cellsOf t')) = some y := by
  obtain ⟨xs, n, _, _, _, hlen, hg⟩ := DataW.trod_struct hu h
  refine ⟨n, fun j t' o ht ho => ?_⟩
  rw [Array.getElem?_toList, Array.getElem?_map, Option.map_eq_some_iff] at ht ho
  obtain ⟨f, hj, rfl⟩ := ht
  obtain ⟨f', hj', rfl⟩ := ho
  obtain rfl := Option.some.inj (hj.symm.trans hj')
  have hjl : j < xs.length := by rw [hlen]; exact (Array.getElem?_eq_some_iff.1 hj).1
  exact ⟨xs[j], (hg j f hj).trans (List.getElem?_eq_getElem hjl)⟩
set_option maxRecDepth 100000 in
theorem blk_arg {fuel : Nat} {cs : List Value} {x : DataW H × List MemPlace} (hl : cs.length = 9) (h : DataW.trod enc Tryz.prog w base spare held fuel 56 cs = some x) {b o : Nat} (hc : ∀ j (hj : j < cs.length), w.cell? ⟨b, o + j, none⟩ = some cs[j]) :
    ∃ y : Blk, BlkAt (fun a => w.cell? a) y b o := by
  obtain ⟨fs, hu, hty, hof⟩ := one39
  obtain ⟨m, key⟩ := field_arg hu h
  rw [hty, hof] at key
  match cs, hl with
  | [c0, c1, c2, c3, c4, c5, c6, c7, c8], _ =>
    obtain ⟨y0, t0⟩ := key 0 3 0 rfl rfl
    obtain ⟨y1, t1⟩ := key 1 3 1 rfl rfl
    obtain ⟨y2, t2⟩ := key 2 9 2 rfl rfl
    obtain ⟨y3, t3⟩ := key 3 3 3 rfl rfl
    obtain ⟨y4, t4⟩ := key 4 3 4 rfl rfl
    obtain ⟨y5, t5⟩ := key 5 34 5 rfl rfl
    rw [cells3] at t0 t1 t3 t4
    rw [cells9] at t2
    rw [cells37] at t5
    obtain ⟨gs, hu', hty', hof'⟩ := one37
    obtain ⟨m', key'⟩ := field_arg hu' t5
    rw [hty', hof'] at key'
    obtain ⟨z0, s0⟩ := key' 0 3 0 rfl rfl
    obtain ⟨z1, s1⟩ := key' 1 30 1 rfl rfl
    obtain ⟨z2, s2⟩ := key' 2 3 2 rfl rfl
    obtain ⟨z3, s3⟩ := key' 3 3 3 rfl rfl
    rw [cells3] at s0 s2 s3
    rw [cells25] at s1
    obtain ⟨id, rfl, k0⟩ := int_arg (v := c0) t0
    obtain ⟨kind, rfl, k1⟩ := int_arg (v := c1) t1
    obtain ⟨text, rfl, k2⟩ := string_arg (v := c2) t2
    obtain ⟨story, rfl, _⟩ := int_arg (v := c3) t3
    obtain ⟨ref, rfl, _⟩ := int_arg (v := c4) t4
    obtain ⟨till, rfl, _⟩ := int_arg (v := c5) s0
    obtain ⟨after, ka⟩ := ints_arg (v := c6) s1
    obtain ⟨appr, rfl, _⟩ := int_arg (v := c7) s2
    obtain ⟨den, rfl, _⟩ := int_arg (v := c8) s3
    exact ⟨⟨id, kind, text, story, ref, ⟨till, after, appr, den⟩⟩, ⟨hc 0 (by simp), hc 1 (by simp), hc 2 (by simp), hc 3 (by simp), hc 4 (by simp)⟩, ⟨hc 5 (by simp), hc 7 (by simp), hc 8 (by simp)⟩, ⟨k2, k1, k0⟩, c6, hc 6 (by simp), ka⟩
theorem each_blks {mem : Addr → Option Value} {b : Nat} : ∀ (n o : Nat), (∀ i, i < n → ∃ y : Blk, BlkAt mem y b (o + i * 9)) → ∃ l : List Blk, l.length = n ∧ BlksAt mem l b o
  | 0, o, _ => ⟨[], rfl, fun j h => absurd h (by simp)⟩
  | n + 1, o, h => by
    obtain ⟨x, hx⟩ := h 0 (by omega)
    obtain ⟨l, h1, h2⟩ := each_blks n (o + 9) (fun i hi => by rw [show o + 9 + i * 9 = o + (i + 1) * 9 by omega]; exact h (i + 1) (by omega))
    refine ⟨x :: l, by simp [h1], fun j hj => ?_⟩
    cases j with
    | zero => exact hx
    | succ j => rw [show o + (j + 1) * 9 = o + 9 + j * 9 by omega]; exact h2 j (by simpa using hj)
theorem blks_arg {fuel : Nat} {v : Value} {x : DataW H × List MemPlace} (h : DataW.trod enc Tryz.prog w base spare held fuel 43 [v] = some x) : ∃ l : List Blk, BlksM (fun a => w.cell? a) v l := by
  rcases open_rows Tryz.underlying43 cells39 (by omega) h with h0 | ⟨a, len, cap, hcs, hl, hm, hsp, hi⟩
  · injection h0 with h0 _
    subst h0
    exact ⟨[], BlksM.nil _⟩
  · injection hcs with hcs _
    subst hcs
    obtain ⟨l, h1, h2⟩ := each_blks (mem := fun a => w.cell? a) (b := a.block) len a.off (fun i hil => by
      obtain ⟨cs', y, m, hcl, ht, hc⟩ := hi i hil
      exact blk_arg hcl ht hc)
    subst h1
    exact ⟨l, a.block, a.off, ⟨Nat.le_trans hl hm, some a, cap, rfl, hl, hm, fun h0 => by rw [← hsp h0]⟩, h2⟩
set_option maxRecDepth 100000 in
theorem blks_in {b0 : Nat} {v : Value} {d : DataW H} {p : List MemPlace} (hv : Value.okWide Tryz.prog W .any b0 43 v) (h : DataW.Trod enc Tryz.prog W 0 (fun _ => true) true 43 v d p) : ∃ l : List Blk, BlksM (fun a => W.cell? a) v l := by
  obtain ⟨a, len, cap, rfl⟩ := okWide_slice Tryz.underlying43 hv
  obtain ⟨fuel, h⟩ := h
  exact blks_arg h
end
end Go.Proofs.YtgbihmafmmeicaaGreatDoor
/-
  WHAT IS PROVED HERE: arguments of the Access laws that read as data lie in memory as the walks want them. No condition.
-/
namespace Go.Proofs.YtgbihmafmmeicaaGreatDoor
open Go.ChangeShapes Go.WideShapes Go.RowKit Go.Deep Mg

section
variable {H : Type} {enc : TypeId × Value → H} {w W : World} {base : Nat} {spare : Nat → Bool} {held : Bool}
theorem cellsSix : Tryz.prog.cellsOf 62 = 6 := by kernel_rfl
theorem pair_key : WideMaps.ArrKey Tryz.prog 23 3 2 := ⟨Tryz.underlying23, by kernel_rfl, cells3, by kernel_rfl⟩
theorem okI_lit {n : Int} (h : (Lit.int .i64 n).wf = true) : okI n := by
  have e1 : IntKind.i64.min = -9223372036854775808 := by decide
  have e2 : IntKind.i64.max = 9223372036854775807 := by decide
  simp only [Lit.wf, e1, e2, Bool.and_eq_true, decide_eq_true_eq] at h
  exact h
set_option maxRecDepth 100000 in
theorem pair_in {b0 : Nat} {v : Value} {d : DataW H} {p : List MemPlace} (hv : Value.okWide Tryz.prog W .any b0 23 v) (h : DataW.Trod enc Tryz.prog W 0 (fun _ => true) true 23 v d p) : ∃ a b : Int, v = .agg #[.int .i64 a, .int .i64 b] ∧ okI a ∧ okI b := by
  obtain ⟨a, b, rfl, _, _, wa, wb⟩ := WideMaps.open_pair pair_key Tryz.underlying3 hv h
  exact ⟨a, b, rfl, okI_lit wa, okI_lit wb⟩
set_option maxRecDepth 100000 in
theorem int_in {b0 : Nat} {v : Value} {d : DataW H} {p : List MemPlace} (hv : Value.okWide Tryz.prog W .any b0 3 v) (h : DataW.Trod enc Tryz.prog W 0 (fun _ => true) true 3 v d p) : ∃ a : Int, v = .int .i64 a ∧ okI a := by
  obtain ⟨n, rfl⟩ := okWide_int Tryz.underlying3 hv
  obtain ⟨fuel, h⟩ := h
  obtain ⟨m, e, hm⟩ := int_arg (v := .int .i64 n) h
  exact ⟨m, e, hm⟩
set_option maxRecDepth 100000 in
theorem six_arg {fuel : Nat} {cs : List Value} {x : DataW H × List MemPlace} (hl : cs.length = 6) (h : DataW.trod enc Tryz.prog w base spare held fuel 62 cs = some x) {b o : Nat} (hc : ∀ j (hj : j < cs.length), w.cell? ⟨b, o + j, none⟩ = some cs[j]) :
    ∃ y : Six, okSix y ∧ SixAt (fun a => w.cell? a) y b o := by
  obtain ⟨xs, m, _, _, _, hxl, hg⟩ := DataW.trod_array Tryz.underlying62 h
  have key : ∀ i, i < 6 → ∃ y : DataW H × List MemPlace, DataW.trod enc Tryz.prog w base spare held m 3 ((cs.drop i).take 1) = some y := fun i hi => by
    have := hg i hi
    rw [cells3, Nat.mul_one] at this
    exact ⟨xs[i]'(by omega), this.trans (List.getElem?_eq_getElem (by omega))⟩
  match cs, hl with
  | [c0, c1, c2, c3, c4, c5], _ =>
    obtain ⟨y0, t0⟩ := key 0 (by omega)
    obtain ⟨y1, t1⟩ := key 1 (by omega)
    obtain ⟨y2, t2⟩ := key 2 (by omega)
    obtain ⟨y3, t3⟩ := key 3 (by omega)
    obtain ⟨y4, t4⟩ := key 4 (by omega)
    obtain ⟨y5, t5⟩ := key 5 (by omega)
    obtain ⟨a, rfl, ka⟩ := int_arg (v := c0) t0
    obtain ⟨b', rfl, kb⟩ := int_arg (v := c1) t1
    obtain ⟨c, rfl, kc⟩ := int_arg (v := c2) t2
    obtain ⟨d, rfl, kd⟩ := int_arg (v := c3) t3
    obtain ⟨e, rfl, ke⟩ := int_arg (v := c4) t4
    obtain ⟨f, rfl, kf⟩ := int_arg (v := c5) t5
    exact ⟨⟨a, b', c, d, e, f⟩, ⟨ka, kb, kc, kd, ke, kf⟩, hc 0 (by simp), hc 1 (by simp), hc 2 (by simp), hc 3 (by simp), hc 4 (by simp), hc 5 (by simp)⟩
theorem each_six {mem : Addr → Option Value} {b : Nat} : ∀ (n o : Nat), (∀ i, i < n → ∃ y : Six, okSix y ∧ SixAt mem y b (o + i * 6)) → ∃ l : List Six, l.length = n ∧ ∀ j (h : j < l.length), okSix l[j] ∧ SixAt mem l[j] b (o + j * 6)
  | 0, o, _ => ⟨[], rfl, fun j h => absurd h (by simp)⟩
  | n + 1, o, h => by
    obtain ⟨x, hx⟩ := h 0 (by omega)
    obtain ⟨l, h1, h2⟩ := each_six n (o + 6) (fun i hi => by rw [show o + 6 + i * 6 = o + (i + 1) * 6 by omega]; exact h (i + 1) (by omega))
    refine ⟨x :: l, by simp [h1], fun j hj => ?_⟩
    cases j with
    | zero => exact hx
    | succ j => rw [show o + (j + 1) * 6 = o + 6 + j * 6 by omega]; exact h2 j (by simpa using hj)
set_option maxRecDepth 100000 in
theorem sixes_in {b0 : Nat} {v : Value} {d : DataW H} {p : List MemPlace} (hv : Value.okWide Tryz.prog W .any b0 22 v) (h : DataW.Trod enc Tryz.prog W 0 (fun _ => true) true 22 v d p) : ∃ l : List Six, SixM (fun a => W.cell? a) v l := by
  obtain ⟨a, len, cap, rfl⟩ := okWide_slice Tryz.underlying22 hv
  obtain ⟨fuel, h⟩ := h
  rcases open_rows Tryz.underlying22 cellsSix (by omega) h with h0 | ⟨a, len, cap, hcs, hl, hm, hsp, hi⟩
  · injection h0 with h0 _
    rw [h0]
    exact ⟨[], 0, 0, sliceNil, fun j hj => absurd hj (by simp)⟩
  · injection hcs with hcs _
    rw [hcs]
    obtain ⟨l, h1, h2⟩ := each_six (mem := fun a => W.cell? a) (b := a.block) len a.off (fun i hil => by
      obtain ⟨cs', y, m, hcl, ht, hc⟩ := hi i hil
      exact six_arg hcl ht hc)
    subst h1
    exact ⟨l, a.block, a.off, ⟨Nat.le_trans hl hm, some a, cap, rfl, hl, hm, fun h0 => by rw [← hsp h0]⟩, h2⟩
end
end Go.Proofs.YtgbihmafmmeicaaGreatDoor

/-
  WHAT IS PROVED HERE: the walk of the statement EvalRunMatchesReference: it returns true. Conditions: the arguments lie in memory; strconv's table.
-/
import Derived.Test.YtlkaikopjjmneaaDoorMac
import Derived.Test.YtlkaikopjjmneaaDoorRpn
namespace Go.Proofs.YtlkaikopjjmneaaDoor
open Go.RowKit
theorem calls_at2 {mem : Addr → Option Value} {g : Nat} : ∀ (rc : List RCall) (o : Nat), (∀ j u, (rc.flatMap RCall.cells)[j]? = some u → mem ⟨g, o + j, none⟩ = some u) →
    (∀ c ∈ rc, IntsM mem c.idsV c.a.ids ∧ ∃ b o, SliceOf c.nodesV c.a.nodes.length b o ∧ NodesAt mem c.a.nodes b o) → CallsAt mem (rc.map RCall.a) g o
  | [], _, _, _ => trivial
  | c :: r, o, hc, hm => by
    rw [List.flatMap_cons] at hc
    have hl : c.cells.length = 9 := rfl
    refine ⟨⟨c.idsV, c.nodesV, fun j u hj => ?_, (hm c List.mem_cons_self).1, (hm c List.mem_cons_self).2⟩, calls_at2 r (o + 9) (fun j u hj => ?_) (fun c' hc' => hm c' (List.mem_cons_of_mem _ hc'))⟩
    · have hjl := (List.getElem?_eq_some_iff.1 hj).1
      refine hc j u ?_
      rw [List.getElem?_append_left (by rw [hl]; exact hjl)]
      exact hj
    · have := hc (9 + j) u (by rw [List.getElem?_append_right (by omega), hl, show 9 + j - 9 = j by omega]; exact hj)
      rwa [← Nat.add_assoc] at this
theorem slice_of_own2 {w : World} {B E size n : Nat} {v : Value} {xs : List Value} (h : w.ownsRow B E size v n xs) (hn : n ≤ big) : ∃ b, SliceOf v n b 0 ∧ ∀ j u, xs[j]? = some u → w.cell? ⟨b, 0 + j, none⟩ = some u := by
  have hlen := h.1
  rcases h.2 with ⟨rfl, h0⟩ | ⟨g, cap, cur, rfl, hb, hg, hc, _, _, _⟩
  · subst h0
    refine ⟨0, nilS, fun j u hj => ?_⟩
    have : xs = [] := List.eq_nil_of_length_eq_zero (by omega)
    subst this; simp at hj
  · refine ⟨g, ⟨hn, _, cap, rfl, hc, fun _ => rfl⟩, fun j u hj => ?_⟩
    have := World.ownsRow.cells h (g := g) rfl j u hj
    rwa [Addr.add_lit] at this
def CellsOf (w : World) (l : List ACall) (g : Nat) : Prop := ∀ i (h : i < l.length), ∃ iv nv, ∀ j u, (cCells l[i] iv nv)[j]? = some u → w.cell? ⟨g, i * 9 + j, none⟩ = some u
theorem cells_of {mem : Addr → Option Value} {w : World} (hm : ∀ a v, mem a = some v → w.cell? a = some v) : ∀ {l : List ACall} {g o : Nat}, CallsAt mem l g o → ∀ i (h : i < l.length), ∃ iv nv, ∀ j u, (cCells l[i] iv nv)[j]? = some u → w.cell? ⟨g, o + i * 9 + j, none⟩ = some u
  | c :: r, g, o, hc, 0, _ => by
    obtain ⟨⟨iv, nv, h, _⟩, _⟩ := hc
    exact ⟨iv, nv, fun j u hj => hm _ _ (by have := h j u hj; simpa using this)⟩
  | c :: r, g, o, hc, i + 1, h => by
    have := cells_of hm hc.2 i (by simpa using h)
    rwa [show o + 9 + i * 9 = o + (i + 1) * 9 by omega] at this
theorem CellsOf.upd {w w' : World} {l : List ACall} {g : Nat} {F : Nat → Prop} (h : CellsOf w l g) (hu : Upd F w w') (hn : ¬ F g) : CellsOf w' l g := fun i hi => by
  obtain ⟨iv, nv, hc⟩ := h i hi
  exact ⟨iv, nv, fun j u hj => hu.cell_some (hc j u hj) hn⟩
/-- a recorder behind a run: its calls in memory, in a block of its own -/
theorem rec_left {w0 w : World} {R : Nat} {dF dL dS : Value} {F : Nat → Prop} {tr : List ACall} (hI : RecI w0.heap.size (memOf w0 R) R dF dL dS F w tr) (hlen : tr.length ≤ 2000) :
    ∃ ca cc g, w.heap[R]? = some (.cells #[dF, dL, dS, .slice ca tr.length cc] 37 (0, 0)) ∧ (0 < tr.length → ca = some ⟨g, 0, none⟩) ∧ tr.length ≤ cc ∧ CellsOf w tr g ∧ w0.heap.size ≤ g ∧ R < w0.heap.size := by
  obtain ⟨cv, rc, h1, h2, rfl, h4, h5⟩ := hI.ex
  have hrl : rc.length ≤ big := by rw [List.length_map] at hlen; unfold big; omega
  have hown := h2
  obtain ⟨g, hs, hc⟩ := slice_of_own2 h2 hrl
  obtain ⟨_, ca, cc, rfl, hcc, hpos⟩ := hs
  have hcal : CallsAt (fun a => w.cell? a) (rc.map RCall.a) g 0 := calls_at2 rc 0 (fun j u hj => hc j u hj) (fun c hcm => by
    obtain ⟨⟨b, o', a1, a2⟩, _, b2, o2, a3, a4⟩ := h4 c hcm
    exact ⟨⟨b, o', a1, fun j hj => a2 j hj⟩, b2, o2, a3, a4.mono (fun a v h => hI.sees a v h)⟩)
  rw [List.length_map]
  by_cases h0 : rc.length = 0
  · refine ⟨ca, cc, w0.heap.size, h1, fun h => by omega, hcc, fun i hi => by simp [h0] at hi, Nat.le_refl _, hI.lt.1⟩
  · have hg := hpos (by omega)
    refine ⟨ca, cc, g, h1, fun _ => hg, hcc, fun i hi => ?_, ?_, hI.lt.1⟩
    · obtain ⟨iv, nv, hx⟩ := cells_of (w := w) (fun _ _ h => h) hcal i hi
      exact ⟨iv, nv, fun j u hj => by have := hx j u hj; rwa [Nat.zero_add] at this⟩
    · subst hg
      exact (World.ownsRow.lt hown g rfl).1
theorem same_self (a : ACall) (ia na ib nb : Value) (w : World) :
    Calls Tryd.prog 18 #[.agg (cCells a ia na).toArray, .agg (cCells a ib nb).toArray] w fun e w' => e = .returned (.bool true) ∧ (w.alloc (.cells (cCells a ia na).toArray 41)).alloc (.cells (cCells a ib nb).toArray 41) = w' :=
  (same_any a a ia na ib nb w).mono fun e w' ⟨h1, h2⟩ => ⟨by rw [h1, sameC_of rfl rfl rfl rfl rfl], h2⟩
theorem rec_okl {base : Nat} {mem : Addr → Option Value} {R M : Nat} {dF dL dS : Value} {d : Dat} (hd : DatAt mem d dF dL dS) : OkL (recOps d) (⟨base, mem, fun F w s => RecI base mem R dF dL dS F w s, List.length, R, M⟩ : MEnv (List ACall)) :=
  fun id name arg n hI hB hs hn ha => rec_list2 hd hI hB hs id name arg n hn ha

set_option maxRecDepth 100000 in
set_option maxHeartbeats 2000000 in
theorem runref_walk {W : World} (ht : Tab W) (h2 : 2 < W.heap.size) {dF dL dS : Value} {d : Dat} (hd : DatAt (fun a => W.cell? a) d dF dL dS) (l : List Node) (lv : Value) (lb lo : Nat)
    (hl1 : SliceOf lv l.length lb lo) (hl2 : NodesAt (fun a => W.cell? a) l lb lo) (id : Int) :
    Calls Tryd.prog 3 #[lv, .agg #[dF, dL, dS], .int .i64 id] W fun e w' => e = .returned (.bool true) ∧ Upd (fun _ => False) W w' := by
  obtain ⟨la, lc, rfl, _, _, _⟩ := hl1.shape
  obtain ⟨W0, HW0⟩ := named (W.alloc (.cells #[dF, dL, dS] 27))
  have hu0 : Upd (fun _ => False) W W0 := by rw [HW0.out]; exact upd_box1 _ _
  have hB : W0.heap[W.heap.size]? = some (.cells #[dF, dL, dS] 27 (0, 0)) := by rw [HW0.out]; exact World.alloc_heap_new _ _
  have ht0 := tab_upd ht hu0 h2 (fun f => f)
  have h20 : 2 < W0.heap.size := by have := hu0.size; omega
  have HT := Lib.hid ht
  have HT0 := Lib.hid ht0
  have HD := Lib.hid hd
  have HBB := Lib.hid hB
  have HL := Lib.hid (And.intro hl1 hl2)
  clear ht0 ht hd hl2 hl1 hB
  go_enter Tryd.func3, Tryd.ntmps3
  go_wp2_with fail
  rw [← HW0.out]
  refine (sane_any _ HT0.out h20).mono ?_
  rintro e w1 ⟨rfl, hu1⟩
  have hsz1 := hu1.size
  have hb1 := (hu1.block _ (blk_lt HBB.out) (fun f => f)).trans HBB.out
  have k0 : w1.cell? ⟨W.heap.size, 0, none⟩ = some dF := blk_cell hb1 0
  have k1 : w1.cell? ⟨W.heap.size, 1, none⟩ = some dL := blk_cell hb1 1
  have k2 : w1.cell? ⟨W.heap.size, 2, none⟩ = some dS := blk_cell hb1 2
  have hs0 := hu0.size
  clear hb1
  go_wp2_with fail
  refine (source_any _ _ _ _).mono ?_
  rintro e w2' ⟨rfl, rfl⟩
  obtain ⟨wa, HWA⟩ := named ((w1.alloc (.cells #[dF, dL, dS] 27)).alloc (.cells #[dF, dL, dS, .slice none 0 0] 37))
  have hua : Upd (fun _ => False) w1 wa := by rw [HWA.out]; exact ((Upd.refl _ w1).alloc _).alloc _
  have hza : wa.heap.size = w1.heap.size + 2 := by rw [HWA.out]; simp
  have j0 := hua.cell_some k0 (fun f => f)
  have j1 := hua.cell_some k1 (fun f => f)
  have j2 := hua.cell_some k2 (fun f => f)
  rw [← HWA.out]
  clear hua
  go_wp2_with fail
  refine (source_any _ _ _ _).mono ?_
  rintro e w2' ⟨rfl, rfl⟩
  rw [hza, HWA.out, show w1.heap.size + 2 + 1 = w1.heap.size + 3 from rfl]
  clear j0 j1 j2 hza
  obtain ⟨w2, HW2⟩ := named ((((w1.alloc (.cells #[dF, dL, dS] 27)).alloc (.cells #[dF, dL, dS, .slice none 0 0] 37)).alloc (.cells #[dF, dL, dS] 27)).alloc (.cells #[dF, dL, dS, .slice none 0 0] 37))
  have hu2 : Upd (fun _ => False) W w2 := by rw [HW2.out]; exact ((((hu0.trans hu1 (fun _ f => f.elim)).alloc _).alloc _).alloc _).alloc _
  have hR : w2.heap[w1.heap.size + 1]? = some (.cells #[dF, dL, dS, .slice none 0 0] 37 (0, 0)) := by rw [HW2.out]; exact ag_old (by simp) (ag_old (by simp) (ag_new (by simp)))
  have hRb : w2.heap[w1.heap.size + 3]? = some (.cells #[dF, dL, dS, .slice none 0 0] 37 (0, 0)) := by rw [HW2.out]; exact ag_new (by simp)
  have hz2 : w2.heap.size = w1.heap.size + 4 := by rw [HW2.out]; simp
  have HR := Lib.hid (And.intro hR hRb)
  clear hR hRb k0 k1 k2
  rw [← HW2.out]
  go_wp2_with fail
  refine (run_rec HR.out.1 (HD.out.mono (fun _ _ h => mem_later hu2 (by omega) h)) (tab_upd HT.out hu2 h2 (fun f => f)) (by omega) l _ lb lo HL.out.1 (HL.out.2.mono (fun _ _ h => mem_later hu2 (by omega) h)) id).mono ?_
  rintro e w3 ⟨rfl, F', hI, hu3, hF'⟩
  have hs3 := hu3.size
  have hW3 : Upd (fun _ => False) W w3 := hu2.trans hu3 (fun i e => .inr (by have e2 : i = w1.heap.size + 1 := e; omega))
  have hRb3 := (hu3.block (w1.heap.size + 3) (by omega) (fun e => by have e2 : w1.heap.size + 3 = w1.heap.size + 1 := e; omega)).trans HR.out.2
  have hdm : DatAt (memOf w3 (w1.heap.size + 3)) d dF dL dS := HD.out.mono (fun _ _ h => mem_later hW3 (by omega) h)
  have hcl2 := refrun_any (rec_start hRb3 hdm (tab_upd HT.out hW3 h2 (fun f => f)) (by omega)) (fun M => rec_okl hdm) l (.slice la l.length lc) lb lo HL.out.1 (HL.out.2.mono (fun _ _ h => mem_later hW3 (by omega) h)) id
  obtain ⟨q1, _, _⟩ := rep_run d l id
  generalize runF (recOps d) l [] id = r1 at *
  obtain ⟨⟨ra, rb⟩, tr⟩ := r1
  simp only at q1 hI
  obtain ⟨ca, cc, g, hR3, hca, hcc, hcells, hg, _⟩ := rec_left hI q1
  have HC2 := Lib.hid hcl2
  have HA := Lib.hid (And.intro hR3 (And.intro hca hcells))
  have HU := Lib.hid hW3
  clear hcl2 hdm hRb3 hW3 hI hu3 hF' hR3 hca hcells
  go_wp2_with fail
  refine HC2.out.mono ?_
  rintro e w4 ⟨rfl, F2, hI2, hu4, hF2⟩
  have hs4 := hu4.size
  simp only at hI2
  obtain ⟨cb, ccb, g2, hR4, hcb, hccb, hcells2, hg2, _⟩ := rec_left hI2 q1
  obtain ⟨hR3, hca, hcells⟩ := HA.out
  have hR34 := (hu4.block _ (blk_lt hR3) (fun e => by have e2 : w1.heap.size + 1 = w1.heap.size + 3 := e; omega)).trans hR3
  have hcells4 := hcells.upd hu4 (fun e => by have e2 : g = w1.heap.size + 3 := e; omega)
  have hend : Upd (fun _ => False) W w4 := HU.out.trans hu4 (fun i e => .inr (by have e2 : i = w1.heap.size + 3 := e; omega))
  have c3 : w4.cell? ⟨w1.heap.size + 1, 3, none⟩ = some (.slice ca tr.length cc) := blk_cell hR34 3
  have c4 : w4.cell? ⟨w1.heap.size + 3, 3, none⟩ = some (.slice cb tr.length ccb) := blk_cell hR4 3
  have l3 := blk_lt hR34
  have l4 := blk_lt hR4
  have HA2 := Lib.hid (And.intro hca hcells4)
  have HB2 := Lib.hid (And.intro hcb hcells2)
  have HE := Lib.hid hend
  have hbigt : tr.length ≤ 1099511627776 := by omega
  clear hI2 hu4 hF2 hR4 hcb hcells2 hR3 hca hcells hR34 hcells4 hend HA HU HC2
  simp only
  generalize bs ra = S at *
  go_wp2_with fail
  go_quiet (fail)
  go_wp2_with fail
  go_loopw [14] (fun i wr => ∃ k : Nat, k ≤ tr.length ∧ i = .int .i64 k ∧ Upd (fun _ => False) w4 wr) (fun i _ => tr.length - (intOf i).toNat)
  case atStart => exact ⟨0, Nat.zero_le _, rfl, upd_drewN _ _⟩
  case round =>
    obtain ⟨k, hk, rfl, hu⟩ := hrel
    have p3 := hu.cell_some c3 (fun f => f)
    have p4 := hu.cell_some c4 (fun f => f)
    by_cases hlt : k < tr.length
    · obtain ⟨hca, hcs⟩ := HA2.out
      obtain ⟨hcb, hcs2⟩ := HB2.out
      obtain rfl := hca (by omega)
      obtain rfl := hcb (by omega)
      obtain ⟨ia, na, hx⟩ := hcs k hlt
      obtain ⟨ib, nb, hy⟩ := hcs2 k hlt
      generalize tr[k] = q at *
      have a0 := hu.cell_some (hx 0 _ rfl) (fun f => f)
      have a1 := hu.cell_some (hx 1 _ rfl) (fun f => f)
      have a2 := hu.cell_some (hx 2 _ rfl) (fun f => f)
      have a3 := hu.cell_some (hx 3 _ rfl) (fun f => f)
      have a4 := hu.cell_some (hx 4 _ rfl) (fun f => f)
      have a5 := hu.cell_some (hx 5 _ rfl) (fun f => f)
      have a6 := hu.cell_some (hx 6 _ rfl) (fun f => f)
      have a7 := hu.cell_some (hx 7 _ rfl) (fun f => f)
      have a8 := hu.cell_some (hx 8 _ rfl) (fun f => f)
      have b0 := hu.cell_some (hy 0 _ rfl) (fun f => f)
      have b1 := hu.cell_some (hy 1 _ rfl) (fun f => f)
      have b2 := hu.cell_some (hy 2 _ rfl) (fun f => f)
      have b3 := hu.cell_some (hy 3 _ rfl) (fun f => f)
      have b4 := hu.cell_some (hy 4 _ rfl) (fun f => f)
      have b5 := hu.cell_some (hy 5 _ rfl) (fun f => f)
      have b6 := hu.cell_some (hy 6 _ rfl) (fun f => f)
      have b7 := hu.cell_some (hy 7 _ rfl) (fun f => f)
      have b8 := hu.cell_some (hy 8 _ rfl) (fun f => f)
      have z0 := World.block_lt_of_cell? wr _ a0
      have z1 := World.block_lt_of_cell? wr _ b0
      simp only [Nat.add_zero] at a0 b0 z0 z1
      have HUR := Lib.hid hu
      clear hx hy hcs hcs2 hca hcb hu
      go_wp2_with fail
      go_region_with (go_at_call 18; refine (same_self q ia na ib nb _).mono ?_; rintro e w5 ⟨rfl, rfl⟩)
      all_goals
        go_wp2_with fail
        go_roundw
        case rel => exact ⟨k + 1, by omega, by go_num, by repeat (first | exact HUR.out | apply Upd.alloc | apply Upd.drew)⟩
        case measure => simp [intOf]; omega
    · have HEN := Lib.hid (HE.out.trans hu (fun _ f => f.elim))
      go_wp2_with fail
      go_ret
      exact ⟨rfl, HEN.out⟩
end Go.Proofs.YtlkaikopjjmneaaDoor

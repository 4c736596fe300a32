/-
  WHAT IS PROVED HERE: the walk of the statement EvalReplay: it returns true. Conditions: the arguments lie in memory; strconv's table.
-/
import Derived.Test.YtlkaikopjjmneaaDoorRpC
import Derived.Test.YtlkaikopjjmneaaDoorCat
namespace Go.Proofs.YtlkaikopjjmneaaDoor
open Go.RowKit

theorem calls_at {mem : Addr → Option Value} {g : Nat} : ∀ (rc : List RCall) (o : Nat), (∀ j u, (rc.flatMap RCall.cells)[j]? = some u → mem ⟨g, o + j, none⟩ = some u) →
    (∀ c ∈ rc, IntsM mem c.idsV c.a.ids ∧ ∃ b o, SliceOf c.nodesV c.a.nodes.length b o ∧ NodesAt mem c.a.nodes b o) → CallsAt mem (rc.map RCall.a) g o
  | [], _, _, _ => trivial
  | c :: r, o, hc, hm => by
    rw [List.flatMap_cons] at hc
    have hl : c.cells.length = 9 := rfl
    refine ⟨⟨c.idsV, c.nodesV, fun j u hj => ?_, (hm c List.mem_cons_self).1, (hm c List.mem_cons_self).2⟩, calls_at r (o + 9) (fun j u hj => ?_) (fun c' hc' => hm c' (List.mem_cons_of_mem _ hc'))⟩
    · have hjl := (List.getElem?_eq_some_iff.1 hj).1
      refine hc j u ?_
      rw [List.getElem?_append_left (by rw [hl]; exact hjl)]
      exact hj
    · have := hc (9 + j) u (by rw [List.getElem?_append_right (by omega), hl, show 9 + j - 9 = j by omega]; exact hj)
      rwa [← Nat.add_assoc] at this
theorem slice_of_own {w : World} {B E size n : Nat} {v : Value} {xs : List Value} (h : w.ownsRow B E size v n xs) (hn : n ≤ big) : ∃ b, SliceOf v n b 0 ∧ ∀ j u, xs[j]? = some u → w.cell? ⟨b, 0 + j, none⟩ = some u := by
  have hlen := h.1
  rcases h.2 with ⟨rfl, h0⟩ | ⟨g, cap, cur, rfl, hb, hg, hc, _, _, _⟩
  · subst h0
    refine ⟨0, nilS, fun j u hj => ?_⟩
    have : xs = [] := List.eq_nil_of_length_eq_zero (by omega)
    subst this; simp at hj
  · refine ⟨g, ⟨hn, _, cap, rfl, hc, fun _ => rfl⟩, fun j u hj => ?_⟩
    have := World.ownsRow.cells h (g := g) rfl j u hj
    rwa [Addr.add_lit] at this
theorem rep_start {w : World} {R : Nat} {ao : Option Addr} {cap b o : Nat} {l : List ACall} (hR : w.heap[R]? = some (.cells #[.slice ao l.length cap, .bool false] 59 (0, 0))) (hs : SliceOf (.slice ao l.length cap) l.length b o) (hc : CallsAt (memOf w R) l b o) (hg : ∀ c ∈ l, GoodC c) (ht : Tab w) (h2 : 2 < R) :
    Rep.Start repOps (memOf w R) R (fun F w' s => RepI w.heap.size (memOf w R) R F w' s) (fun _ => 0) (fun k => k = R) (l, false) w where
  ok := rep_ok
  src := ⟨⟨ao, cap, b, o, hR, hs, hc⟩, fun _ => Iff.rfl, ⟨blk_lt hR, Nat.le_refl _⟩, fun a v h => (memOf_some h).1, fun a v h => ⟨World.block_lt_of_cell? w a (memOf_some h).1, (memOf_some h).2⟩, hg⟩
  cnt0 := rfl
  sees := fun a v h => (memOf_some h).1
  memF := fun a v h => ⟨World.block_lt_of_cell? w a (memOf_some h).1, (memOf_some h).2⟩
  tab := ht
  tabF := ⟨by have := blk_lt hR; omega, by omega⟩
/-- what the first run leaves, and the second finds -/
theorem rec_to_rep {w2 w3 : World} {base R : Nat} {dF dL dS : Value} {F : Nat → Prop} {tr : List ACall} (hI : RecI base (memOf w2 R) R dF dL dS F w3 tr) (hlen : tr.length ≤ 2000) :
    ∃ ca cc, w3.heap[R]? = some (.cells #[dF, dL, dS, .slice ca tr.length cc] 37 (0, 0)) ∧ ∃ g, SliceOf (.slice ca tr.length cc) tr.length g 0 ∧ ∀ o, CallsAt (memOf (w3.alloc o) w3.heap.size) tr g 0 := by
  obtain ⟨cv, rc, h1, h2, rfl, h4, h5⟩ := hI.ex
  have hrl : rc.length ≤ big := by rw [List.length_map] at hlen; unfold big; omega
  obtain ⟨g, hs, hc⟩ := slice_of_own h2 hrl
  obtain ⟨_, ca, cc, rfl, hcc, hpos⟩ := hs
  rw [List.length_map]
  refine ⟨ca, cc, h1, g, ⟨hrl, ca, cc, rfl, hcc, hpos⟩, fun o => ?_⟩
  have hm : ∀ a v, w3.cell? a = some v → memOf (w3.alloc o) w3.heap.size a = some v := fun a v h => memOf_of ((upd_box1 w3 o).cell_some h (fun f => f)) (by have := World.block_lt_of_cell? w3 a h; omega)
  refine calls_at rc 0 (fun j u hj => hm _ _ (hc j u hj)) (fun c hcm => ?_)
  obtain ⟨⟨b, o', a1, a2⟩, _, b2, o2, a3, a4⟩ := h4 c hcm
  exact ⟨⟨b, o', a1, fun j hj => hm _ _ (a2 j hj)⟩, b2, o2, a3, a4.mono (fun a v h => hm _ _ (hI.sees a v h))⟩

set_option maxRecDepth 100000 in
set_option maxHeartbeats 2000000 in
theorem replay_walk {W : World} (ht : Tab W) (h2 : 2 < W.heap.size) {dF dL dS : Value} {d : Dat} (hd : DatAt (fun a => W.cell? a) d dF dL dS) (l : List Node) (lv : Value) (lb lo : Nat)
    (hl1 : SliceOf lv l.length lb lo) (hl2 : NodesAt (fun a => W.cell? a) l lb lo) (id : Int) :
    Calls Tryd.prog 8 #[lv, .agg #[dF, dL, dS], .int .i64 id] W fun e w' => e = .returned (.bool true) ∧ Upd (fun _ => False) W w' := by
  obtain ⟨la, lc, rfl, _, _, _⟩ := hl1.shape
  obtain ⟨W0, HW0⟩ := named (W.alloc (.cells #[dF, dL, dS] 27))
  have hu0 : Upd (fun _ => False) W W0 := by rw [HW0.out]; exact upd_box1 _ _
  have hB : W0.heap[W.heap.size]? = some (.cells #[dF, dL, dS] 27 (0, 0)) := by rw [HW0.out]; exact World.alloc_heap_new _ _
  have ht0 := tab_upd ht hu0 h2 (fun f => f)
  have h20 : 2 < W0.heap.size := by have := hu0.size; omega
  have HT := Lib.hid ht
  have HT0 := Lib.hid ht0
  have HD := Lib.hid hd
  have HBB := Lib.hid hB
  have HL := Lib.hid (And.intro hl1 hl2)
  clear ht0 ht hd hl2 hl1 hB
  go_enter Tryd.func8, Tryd.ntmps8
  go_wp2_with fail
  rw [← HW0.out]
  refine (sane_any _ HT0.out h20).mono ?_
  rintro e w1 ⟨rfl, hu1⟩
  have hsz1 := hu1.size
  have hb1 := (hu1.block _ (blk_lt HBB.out) (fun f => f)).trans HBB.out
  have k0 : w1.cell? ⟨W.heap.size, 0, none⟩ = some dF := blk_cell hb1 0
  have k1 : w1.cell? ⟨W.heap.size, 1, none⟩ = some dL := blk_cell hb1 1
  have k2 : w1.cell? ⟨W.heap.size, 2, none⟩ = some dS := blk_cell hb1 2
  have hs0 := hu0.size
  clear hb1
  go_wp2_with fail
  refine (source_any _ _ _ _).mono ?_
  rintro e w2' ⟨rfl, rfl⟩
  obtain ⟨w2, HW2⟩ := named ((w1.alloc (.cells #[dF, dL, dS] 27)).alloc (.cells #[dF, dL, dS, .slice none 0 0] 37))
  have hu2 : Upd (fun _ => False) W w2 := by rw [HW2.out]; exact ((hu0.trans hu1 (fun _ f => f.elim)).alloc _).alloc _
  have hR : w2.heap[w1.heap.size + 1]? = some (.cells #[dF, dL, dS, .slice none 0 0] 37 (0, 0)) := by rw [HW2.out]; exact ag_new (by simp)
  have hz2 : w2.heap.size = w1.heap.size + 2 := by rw [HW2.out]; simp
  have HR := Lib.hid hR
  clear hR k0 k1 k2
  rw [← HW2.out]
  go_wp2_with fail
  refine (run_rec HR.out (HD.out.mono (fun _ _ h => mem_later hu2 (by omega) h)) (tab_upd HT.out hu2 h2 (fun f => f)) (by omega) l _ lb lo HL.out.1 (HL.out.2.mono (fun _ _ h => mem_later hu2 (by omega) h)) id).mono ?_
  rintro e w3 ⟨rfl, F', hI, hu3, hF'⟩
  obtain ⟨q1, q2, q3⟩ := rep_run d l id
  have hok := (okay_run (recOps d) l [] id).1
  generalize runF (recOps d) l [] id = r1 at *
  obtain ⟨⟨ra, rb⟩, tr⟩ := r1
  obtain ⟨ca, cc, hR3, g, hcs, hca⟩ := rec_to_rep hI q1
  have k3 : w3.cell? ⟨w1.heap.size + 1, 3, none⟩ = some (.slice ca tr.length cc) := blk_cell hR3 3
  have hs3 := hu3.size
  have HI := Lib.hid (And.intro hI (And.intro hu3 (And.intro q2 (And.intro q3 (And.intro hR3 (And.intro hcs hca))))))
  simp only at q1
  clear hI hu3 q2 q3 hR3 hcs hca hF'
  go_wp2_with fail
  obtain ⟨w4, HW4⟩ := named (w3.alloc (.cells #[.slice ca tr.length cc, .bool false] 59))
  have hu4 : Upd (fun _ => False) w3 w4 := by rw [HW4.out]; exact upd_box1 _ _
  have hR4 : w4.heap[w3.heap.size]? = some (.cells #[.slice ca tr.length cc, .bool false] 59 (0, 0)) := by rw [HW4.out]; exact ag_new rfl
  have hz4 : w4.heap.size = w3.heap.size + 1 := by rw [HW4.out]; simp
  obtain ⟨hI, hu3, q2, q3, hR3, hcs, hca⟩ := HI.out
  have hca4 : CallsAt (memOf w4 w3.heap.size) tr g 0 := by rw [HW4.out]; exact hca _
  have hW4 : Upd (fun k => k = w1.heap.size + 1) W w4 := (hu2.mono (fun _ f => f.elim)).trans (hu3.trans hu4 (fun _ f => f.elim)) (fun _ e => .inl e)
  have hmem4 : ∀ a v, W.cell? a = some v → memOf w4 w3.heap.size a = some v := fun a v h => by
    have hlt := World.block_lt_of_cell? W a h
    exact memOf_of (hW4.cell_some h (fun e => by omega)) (by omega)
  have htb4 : Tab w4 := tab_upd HT.out hW4 h2 (fun e => by omega)
  have HST := Lib.hid (rep_start hR4 hcs hca4 q2 htb4 (by omega))
  have HM := Lib.hid (And.intro hmem4 (And.intro hW4 q3))
  have hR34 := (hu4.block _ (blk_lt hR3) (fun f => f)).trans hR3
  have HR34 := Lib.hid hR34
  rw [← HW4.out]
  clear hI hu3 q2 q3 hR3 hcs hca hca4 hmem4 htb4 hR4 hW4 hR34 hu4 k3
  refine (Rep.run_any HST.out l _ lb lo HL.out.1 (HL.out.2.mono HM.out.1) id).mono ?_
  rintro e w5 ⟨rfl, F2, hI5, hu5, hF5⟩
  rw [HM.out.2.2] at hI5 ⊢
  obtain ⟨ao, cap, b5, o5, h51, _, _⟩ := hI5.ex
  have c0 : w5.cell? ⟨w3.heap.size, 0, none⟩ = some (.slice ao 0 cap) := blk_cell h51 0
  have c1 : w5.cell? ⟨w3.heap.size, 1, none⟩ = some (.bool false) := blk_cell h51 1
  have hb5 := (hu5.block _ (blk_lt HR34.out) (fun e => by omega)).trans HR34.out
  have c3 : w5.cell? ⟨w1.heap.size + 1, 3, none⟩ = some (.slice ca tr.length cc) := blk_cell hb5 3
  have hend : Upd (fun _ => False) W w5 := (HM.out.2.1.mono (fun k e => .inr (by omega))).trans hu5 (fun k e => .inr (by omega))
  have HE := Lib.hid hend
  have hdec : decide (((tr.length : Nat) : Int) ≤ 2000) = true := by simp; omega
  generalize bs ra = S at *
  clear hend hb5 h51 hI5 hu5 hF5
  go_wp2_with fail
  go_ret
  exact ⟨rfl, HE.out⟩
end Go.Proofs.YtlkaikopjjmneaaDoor

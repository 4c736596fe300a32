/-
  WHAT IS PROVED HERE: the walk of the law's helper fresh. Condition: each list of stories takes at most 2^47 - 4096 bytes.
-/
import Derived.Test.YtikpbknafhnieaaGreatDoorShort
namespace Go.Proofs.YtikpbknafhnieaaGreatDoor
open Go.RowKit Mg Go.Shelf

section
variable {ops : Array Oper} {rest : List Oper} {o : Oper} {a : Act} {w : World} {Q : Exit → Act → World → Prop} {mem : Addr → Option Value}
/-- append([]int{}, l...) -/
theorem wpList_app_after2 (hgd : o.guard = none) (s x : Operand) (ho : o.op = .call { callee := .builtin .append, args := #[s, x], argTypes := #[25, 25] })
    (g : Nat) (hs : a.eval s = .slice (some ⟨g, 0, none⟩) 0 0) (hg : w.heap[g]? = some (.cells #[] 3 (0, 0))) (ao : Option Addr) (cap : Nat) (l : List Int) (hx : a.eval x = .slice ao l.length cap) (hi : IntsM mem (.slice ao l.length cap) l) (hsee : Sees mem w) (hlen : l.length * 8 ≤ 140737488351232)
    (h : ∀ v' w', IRow w' g v' l → w.grownBy w' (some g) → wpList Tryz.prog ops Q rest (a.put o.dst v') w') : wpList Tryz.prog ops Q (o :: rest) a w := by
  obtain ⟨i0, hi0, hz0, hz1, hz2⟩ := info_parts int_info
  have hlt : g < w.heap.size := (Array.getElem?_eq_some_iff.1 hg).1
  have hown : w.ownsRow g 3 1 (.slice (some ⟨g, 0, none⟩) 0 0) 0 [] := ⟨rfl, .inr ⟨g, 0, #[], rfl, Nat.le_refl _, hg, Nat.le_refl _, Nat.zero_le _, rfl, rfl⟩⟩
  refine wpList_append_any w hgd s x 25 ho g 3 i0 (.int .i64 0) 1 8 Tryz.underlying25 hi0 hz0 hz1 hz2 rfl (by decide) _ 0 [] hs hown w.heap.size ao l.length cap (l.map encI) hx (reads_ints hi hsee) (one_cell l) (by unfold maxLen; omega) (by omega) (by omega) ?_
  intro v' w' h1 h2 _
  refine h v' w' ?_ h2
  unfold IRow
  simpa using h1
end
theorem app_ready2 {wq w11 : World} {B : Nat} {r v' : Value} {l : List Blk} {m : List Int} (hr : BRow wq B r l) (hB : B ≤ wq.heap.size) {o e0 : Obj} (hI : IRow w11 (wq.heap.size + 1) v' m) (hg : ((wq.alloc o).alloc e0).grownBy w11 (some (wq.heap.size + 1))) (o2 : Obj) :
    BRow ((w11.setCell ⟨wq.heap.size, 6, none⟩ v').alloc o2) B r l ∧ IntsM (memFr ((w11.setCell ⟨wq.heap.size, 6, none⟩ v').alloc o2) (fun k => k < B ∨ r.ownBlock = some k)) v' m ∧ Below wq.heap.size wq ((w11.setCell ⟨wq.heap.size, 6, none⟩ v').alloc o2) ∧ True := by
  have hu0 : Upd (fun k => wq.heap.size ≤ k) ((wq.alloc o).alloc e0) w11 := (Upd.refl _ _).grown hg (fun k e => by injection e with e; exact .inl (by omega))
  have hu1 : Upd (fun k => k = wq.heap.size) w11 ((w11.setCell ⟨wq.heap.size, 6, none⟩ v').alloc o2) := ((Upd.refl (fun k => k = wq.heap.size) w11).setCell (.inl rfl) _).alloc _
  have hu : Upd (fun k => wq.heap.size ≤ k) wq ((w11.setCell ⟨wq.heap.size, 6, none⟩ v').alloc o2) := ((((Upd.refl _ wq).alloc o).alloc e0).trans hu0 (fun i h => .inl h)).trans hu1 (fun i h => .inl (by rw [h]; exact Nat.le_refl _))
  refine ⟨hr.kept hu (fun k h => .inr h), ?_, hu.below (fun i h => h) (Nat.le_refl _), trivial⟩
  have h1 := IRow.kept hI hu1 (fun k e h => by have := hI.ge k e; omega)
  refine h1.intsFr (fun k e h => ?_)
  have h2 := hI.ge k e
  rcases h with h | h
  · omega
  · have := (hr.ge k h).2; omega
set_option maxRecDepth 10000 in
set_option maxHeartbeats 4000000 in
theorem fresh_any {mem : Addr → Option Value} {v : Value} {l : List Blk} (h : BlksM mem v l) (hz : ∀ x ∈ l, x.lab.after.length * 8 ≤ 140737488351232) (w : World) (hs : Sees mem w) :
    Calls Tryz.prog 24 #[v] w fun e w' => ∃ u, e = .returned u ∧ BRow w' w.heap.size u (shortL l) ∧ Below w.heap.size w w' := by
  obtain ⟨ao, cap, b, o, rfl, hcap, hm, hao, hblks⟩ := h.open_
  have HA := Lib.hid hao
  have HC := Lib.hid hblks
  have HS := Lib.hid hs
  have HZ := Lib.hid (fun j (hj : j < l.length) => hz l[j] (List.getElem_mem hj))
  have hlen : (l.length : Int) ≤ 9223372036854775807 := by unfold maxLen at hm; omega
  have H0 : Hid (BRow w w.heap.size (.slice none 0 0) ((l.take 0).map cutB)) := Lib.hid (BRow.nil _ _)
  clear hao hblks h hs hcap hm hz
  go_enter Tryz.func24, Tryz.ntmps24
  go_wp2_with fail
  go_loopw [4, 3] (fun i r wr => ∃ k : Nat, k ≤ l.length ∧ k ≤ 30 ∧ i = .int .i64 k ∧ (∃ ra rn rc, r = .slice ra rn rc) ∧ Below w.heap.size w wr ∧ Hid (BRow wr w.heap.size r ((l.take k).map cutB))) (fun i _ _ => 30 - (Go.RowKit.intOf i).toNat)
  case atStart => exact ⟨0, Nat.zero_le _, by omega, rfl, ⟨_, _, _, rfl⟩, Below.refl _ _, H0⟩
  case round =>
    obtain ⟨k, hk, hk2, rfl, ⟨ra, rn, rc, rfl⟩, hb, hR⟩ := hrel
    by_cases hlt : k < l.length
    · by_cases hlt2 : k < 30
      · obtain ⟨⟨ht, _⟩, lo, lc, hints, c9⟩ := (HC.out k hlt).nine (HS.out.bel hb)
        obtain ⟨c0, c1, c2, c3, c4, c5, c6, c7, c8⟩ := c9
        obtain rfl := HA.out (by omega)
        have hzk := HZ.out k hlt
        have hstep : (l.take (k + 1)).map cutB = (l.take k).map cutB ++ [cutB l[k]] := by rw [List.take_succ_eq_append_getElem hlt, List.map_append]; rfl
        have HST := Lib.hid hstep
        clear hstep
        generalize l[k] = x at *
        have hw := hb.size
        have hll : ((l.take k).map cutB).length ≤ 100000 := by rw [List.length_map, List.length_take]; omega
        have HI := Lib.hid hints
        have hsq := Lib.hid (HS.out.bel hb)
        have hrow := Lib.hid hR.out
        generalize hLk : (l.take k).map cutB = Lk at *
        clear hints hR hLk
        go_wp2_with (first
          | (at_builtin; refine wpList_app_after2 rfl _ _ rfl (wr.heap.size + 1) rfl (heap_new2 wr _ _) lo lc x.lab.after rfl HI.out ((hsq.out.alloc _).alloc _) hzk ?_; intro v' w11 hI hg11
             have hh := (hg11.block wr.heap.size (by simp; omega) (by simp)).trans ((Below.heap_alloc _ _ _ (by simp)).trans (World.alloc_heap_new _ _))
             have f0 := blk_free hh 6
             have d0 := blk_cell hh 0; have d1 := blk_cell hh 1; have d2 := blk_cell hh 2; have d3 := blk_cell hh 3; have d4 := blk_cell hh 4; have d5 := blk_cell hh 5; have d6 := blk_cell hh 6; have d7 := blk_cell hh 7; have d8 := blk_cell hh 8
             obtain ⟨va, vc, rfl⟩ := hI.shape
             simp only [List.getElem?_toArray, List.getElem?_cons_zero, List.getElem?_cons_succ] at d0 d1 d2 d3 d4 d5 d6 d7 d8)
          | (at_builtin
             obtain ⟨r1, r2, r3, _⟩ := app_ready2 hrow.out hw hI hg11 (.cells (blkCells (cutB x) (.slice va x.lab.after.length vc)) 39)
             refine wpList_app_blk rfl _ _ rfl w.heap.size _ Lk rfl r1 (cutB x) va vc r2 w11.heap.size 1 rfl (by rw [← show (w11.setCell ⟨wr.heap.size, 6, none⟩ (.slice va x.lab.after.length vc)).heap.size = w11.heap.size by simp [World.setCell]]; exact World.alloc_heap_new _ _) hll (Nat.le_trans hw r3.size) ?_
             intro v2 w12 h12 hg12
             have HR2 : Hid (BRow w12 w.heap.size v2 ((l.take (k + 1)).map cutB)) := Lib.hid (by rw [HST.out]; exact h12)
             have hge := hrow.out.ge
             have hb2 : Below w.heap.size w w12 := (hb.trans (r3.mono hw)).grown hg12 (Nat.le_trans hw r3.size) (fun j e => (hge j e).1)
             obtain ⟨qa, qn, qc, rfl⟩ := h12.sl
             clear h12 hg12 r1 r2 r3 hI hg11 hh hge))
        go_roundw
        case rel => exact ⟨k + 1, by omega, by omega, by go_num, ⟨_, _, _, rfl⟩, hb2, HR2⟩
        case measure => simp [Go.RowKit.intOf]; omega
      · have e : k = 30 := by omega
        subst e
        have HF : Hid (BRow wr w.heap.size (.slice ra rn rc) (shortL l)) := Lib.hid hR.out
        go_wp2_with fail
        go_ret
        exact ⟨_, rfl, HF.out, hb⟩
    · have e : k = l.length := by omega
      subst e
      have HF : Hid (BRow wr w.heap.size (.slice ra rn rc) (shortL l)) := Lib.hid (by
        have e2 : shortL l = (l.take l.length).map cutB := by unfold shortL; rw [List.take_of_length_le (by omega), List.take_length]
        rw [e2]
        exact hR.out)
      go_wp2_with fail
      go_ret
      exact ⟨_, rfl, HF.out, hb⟩
end Go.Proofs.YtikpbknafhnieaaGreatDoor

/-
  WHAT IS PROVED HERE: the walk of the law's helper short. No condition.
-/
import Derived.Test.YtikpbknafhnieaaGreatDoorSane
namespace Go.Proofs.YtikpbknafhnieaaGreatDoor
open Go.RowKit Mg Go.Shelf

/-- the first 400 bytes of the text -/
def cutB (x : Blk) : Blk := { x with text := x.text.extract 0 (min (x.text.size : Int) 400).toNat }
def shortL (l : List Blk) : List Blk := (l.take 30).map cutB
section
variable {ops : Array Oper} {rest : List Oper} {o : Oper} {a : Act} {w : World} {Q : Exit → Act → World → Prop} {mem : Addr → Option Value}
/-- the blocks l lie in a row of the call's own, their stories in memory that is only read -/
def SRow (mem : Addr → Option Value) (w : World) (B : Nat) (v : Value) (l : List Blk) : Prop := ∃ vs, w.ownsRow B 39 9 v l.length vs ∧ BVals mem l vs
theorem SRow.sl {B : Nat} {v : Value} {l : List Blk} (h : SRow mem w B v l) : ∃ ao n cap, v = .slice ao n cap := by
  obtain ⟨_, h, _⟩ := h
  rcases h.2 with ⟨rfl, _⟩ | ⟨g, cap, cur, rfl, _⟩
  · exact ⟨_, _, _, rfl⟩
  · exact ⟨_, _, _, rfl⟩
theorem SRow.ge {B : Nat} {v : Value} {l : List Blk} (h : SRow mem w B v l) : ∀ k, v.ownBlock = some k → B ≤ k ∧ k < w.heap.size := by
  obtain ⟨_, h, _⟩ := h
  exact World.ownsRow.lt h
theorem SRow.kept {w' : World} {B : Nat} {v : Value} {l : List Blk} {F : Nat → Prop} (h : SRow mem w B v l) (hu : Upd F w w') (hn : ∀ k, v.ownBlock = some k → ¬ F k) : SRow mem w' B v l := by
  obtain ⟨vs, h1, h2⟩ := h
  refine ⟨vs, ⟨h1.1, ?_⟩, h2⟩
  rcases h1.2 with hq | ⟨g, cap, cur, rfl, hb, hgg, rest⟩
  · exact .inl hq
  · exact .inr ⟨g, cap, cur, rfl, hb, (hu.block g (Array.getElem?_eq_some_iff.1 hgg).1 (hn g rfl)).trans hgg, rest⟩
theorem SRow.blks {B : Nat} {v : Value} {l : List Blk} (h : SRow mem w B v l) (hs : Sees mem w) (hp : ∀ x ∈ l, x.text.size ≤ maxLen ∧ okI x.kind ∧ okI x.id) : BlksM (fun a => w.cell? a) v l := by
  obtain ⟨vs, h1, h2⟩ := h
  have hg := (h2.mono (mem' := fun a => w.cell? a) hs).get
  rcases h1.2 with ⟨rfl, hz⟩ | ⟨g, cap, cur, rfl, hb, hgg, hn, hc, hs, ht⟩
  · have : l = [] := List.eq_nil_of_length_eq_zero hz
    subst this
    exact BlksM.nil _
  · refine ⟨g, 0, ⟨Nat.le_trans hn hc, some ⟨g, 0, none⟩, cap, rfl, hn, hc, fun _ => rfl⟩, fun j hj => ?_⟩
    obtain ⟨ao, cp, hi, hv⟩ := hg j hj
    have hcell : ∀ t, t < 9 → w.cell? ⟨g, 0 + j * 9 + t, none⟩ = (blkVals l[j] (.slice ao l[j].lab.after.length cp))[t]? := fun t ht9 => by
      rw [blk_cell hgg]
      have h5 : (cur.toList.take (l.length * 9))[j * 9 + t]? = vs[j * 9 + t]? := by rw [ht]
      rw [List.getElem?_take_of_lt (by omega)] at h5
      rw [show 0 + j * 9 + t = j * 9 + t by omega, ← Array.getElem?_toList, h5]
      exact hv t ht9
    exact ⟨⟨hcell 0 (by omega), hcell 1 (by omega), hcell 2 (by omega), hcell 3 (by omega), hcell 4 (by omega)⟩, ⟨hcell 5 (by omega), hcell 7 (by omega), hcell 8 (by omega)⟩, hp _ (List.getElem_mem hj), _, hcell 6 (by omega), hi⟩
theorem run_app_sblk {B : Nat} {v : Value} {l : List Blk} (h : SRow mem w B v l) (x : Blk) (ao : Option Addr) (cap : Nat) (hi : IntsM mem (.slice ao x.lab.after.length cap) x.lab.after)
    (g c : Nat) (hc : w.heap[g]? = some (.cells (blkCells x (.slice ao x.lab.after.length cap)) 39 (0, 0))) (hlen : l.length ≤ 100000) (hB : B ≤ w.heap.size) (ty : Nat) :
    ∃ v' w', (Builtin.append_ #[22, 22] ty #[v, .slice (some ⟨g, 0, none⟩) 1 c]).run Tryz.prog w = .ok v' w' ∧ SRow mem w' B v' (l ++ [x]) ∧ w.grownBy w' v.ownBlock := by
  obtain ⟨i0, hi0, hz0, hz1, hz2⟩ := info_parts blk_info
  obtain ⟨vs, h1, h2⟩ := h
  obtain ⟨v', w', hr, g2, g3, _, g5⟩ := run_append_own_at (P := Tryz.prog) w B 22 ty 39 i0 _ 9 96 Tryz.underlying22 hi0 hz0 hz1 hz2 rfl (by decide) v l.length vs h1 ⟨g, 0, none⟩ 1 c (blkVals x (.slice ao x.lab.after.length cap)) rfl
    (fun j u hj => by
      have e : (⟨g, 0, none⟩ : Addr).add j = ⟨g, j, none⟩ := by unfold Addr.add; by_cases h0 : j = 0 <;> simp [h0]
      rw [e, blk_cell hc]
      rw [← hj]; simp)
    (by simp [Value.oneCell']) (by unfold maxLen; omega) (by omega) hB
  exact ⟨v', w', hr, ⟨_, by rw [List.length_append]; exact g2, BVals.snoc hi h2⟩, g3⟩
theorem wpList_app_sblk (hgd : o.guard = none) (s x : Operand) (ho : o.op = .call { callee := .builtin .append, args := #[s, x], argTypes := #[22, 22] })
    (B : Nat) (v : Value) (l : List Blk) (hs : a.eval s = v) (hown : SRow mem w B v l) (y : Blk) (ao : Option Addr) (cap : Nat) (hi : IntsM mem (.slice ao y.lab.after.length cap) y.lab.after)
    (g c : Nat) (hx : a.eval x = .slice (some ⟨g, 0, none⟩) 1 c) (hc : w.heap[g]? = some (.cells (blkCells y (.slice ao y.lab.after.length cap)) 39 (0, 0))) (hlen : l.length ≤ 100000) (hB : B ≤ w.heap.size)
    (h : ∀ v' w', SRow mem w' B v' (l ++ [y]) → w.grownBy w' v.ownBlock → wpList Tryz.prog ops Q rest (a.put o.dst v') w') : wpList Tryz.prog ops Q (o :: rest) a w := by
  refine wpList_plain hgd fun K hK => ?_
  obtain ⟨v', w', hr, h2, h3⟩ := run_app_sblk hown y ao cap hi g c hc hlen hB o.type
  unfold Oper.wp execOp
  simp only [ho, resolve, invoke, builtin, Sem.run_bind, Sem.run_pure, Result.andThen_ok, List.map_toArray, List.map_cons, List.map_nil, hs, hx, hr]
  exact hK _ _ (h v' w' h2 h3)
end

theorem heap_new2 (w : World) (A B : Obj) : ((w.alloc A).alloc B).heap[w.heap.size + 1]? = some B := by
  have := World.alloc_heap_new (w.alloc A) B
  rwa [World.size_alloc] at this
theorem cutB_ok {x : Blk} (h : x.text.size ≤ maxLen ∧ okI x.kind ∧ okI x.id) : (cutB x).text.size ≤ maxLen ∧ okI (cutB x).kind ∧ okI (cutB x).id := by
  refine ⟨?_, h.2⟩
  show (x.text.extract 0 _).size ≤ maxLen
  rw [ByteArray.size_extract]
  have := h.1
  omega

set_option maxRecDepth 10000 in
set_option maxHeartbeats 4000000 in
theorem short_any {mem : Addr → Option Value} {v : Value} {l : List Blk} (h : BlksM mem v l) (w : World) (hs : Sees mem w) :
    Calls Tryz.prog 13 #[v] w fun e w' => ∃ u, e = .returned u ∧ BlksM (fun a => w'.cell? a) u (shortL l) ∧ Below w.heap.size w w' := by
  obtain ⟨ao, cap, b, o, rfl, hcap, hm, hao, hblks⟩ := h.open_
  have HA := Lib.hid hao
  have HC := Lib.hid hblks
  have HS := Lib.hid hs
  have hlen : (l.length : Int) ≤ 9223372036854775807 := by unfold maxLen at hm; omega
  have H0 : Hid (SRow mem w w.heap.size (.slice none 0 0) ((l.take 0).map cutB)) := Lib.hid ⟨[], World.ownsRow_nil _ _ _ _, rfl⟩
  clear hao hblks h hs hcap hm
  go_enter Tryz.func13, Tryz.ntmps13
  go_wp2_with fail
  go_loopw [4, 3] (fun i r wr => ∃ k : Nat, k ≤ l.length ∧ k ≤ 30 ∧ i = .int .i64 k ∧ (∃ ra rn rc, r = .slice ra rn rc) ∧ Below w.heap.size w wr ∧ Hid (SRow mem wr w.heap.size r ((l.take k).map cutB))) (fun i _ _ => 30 - (Go.RowKit.intOf i).toNat)
  case atStart => exact ⟨0, Nat.zero_le _, by omega, rfl, ⟨_, _, _, rfl⟩, Below.refl _ _, H0⟩
  case round =>
    obtain ⟨k, hk, hk2, rfl, ⟨ra, rn, rc, rfl⟩, hb, hR⟩ := hrel
    by_cases hlt : k < l.length
    · by_cases hlt2 : k < 30
      · obtain ⟨⟨ht, _⟩, lo, lc, hints, c9⟩ := (HC.out k hlt).nine (HS.out.bel hb)
        obtain ⟨c0, c1, c2, c3, c4, c5, c6, c7, c8⟩ := c9
        obtain rfl := HA.out (by omega)
        have hstep : (l.take (k + 1)).map cutB = (l.take k).map cutB ++ [cutB l[k]] := by rw [List.take_succ_eq_append_getElem hlt, List.map_append]; rfl
        generalize l[k] = x at *
        have hw := hb.size
        have hll : ((l.take k).map cutB).length ≤ 100000 := by rw [List.length_map, List.length_take]; omega
        go_wp2_with (at_builtin; refine wpList_app_sblk rfl _ _ rfl w.heap.size _ ((l.take k).map cutB) rfl (hR.out.kept (((Upd.refl (fun _ => False) wr).alloc _).alloc _) (fun _ _ f => f)) (cutB x) lo lc hints (wr.heap.size + 1) 1 rfl (heap_new2 wr _ _) hll (by simp; omega) ?_; intro v2 w2 h2 hg2; rw [← hstep] at h2; have HR2 := Lib.hid h2; have hb2 : Below w.heap.size w w2 := ((hb.alloc hw _).alloc (by simp; omega) _).grown hg2 (by simp; omega) (fun j e => (hR.out.ge j e).1); obtain ⟨qa, qn, qc, rfl⟩ := h2.sl; clear h2 hg2)
        go_roundw
        case rel => exact ⟨k + 1, by omega, by omega, by go_num, ⟨_, _, _, rfl⟩, hb2, HR2⟩
        case measure => simp [Go.RowKit.intOf]; omega
      · have e : k = 30 := by omega
        subst e
        have HF : Hid (BlksM (fun a => wr.cell? a) (.slice ra rn rc) (shortL l)) := Lib.hid (hR.out.blks (HS.out.bel hb) (fun y hy => by
          obtain ⟨x, hx, rfl⟩ := List.mem_map.1 hy
          obtain ⟨j, hj, rfl⟩ := List.getElem_of_mem (List.mem_of_mem_take hx)
          exact cutB_ok ((HC.out j hj).2.2.1)))
        go_wp2_with fail
        go_ret
        exact ⟨_, rfl, HF.out, hb⟩
    · have e : k = l.length := by omega
      subst e
      have HF : Hid (BlksM (fun a => wr.cell? a) (.slice ra rn rc) (shortL l)) := Lib.hid (by
        have e2 : shortL l = (l.take l.length).map cutB := by unfold shortL; rw [List.take_of_length_le (by omega), List.take_length]
        rw [e2]
        exact hR.out.blks (HS.out.bel hb) (fun y hy => by
          obtain ⟨x, hx, rfl⟩ := List.mem_map.1 hy
          obtain ⟨j, hj, rfl⟩ := List.getElem_of_mem (List.mem_of_mem_take hx)
          exact cutB_ok ((HC.out j hj).2.2.1)))
      go_wp2_with fail
      go_ret
      exact ⟨_, rfl, HF.out, hb⟩
end Go.Proofs.YtikpbknafhnieaaGreatDoor

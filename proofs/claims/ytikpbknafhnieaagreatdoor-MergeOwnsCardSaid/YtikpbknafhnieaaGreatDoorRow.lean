/-
  WHAT IS PROVED HERE: rows of blocks that a call makes; append of a block, and of a label's stories to nil. No condition.
-/
import Derived.Test.YtikpbknafhnieaaGreatDoorTake
import Derived.Test.YtikpbknafhnieaaGreatDoorSrt
namespace Go.Proofs.YtikpbknafhnieaaGreatDoor
open Go.RowKit Mg Go.Shelf

theorem after_len : ∀ (l : List Int) (last : Int), 0 ≤ last → last ≤ 64 → afterOK last l = true → (l.length : Int) ≤ 64 - last
  | [], _, _, h, _ => by simp; omega
  | s :: r, last, h0, h1, h => by
    unfold afterOK at h
    simp only [Bool.and_eq_true, decide_eq_true_eq] at h
    have := after_len r s (by omega) h.1.2 h.2
    simp; omega
theorem valid_after {l : List Blk} (h : ValidL l) {x : Blk} (hx : x ∈ l) : x.lab.after.length ≤ 64 := by
  have h1 := h.2.1 x hx
  unfold validBlk validLab at h1
  simp only [Bool.and_eq_true] at h1
  have := after_len x.lab.after 0 (by omega) (by omega) h1.1.2.2
  omega

abbrev blkVals (x : Blk) (av : Value) : List Value := [.int .i64 x.id, .int .i64 x.kind, .string x.text, .int .i64 x.story, .int .i64 x.ref, .int .i64 x.lab.till, av, .int .i64 x.lab.appr, .int .i64 x.lab.denied]
/-- the cells of a row of blocks -/
def BVals (mem : Addr → Option Value) : List Blk → List Value → Prop
  | [], vs => vs = []
  | x :: l, vs => ∃ ao cap rest, IntsM mem (.slice ao x.lab.after.length cap) x.lab.after ∧ vs = blkVals x (.slice ao x.lab.after.length cap) ++ rest ∧ BVals mem l rest
section
variable {mem mem' : Addr → Option Value} {w w' : World}
theorem BVals.mono : ∀ {l : List Blk} {vs : List Value}, BVals mem l vs → (∀ a u, mem a = some u → mem' a = some u) → BVals mem' l vs
  | [], _, h, _ => h
  | _ :: _, _, ⟨ao, cap, rest, h1, h2, h3⟩, hm => ⟨ao, cap, rest, h1.mono hm, h2, h3.mono hm⟩
theorem BVals.snoc {x : Blk} {ao : Option Addr} {cap : Nat} (hx : IntsM mem (.slice ao x.lab.after.length cap) x.lab.after) : ∀ {l : List Blk} {vs : List Value}, BVals mem l vs → BVals mem (l ++ [x]) (vs ++ blkVals x (.slice ao x.lab.after.length cap))
  | [], _, h => by
    have h : _ = [] := h
    subst h
    exact ⟨ao, cap, [], hx, rfl, rfl⟩
  | y :: l, _, ⟨ao2, cap2, rest, h1, h2, h3⟩ => by
    subst h2
    exact ⟨ao2, cap2, _, h1, by rw [List.append_assoc], BVals.snoc hx h3⟩
theorem BVals.get : ∀ {l : List Blk} {vs : List Value}, BVals mem l vs → ∀ j (h : j < l.length), ∃ ao cap, IntsM mem (.slice ao l[j].lab.after.length cap) l[j].lab.after ∧ ∀ t, t < 9 → vs[j * 9 + t]? = (blkVals l[j] (.slice ao l[j].lab.after.length cap))[t]?
  | [], _, _, j, h => absurd h (by simp)
  | x :: l, _, ⟨ao, cap, rest, h1, h2, h3⟩, j, h => by
    subst h2
    cases j with
    | zero =>
      refine ⟨ao, cap, h1, fun t ht => ?_⟩
      rw [List.getElem?_append_left (by simp; omega)]
      simp
    | succ j =>
      obtain ⟨ao2, cap2, g1, g2⟩ := h3.get j (by simpa using h)
      refine ⟨ao2, cap2, g1, fun t ht => ?_⟩
      rw [List.getElem?_append_right (by simp; omega)]
      have e : (j + 1) * 9 + t - (blkVals x (.slice ao x.lab.after.length cap)).length = j * 9 + t := by simp; omega
      rw [e]
      exact g2 t ht
end
open Classical in
/-- a world's cells that may be written, but for some blocks -/
noncomputable def memFr (W : World) (F : Nat → Prop) (a : Addr) : Option Value := if F a.block ∨ W.frozen? a = true then none else W.cell? a
theorem memFr_sees (W : World) (F : Nat → Prop) : Sees (memFr W F) W := fun a u h => by
  unfold memFr at h
  split at h
  · cases h
  · exact h
theorem memFr_lt {W : World} {F : Nat → Prop} (a : Addr) (u : Value) (h : memFr W F a = some u) : a.block < W.heap.size ∧ ¬ F a.block ∧ W.frozen? a = false := by
  unfold memFr at h
  split at h
  · cases h
  · next hne => exact ⟨World.block_lt_of_cell? W a h, fun g => hne (.inl g), by simpa using fun g => hne (.inr g)⟩
theorem memFr_of {W : World} {F : Nat → Prop} {a : Addr} {u : Value} (h : W.cell? a = some u) (hf : W.frozen? a = false) (hne : ¬ F a.block) : memFr W F a = some u := by
  unfold memFr; rw [if_neg (by rw [hf]; simpa using hne)]; exact h
theorem memFr_mono {W W' : World} {F G H : Nat → Prop} (hu : Upd H W W') (h : ∀ k, k < W.heap.size → ¬ F k → ¬ G k ∧ ¬ H k) : ∀ a u, memFr W F a = some u → memFr W' G a = some u := fun a u e => by
  obtain ⟨h1, h2, h5⟩ := memFr_lt a u e
  obtain ⟨h3, h4⟩ := h _ h1 h2
  exact memFr_of (hu.cell_some (memFr_sees W F a u e) h4) ((hu.frozen h1 h4).trans h5) h3
theorem IRow.intsFr {w : World} {B : Nat} {v : Value} {l : List Int} (h : IRow w B v l) {F : Nat → Prop} (hF : ∀ k, v.ownBlock = some k → ¬ F k) : IntsM (memFr w F) v l := by
  obtain ⟨b, o, h1, h2⟩ := h.ints
  refine ⟨b, o, h1, fun j hj => ?_⟩
  obtain ⟨g, cap, e, _, _, _, hc⟩ := h.cells j hj
  rcases h.2 with ⟨e3, hz⟩ | ⟨g', cap', cur, e2, _, hh, _⟩
  · omega
  obtain ⟨_, ao, cap2, e4, _, _, e5⟩ := h1
  have e6 := e5 (by omega)
  subst e6
  rw [e2] at e4
  injection e4 with e4
  injection e4 with e4
  injection e4 with e4 e7
  subst e4
  exact memFr_of (h2 j hj) (blk_free hh _) (hF _ (by rw [e2]; rfl))
/-- the blocks l lie in a row of the call's own, their stories elsewhere in memory of the call's own -/
def BRow (w : World) (B : Nat) (v : Value) (l : List Blk) : Prop := ∃ vs, w.ownsRow B 39 9 v l.length vs ∧ BVals (memFr w (fun k => k < B ∨ v.ownBlock = some k)) l vs
theorem BRow.nil (w : World) (B : Nat) : BRow w B (.slice none 0 0) [] := ⟨[], World.ownsRow_nil _ _ _ _, rfl⟩
theorem BRow.sl {w : World} {B : Nat} {v : Value} {l : List Blk} (h : BRow w B v l) : ∃ ao n cap, v = .slice ao n cap := by
  obtain ⟨_, h, _⟩ := h
  rcases h.2 with ⟨rfl, _⟩ | ⟨g, cap, cur, rfl, _⟩
  · exact ⟨_, _, _, rfl⟩
  · exact ⟨_, _, _, rfl⟩
theorem BRow.ge {w : World} {B : Nat} {v : Value} {l : List Blk} (h : BRow w B v l) : ∀ k, v.ownBlock = some k → B ≤ k ∧ k < w.heap.size := by
  obtain ⟨_, h, _⟩ := h
  exact World.ownsRow.lt h
theorem BRow.kept {w w' : World} {B : Nat} {v : Value} {l : List Blk} {F : Nat → Prop} (h : BRow w B v l) (hu : Upd F w w') (hn : ∀ k, F k → k < B ∨ w.heap.size ≤ k) : BRow w' B v l := by
  obtain ⟨vs, h1, h2⟩ := h
  refine ⟨vs, ⟨h1.1, ?_⟩, h2.mono (memFr_mono hu (fun k hk hf => ⟨hf, fun g => by have := hn k g; exact hf (.inl (by omega))⟩))⟩
  have hlt := World.ownsRow.lt h1
  rcases h1.2 with hq | ⟨g, cap, cur, rfl, hb, hgg, rest⟩
  · exact .inl hq
  · refine .inr ⟨g, cap, cur, rfl, hb, (hu.block g (Array.getElem?_eq_some_iff.1 hgg).1 (fun g' => ?_)).trans hgg, rest⟩
    have h3 := hn g g'
    have h4 := (hlt g rfl).2
    omega
/-- a row of blocks, as memory that is only read -/
theorem BRow.blks {w : World} {B : Nat} {v : Value} {l : List Blk} (h : BRow w B v l) (hp : ∀ x ∈ l, x.text.size ≤ maxLen ∧ okI x.kind ∧ okI x.id) : BlksM (memFr w (fun k => k < B)) v l := by
  obtain ⟨vs, h1, h2⟩ := h
  have hg := h2.get
  rcases h1.2 with ⟨rfl, hz⟩ | ⟨g, cap, cur, rfl, hb, hgg, hn, hc, hs, ht⟩
  · have : l = [] := List.eq_nil_of_length_eq_zero hz
    subst this
    exact BlksM.nil _
  · refine ⟨g, 0, ⟨Nat.le_trans hn hc, some ⟨g, 0, none⟩, cap, rfl, hn, hc, fun _ => rfl⟩, fun j hj => ?_⟩
    obtain ⟨ao, cp, hi, hv⟩ := hg j hj
    have hcell : ∀ t, t < 9 → memFr w (fun k => k < B) ⟨g, 0 + j * 9 + t, none⟩ = (blkVals l[j] (.slice ao l[j].lab.after.length cp))[t]? := fun t ht9 => by
      rw [show memFr w (fun k => k < B) ⟨g, 0 + j * 9 + t, none⟩ = w.cell? ⟨g, 0 + j * 9 + t, none⟩ by unfold memFr; rw [if_neg (by rw [blk_free hgg]; show ¬ (g < B ∨ false = true); simp; omega)], blk_cell hgg]
      have h5 : (cur.toList.take (l.length * 9))[j * 9 + t]? = vs[j * 9 + t]? := by rw [ht]
      rw [List.getElem?_take_of_lt (by omega)] at h5
      rw [show 0 + j * 9 + t = j * 9 + t by omega, ← Array.getElem?_toList, h5]
      exact hv t ht9
    have hi2 : IntsM (memFr w (fun k => k < B)) (.slice ao l[j].lab.after.length cp) l[j].lab.after := hi.mono (memFr_mono (Upd.refl (fun _ => False) w) (fun k _ hf => ⟨fun g => hf (.inl g), fun g => g⟩))
    exact ⟨⟨hcell 0 (by omega), hcell 1 (by omega), hcell 2 (by omega), hcell 3 (by omega), hcell 4 (by omega)⟩, ⟨hcell 5 (by omega), hcell 7 (by omega), hcell 8 (by omega)⟩, hp _ (List.getElem_mem hj), _, hcell 6 (by omega), hi2⟩

theorem blk_info : (Tryz.prog.info? 39).map (fun i => (i.zero, i.size, i.bytes)) = some (some (.agg #[.int .i64 0, .int .i64 0, .string .empty, .int .i64 0, .int .i64 0, .int .i64 0, .slice none 0 0, .int .i64 0, .int .i64 0]), 9, 96) := by kernel_rfl
section
variable {ops : Array Oper} {rest : List Oper} {o : Oper} {a : Act} {w : World} {Q : Exit → Act → World → Prop} {mem : Addr → Option Value}
theorem reads_ints {ao : Option Addr} {cap : Nat} {l : List Int} (h : IntsM mem (.slice ao l.length cap) l) (hs : Sees mem w) : Reads w w.heap.size 1 ao l.length (l.map encI) := by
  obtain ⟨ao', cap', b, o, e, _, _, h1, h2⟩ := h.open_ hs
  injection e with e1 e2 e3
  subst e1
  refine ⟨by simp, fun hn => ?_⟩
  refine ⟨_, h1 hn, ?_, fun j u hu => ?_⟩
  · have := World.block_lt_of_cell? w _ (h2 0 hn); simpa using this
  · rw [List.getElem?_map] at hu
    obtain ⟨y, hy, rfl⟩ := Option.map_eq_some_iff.1 hu
    obtain ⟨hj, rfl⟩ := List.getElem?_eq_some_iff.1 hy
    have := h2 j hj
    unfold Addr.add
    by_cases h0 : j = 0
    · subst h0; simp [encI]
    · simp [h0, encI, this]
/-- append([]int(nil), l...) -/
theorem wpList_app_after (hgd : o.guard = none) (s x : Operand) (ho : o.op = .call { callee := .builtin .append, args := #[s, x], argTypes := #[25, 25] })
    (hs : a.eval s = .slice none 0 0) (ao : Option Addr) (cap : Nat) (l : List Int) (hx : a.eval x = .slice ao l.length cap) (hi : IntsM mem (.slice ao l.length cap) l) (hsee : Sees mem w) (hlen : l.length ≤ 100000)
    (h : ∀ v' w', IRow w' w.heap.size v' l → w.grownBy w' none → wpList Tryz.prog ops Q rest (a.put o.dst v') w') : wpList Tryz.prog ops Q (o :: rest) a w := by
  obtain ⟨i0, hi0, hz0, hz1, hz2⟩ := info_parts int_info
  refine wpList_append_any w hgd s x 25 ho w.heap.size 3 i0 (.int .i64 0) 1 8 Tryz.underlying25 hi0 hz0 hz1 hz2 rfl (by decide) _ 0 [] hs (World.ownsRow_nil _ _ _ _) w.heap.size ao l.length cap (l.map encI) hx (reads_ints hi hsee) (one_cell l) (by unfold maxLen; omega) (by omega) (Nat.le_refl _) ?_
  intro v' w' h1 h2 _
  refine h v' w' ?_ h2
  unfold IRow
  simpa using h1
theorem run_app_blk {B : Nat} {v : Value} {l : List Blk} (h : BRow w B v l) (x : Blk) (ao : Option Addr) (cap : Nat) (hi : IntsM (memFr w (fun k => k < B ∨ v.ownBlock = some k)) (.slice ao x.lab.after.length cap) x.lab.after)
    (g c : Nat) (hc : w.heap[g]? = some (.cells (blkCells x (.slice ao x.lab.after.length cap)) 39 (0, 0))) (hlen : l.length ≤ 100000) (hB : B ≤ w.heap.size) (ty : Nat) :
    ∃ v' w', (Builtin.append_ #[22, 22] ty #[v, .slice (some ⟨g, 0, none⟩) 1 c]).run Tryz.prog w = .ok v' w' ∧ BRow w' B v' (l ++ [x]) ∧ w.grownBy w' v.ownBlock := by
  obtain ⟨i0, hi0, hz0, hz1, hz2⟩ := info_parts blk_info
  obtain ⟨vs, h1, h2⟩ := h
  obtain ⟨v', w', hr, g2, g3, _, g5⟩ := run_append_own_at (P := Tryz.prog) w B 22 ty 39 i0 _ 9 96 Tryz.underlying22 hi0 hz0 hz1 hz2 rfl (by decide) v l.length vs h1 ⟨g, 0, none⟩ 1 c (blkVals x (.slice ao x.lab.after.length cap)) rfl
    (fun j u hj => by
      have e : (⟨g, 0, none⟩ : Addr).add j = ⟨g, j, none⟩ := by unfold Addr.add; by_cases h0 : j = 0 <;> simp [h0]
      rw [e, blk_cell hc]
      rw [← hj]; simp)
    (by simp [Value.oneCell']) (by unfold maxLen; omega) (by omega) hB
  have hm : ∀ a u, memFr w (fun k => k < B ∨ v.ownBlock = some k) a = some u → memFr w' (fun k => k < B ∨ v'.ownBlock = some k) a = some u :=
    memFr_mono ((Upd.refl (fun k => v.ownBlock = some k) w).grown g3 (fun k e => .inl e)) (fun k hk hf => ⟨fun g => by
      rcases g with g | g
      · exact hf (.inl g)
      · rcases g5 with g5 | g5
        · exact hf (.inr (g5 ▸ g))
        · rw [g5] at g; injection g with g; omega, fun g => hf (.inr g)⟩)
  exact ⟨v', w', hr, ⟨_, by rw [List.length_append]; exact g2, BVals.snoc (hi.mono hm) (h2.mono hm)⟩, g3⟩
theorem wpList_app_blk (hgd : o.guard = none) (s x : Operand) (ho : o.op = .call { callee := .builtin .append, args := #[s, x], argTypes := #[22, 22] })
    (B : Nat) (v : Value) (l : List Blk) (hs : a.eval s = v) (hown : BRow w B v l) (y : Blk) (ao : Option Addr) (cap : Nat) (hi : IntsM (memFr w (fun k => k < B ∨ v.ownBlock = some k)) (.slice ao y.lab.after.length cap) y.lab.after)
    (g c : Nat) (hx : a.eval x = .slice (some ⟨g, 0, none⟩) 1 c) (hc : w.heap[g]? = some (.cells (blkCells y (.slice ao y.lab.after.length cap)) 39 (0, 0))) (hlen : l.length ≤ 100000) (hB : B ≤ w.heap.size)
    (h : ∀ v' w', BRow w' B v' (l ++ [y]) → w.grownBy w' v.ownBlock → wpList Tryz.prog ops Q rest (a.put o.dst v') w') : wpList Tryz.prog ops Q (o :: rest) a w := by
  refine wpList_plain hgd fun K hK => ?_
  obtain ⟨v', w', hr, h2, h3⟩ := run_app_blk hown y ao cap hi g c hc hlen hB o.type
  unfold Oper.wp execOp
  simp only [ho, resolve, invoke, builtin, Sem.run_bind, Sem.run_pure, Result.andThen_ok, List.map_toArray, List.map_cons, List.map_nil, hs, hx, hr]
  exact hK _ _ (h v' w' h2 h3)
end
end Go.Proofs.YtikpbknafhnieaaGreatDoor

/-
  WHAT IS PROVED HERE: the walk of merge.order. Conditions: at most 1000 blocks a list.
-/
import Derived.Test.YtikpbknafhnieaaGreatDoorMov
import Derived.Test.YtikpbknafhnieaaGreatDoorByID
import Derived.Test.YtikpbknafhnieaaGreatDoorIns
namespace Go.Proofs.YtikpbknafhnieaaGreatDoor
open Go.RowKit Mg Go.Shelf
attribute [local go_sem] Oper.semAt_some

/-! append of an int to a row of the call's own -/
section
variable {ops : Array Oper} {rest : List Oper} {o : Oper} {a : Act} {w : World} {Q : Exit → Act → World → Prop}
theorem run_app_int {B : Nat} {v : Value} {l : List Int} (h : IRow w B v l) (x : Int) (g cap : Nat) (hc : w.cell? ⟨g, 0, none⟩ = some (.int .i64 x)) (hlen : l.length ≤ 100000) (hB : B ≤ w.heap.size) (ty : Nat) :
    ∃ v' w', (Builtin.append_ #[25, 25] ty #[v, .slice (some ⟨g, 0, none⟩) 1 cap]).run Tryz.prog w = .ok v' w' ∧ IRow w' B v' (l ++ [x]) ∧ w.grownBy w' v.ownBlock ∧ (v'.ownBlock = v.ownBlock ∨ v'.ownBlock = some w.heap.size) := by
  obtain ⟨i0, hi, hz0, hz1, hz2⟩ := info_parts int_info
  obtain ⟨v', w', hr, h2, h3, _, h5⟩ := run_append_own_at (P := Tryz.prog) w B 25 ty 3 i0 (.int .i64 0) 1 8 Tryz.underlying25 hi hz0 hz1 hz2 rfl (by decide) v l.length (l.map encI) h ⟨g, 0, none⟩ 1 cap [.int .i64 x] rfl
    (fun j u hj => by
      match j, hj with
      | 0, hj => simp at hj; subst hj; simpa [Addr.add] using hc)
    (by simp [Value.oneCell']) (by unfold maxLen; omega) (by omega) hB
  exact ⟨v', w', hr, by unfold IRow; simpa [encI] using h2, h3, h5⟩
theorem wpList_app_int (hgd : o.guard = none) (s x : Operand) (ho : o.op = .call { callee := .builtin .append, args := #[s, x], argTypes := #[25, 25] })
    (B : Nat) (v : Value) (l : List Int) (hs : a.eval s = v) (hown : IRow w B v l) (i : Int) (g cap : Nat) (hx : a.eval x = .slice (some ⟨g, 0, none⟩) 1 cap) (hc : w.cell? ⟨g, 0, none⟩ = some (.int .i64 i)) (hlen : l.length ≤ 100000) (hB : B ≤ w.heap.size)
    (h : ∀ v' w', IRow w' B v' (l ++ [i]) → w.grownBy w' v.ownBlock → (v'.ownBlock = v.ownBlock ∨ v'.ownBlock = some w.heap.size) → wpList Tryz.prog ops Q rest (a.put o.dst v') w') : wpList Tryz.prog ops Q (o :: rest) a w := by
  refine wpList_plain hgd fun K hK => ?_
  obtain ⟨v', w', hr, h2, h3, h4⟩ := run_app_int hown i g cap hc hlen hB o.type
  unfold Oper.wp execOp
  simp only [ho, resolve, invoke, builtin, Sem.run_bind, Sem.run_pure, Result.andThen_ok, List.map_toArray, List.map_cons, List.map_nil, hs, hx, hr]
  exact hK _ _ (h v' w' h2 h3 h4)
theorem wpListIn_app_int {F : Fence} {nF : Nat} (hgd : o.guard = none) (s x : Operand) (ho : o.op = .call { callee := .builtin .append, args := #[s, x], argTypes := #[25, 25] })
    (B : Nat) (v : Value) (l : List Int) (hs : a.eval s = v) (hown : IRow w B v l) (i : Int) (g cap : Nat) (hx : a.eval x = .slice (some ⟨g, 0, none⟩) 1 cap) (hc : w.cell? ⟨g, 0, none⟩ = some (.int .i64 i)) (hlen : l.length ≤ 100000) (hB : B ≤ w.heap.size)
    (h : ∀ v' w', IRow w' B v' (l ++ [i]) → w.grownBy w' v.ownBlock → (v'.ownBlock = v.ownBlock ∨ v'.ownBlock = some w.heap.size) → wpListIn F nF Tryz.prog ops Q rest (a.put o.dst v') w') : wpListIn F nF Tryz.prog ops Q (o :: rest) a w := by
  refine wpListIn_plain hgd fun K hK => ?_
  obtain ⟨v', w', hr, h2, h3, h4⟩ := run_app_int hown i g cap hc hlen hB o.type
  unfold Oper.wpIn
  refine ⟨by simp [Oper.about, ho, resolve, Target.leads, Sem.run_pure], ?_⟩
  rw [Oper.semAt_plain F _ _ (by rw [ho]; intro c hc'; cases hc')]
  simp [execOp, ho, resolve, invoke, builtin, hs, hx, hr, Result.andThen]
  exact hK _ _ (h v' w' h2 h3 h4)
end

theorem lists_but {mem : Addr → Option Value} {v : Value} {l : List Blk} (h : BlksM mem v l) {W w : World} (hs : Sees mem w) (hsW : Sees mem W) {B : Nat} (hB : w.heap.size ≤ B) {g : Nat} (hg : W.cell? ⟨g, 0, none⟩ = some v) (hne : g ≠ B) : ListsM (memBut W B) (.slice (some ⟨g, 0, none⟩) 1 1) [l] :=
  ⟨_, 1, rfl, by simp, by simp, by unfold maxLen; omega, fun j hj => by
    match j, hj with
    | 0, _ => exact ⟨_, memBut_of hg hne, h.mono (fun a u e => memBut_of (hsW a u e) (by have := cell_lt (hs a u e); omega))⟩⟩

theorem IRow.alloc {w : World} {B : Nat} {v : Value} {l : List Int} (h : IRow w B v l) (o : Obj) : IRow (w.alloc o) B v l := World.ownsRow.alloc h o
theorem keepB_of {N : Nat} {F G : Nat → Prop} {X Y : World} (h : Upd G X Y) (hN : N ≤ X.heap.size) (hG : ∀ k, k < N → ¬ F k → ¬ G k) : KeepB N F X Y := fun k hk hf => h.block k (by omega) (hG k hk hf)
theorem boxed_upd {G : Nat → Prop} {X Y : World} {B : Nat} {t : TypeId} {v : Value} (h : Boxed X B t v) (hu : Upd G X Y) (hn : ¬ G B) : Boxed Y B t v := (hu.block B h.lt hn).trans h
theorem row_cells {w : World} {B : Nat} {v : Value} {l : List Int} (h : IRow w B v l) (j : Nat) (o : Obj) (e : v.ownBlock = some j) (ho : w.heap[j]? = some o) : o.isCells = true := by
  rcases h.2 with ⟨rfl, _⟩ | ⟨g, cap, cur, rfl, _, hh, _⟩
  · cases e
  · obtain rfl : g = j := by injection e
    rw [hh] at ho; cases ho; rfl
theorem IRow.sl {w : World} {B : Nat} {v : Value} {l : List Int} (h : IRow w B v l) : ∃ ao n cap, v = .slice ao n cap := by
  obtain ⟨ao, cap, e⟩ := h.shape; exact ⟨ao, _, cap, e⟩
def selB (b : Bool) (x : Int) : List Int := cond b [x] []
/-- what an append, stored into the box B7, has done -/
structure AppB (W W' : World) (N1 B7 : Nat) (v' : Value) (L : List Int) : Prop where
  upd : Upd (fun k => k = B7 ∨ N1 ≤ k) W W'
  box : Boxed W' B7 25 v'
  row : IRow W' N1 v' L
  keeps : KeepsOthers W W'
theorem appB {W w1 : World} {N1 B7 : Nat} {r v' : Value} {l L : List Int} (hB7 : B7 < N1) (hb7 : Boxed W B7 25 r) (hr : IRow W N1 r l) {o : Obj} (hr' : IRow w1 N1 v' L) (hg : (W.alloc o).grownBy w1 r.ownBlock) :
    AppB W (w1.setCell ⟨B7, 0, none⟩ v') N1 B7 v' L := by
  have hu : Upd (fun k => k = B7 ∨ N1 ≤ k) W w1 := ((Upd.refl _ W).alloc o).grown hg (fun k e => .inl (.inr (hr.ge k e)))
  have hb1 : Boxed w1 B7 25 r := (hb7.alloc o).kept hg (fun e => by have := hr.ge B7 e.symm; omega)
  refine ⟨hu.setCell (.inl (.inl rfl)) _, hb1.set _, ?_, ?_⟩
  · exact IRow.kept (F := fun k => k = B7) hr' ((Upd.refl (fun k => k = B7) w1).setCell (p := ⟨B7, 0, none⟩) (.inl rfl) v') (fun k hk e => by have := hr'.ge k hk; omega)
  · exact ((KeepsOthers.alloc W o).trans (KeepsOthers.of_grownBy hg (fun j ob e ho => row_cells (IRow.alloc hr o) j ob e ho))).trans (KeepsOthers.setCell _ _ _)
/-- what the order has come to -/
def ordSt (has : Int → Bool) (lead pre : List Int) : List Int × Nat := pre.foldl (Mg.step has lead) (lead.filter has, 0)
theorem ordSt_snoc (has : Int → Bool) (lead pre : List Int) (x : Int) : ordSt has lead (pre ++ [x]) = Mg.step has lead (ordSt has lead pre) x := by
  unfold ordSt; rw [List.foldl_append]; rfl
theorem step_ok {has : Int → Bool} {lead : List Int} {st : List Int × Nat} (h1 : ∀ y, has y = true → y ∈ lead → y ∈ st.1) (h2 : st.2 ≤ st.1.length) (x : Int) :
    (∀ y, has y = true → y ∈ lead → y ∈ (Mg.step has lead st x).1) ∧ (Mg.step has lead st x).2 ≤ (Mg.step has lead st x).1.length ∧ (Mg.step has lead st x).1.length ≤ st.1.length + 1 := by
  unfold Mg.step
  by_cases hx : has x = true
  · rw [if_pos hx]
    by_cases hl : x ∈ lead
    · rw [if_pos hl]
      have := List.idxOf_lt_length_iff.2 (h1 x hx hl)
      exact ⟨h1, by show st.1.idxOf x + 1 ≤ st.1.length; omega, Nat.le_succ _⟩
    · rw [if_neg hl]
      refine ⟨fun y a b => insAt_mem.2 (.inr (h1 y a b)), ?_, ?_⟩
      · rw [insAt_length]; show st.2 + 1 ≤ st.1.length + 1; omega
      · rw [insAt_length]; exact Nat.le_refl _
  · rw [if_neg hx]
    exact ⟨h1, h2, Nat.le_succ _⟩
theorem ordSt_ok (has : Int → Bool) (lead : List Int) : ∀ (r pre : List Int), ((∀ y, has y = true → y ∈ lead → y ∈ (ordSt has lead pre).1) ∧ (ordSt has lead pre).2 ≤ (ordSt has lead pre).1.length ∧ (ordSt has lead pre).1.length ≤ lead.length + pre.length) →
    (∀ y, has y = true → y ∈ lead → y ∈ (ordSt has lead (pre ++ r)).1) ∧ (ordSt has lead (pre ++ r)).2 ≤ (ordSt has lead (pre ++ r)).1.length ∧ (ordSt has lead (pre ++ r)).1.length ≤ lead.length + (pre ++ r).length
  | [], pre, h => by rwa [List.append_nil]
  | x :: r, pre, h => by
    have h2 := step_ok h.1 h.2.1 x
    rw [← ordSt_snoc] at h2
    have := ordSt_ok has lead r (pre ++ [x]) ⟨h2.1, h2.2.1, by have := h2.2.2; have := h.2.2; simp; omega⟩
    rwa [List.append_assoc] at this
theorem ordSt_all (has : Int → Bool) (lead pre : List Int) : (∀ y, has y = true → y ∈ lead → y ∈ (ordSt has lead pre).1) ∧ (ordSt has lead pre).2 ≤ (ordSt has lead pre).1.length ∧ (ordSt has lead pre).1.length ≤ lead.length + pre.length :=
  ordSt_ok has lead pre [] ⟨fun y a b => List.mem_filter.2 ⟨b, a⟩, Nat.zero_le _, by show (lead.filter has).length ≤ _; have := List.length_filter_le has lead; simp; omega⟩
open Classical in
/-- a world's cells, but for some blocks -/
noncomputable def memOff (W : World) (F : Nat → Prop) (a : Addr) : Option Value := if F a.block then none else W.cell? a
theorem memOff_sees (W : World) (F : Nat → Prop) : Sees (memOff W F) W := fun a u h => by
  unfold memOff at h
  split at h
  · cases h
  · exact h
theorem memOff_lt {W : World} {F : Nat → Prop} (a : Addr) (u : Value) (h : memOff W F a = some u) : a.block < W.heap.size ∧ ¬ F a.block := by
  unfold memOff at h
  split at h
  · cases h
  · next hne => exact ⟨World.block_lt_of_cell? W a h, hne⟩
theorem memOff_of {W : World} {F : Nat → Prop} {a : Addr} {u : Value} (h : W.cell? a = some u) (hne : ¬ F a.block) : memOff W F a = some u := by
  unfold memOff; rw [if_neg hne]; exact h
theorem lists_off {mem : Addr → Option Value} {v : Value} {l : List Blk} (h : BlksM mem v l) {W w : World} (hs : Sees mem w) (hsW : Sees mem W) {F : Nat → Prop} (hF : ∀ k, k < w.heap.size → ¬ F k) {g : Nat} (hg : W.cell? ⟨g, 0, none⟩ = some v) (hne : ¬ F g) : ListsM (memOff W F) (.slice (some ⟨g, 0, none⟩) 1 1) [l] :=
  ⟨_, 1, rfl, by simp, by simp, by unfold maxLen; omega, fun j hj => by
    match j, hj with
    | 0, _ => exact ⟨_, memOff_of hg hne, h.mono (fun a u e => memOff_of (hsW a u e) (hF _ (cell_lt (hs a u e))))⟩⟩
/-- what a step of the second loop has done: the row r may have become v', an int in box B10 -/
theorem ordUpd {W w1 : World} {B7 B10 : Nat} {r v' : Value} {o : Obj} (hg : (W.alloc o).grownBy w1 r.ownBlock) (u : Value) :
    Upd (fun k => k = B7 ∨ k = B10 ∨ r.ownBlock = some k) W ((w1.setCell ⟨B7, 0, none⟩ v').setCell ⟨B10, 0, none⟩ u) :=
  ((((Upd.refl _ W).alloc o).grown hg (fun _ e => .inl (.inr (.inr e)))).setCell (.inl (.inl rfl)) _).setCell (.inl (.inr (.inl rfl))) _
def OrdPost (r : List Int) (w : World) (e : Ending) (w' : World) : Prop := ∃ v, e = .returned v ∧ IRow w' w.heap.size v r ∧ Below w.heap.size w w'

set_option maxRecDepth 100000 in
set_option maxHeartbeats 4000000 in
theorem order_wide (m : Nat) {mem : Addr → Option Value} {v u : Value} {lead foll : List Blk} (h1 : BlksM mem v lead) (h2 : BlksM mem u foll) (hl1 : lead.length ≤ 1000) (hl2 : foll.length ≤ 1000) (M n : Nat) (f : Int → Option Blk) (w : World) (hs : Sees mem w) (hM : EMap mem w M n f) :
    CallsIn Fence.wide m Tryz.prog 35 #[v, u, .map (some M)] w (OrdPost (orderF (fun i => (f i).isSome) (ids lead) (ids foll)) w) := by
  refine callsIn_wide.2 ((callsIn_wide (n := 6)).1 ?_)
  obtain ⟨ao, cap, rfl⟩ := h1.slice
  obtain ⟨ao2, cap2, rfl⟩ := h2.slice
  obtain ⟨xs, hx⟩ := okIds h1
  obtain ⟨ys, hy⟩ := okIds h2
  refine callsIn_of_wp_marks Tryz.func35 rfl trivial ?_ rfl
  simp only [Tryz.ntmps35, List.size_toArray, List.length_cons, List.length_nil, Nat.reduceAdd, Nat.reduceSub, Array.replicate_succ, Array.replicate_zero, List.push_toArray, List.append_toArray, List.nil_append, List.cons_append]
  gi_wp2_with fail
  refine ⟨trivial, ?_⟩
  refine (callsIn_wide.2 (each_any _ ⟨_, _, _, rfl⟩ _)).mono ?_
  rintro e w' ⟨rfl, rfl⟩
  gi_wp2_with fail
  obtain ⟨W1, HW1⟩ := named ((((w.alloc (.cells #[.map (some M)] 41)).alloc (.cells #[.slice none 0 0] 25)).alloc (.cells #[.slice ao lead.length cap] 22)).alloc (.cells #[.slice (some ⟨w.heap.size + 1 + 1, 0, none⟩) 1 1] 68))
  rw [← HW1.out]
  have hz1 : W1.heap.size = w.heap.size + 4 := by rw [HW1.out]; simp
  have hB1 : Below w.heap.size w W1 := by rw [HW1.out]; exact ((((Below.refl _ w).alloc (Nat.le_refl _) _).alloc (by simp) _).alloc (by simp; omega) _).alloc (by simp; omega) _
  have r5 : Boxed W1 w.heap.size 41 (.map (some M)) := by rw [HW1.out]; exact (((Boxed.new w _ _).alloc _).alloc _).alloc _
  have r7 : Boxed W1 (w.heap.size + 1) 25 (.slice none 0 0) := by
    have h := ((Boxed.new (w.alloc (.cells #[.map (some M)] 41)) 25 (.slice none 0 0)).alloc (.cells #[.slice ao lead.length cap] 22)).alloc (.cells #[.slice (some ⟨w.heap.size + 1 + 1, 0, none⟩) 1 1] 68)
    rw [World.size_alloc] at h
    rw [HW1.out]; exact h
  have r8 : W1.cell? ⟨w.heap.size + 2, 0, none⟩ = some (.slice ao lead.length cap) := by rw [HW1.out]; exact cell_old (cell_new (by simp) rfl)
  have r9 : W1.cell? ⟨w.heap.size + 3, 0, none⟩ = some (.slice (some ⟨w.heap.size + 2, 0, none⟩) 1 1) := by rw [HW1.out]; exact cell_new (by simp) rfl
  have hls1 := lists_but h1 hs (hs.bel hB1) (B := w.heap.size + 1) (by omega) r8 (by omega)
  have hM1 := hM.bel hB1
  have hMl := hM.lt
  have hsW1 := hs.bel hB1
  obtain ⟨N1, HN1⟩ := named W1.heap.size
  rw [← HN1.out] at hz1
  refine wpIn_rangeFunc_ownG rfl (by omega) (gf := 51) (lb := #[.pointer (some ⟨w.heap.size + 3, 0, none⟩)]) rfl trivial (enters_of Tryz.func51 (by kernel_rfl) rfl)
    (each_stops _ (w.heap.size + 3) (KeepB W1.heap.size (fun k => k = w.heap.size + 1)) (memBut W1 (w.heap.size + 1)) W1 (memBut_sees _ _) (sees_keepB memBut_lt) _ [lead] hls1 (memBut_of r9 (by simp)) xs (by rw [idsOf_one]; exact hx)) keepB_t (keepB_b (Nat.le_refl _)) (Below.refl _ _) (fun _ => rfl)
    (fun pre W => (Boxed W w.heap.size 41 (.map (some M)) ∧ (∃ r, Boxed W (w.heap.size + 1) 25 r ∧ W.ownsRow N1 3 1 r ((vals pre).filter (fun i => (f i).isSome)).length (((vals pre).filter (fun i => (f i).isSome)).map encI) ∧ True)) ∧ ((EMap mem W M n f ∧ Below w.heap.size w W) ∧ N1 ≤ W.heap.size))
    (fun _ _ _ => False)
    (OwnFrom.and (OwnFrom.and (Own.from (boxed_own _ _ (fun _ => .map (some M))) _) (Own.from (holdsRow_own N1 (w.heap.size + 1) 25 3 1 (fun pre : List OkInt => ((vals pre).filter (fun i => (f i).isSome)).length) (fun pre => ((vals pre).filter (fun i => (f i).isSome)).map encI) (fun _ _ => True)) _))
      (OwnFrom.and (OwnFrom.and (fun s A B row hs hg hr => hs.grown hg (fun e => by have := (hr _ e.symm).1; rw [← HN1.out] at this; omega)) (ownFrom_below (Nat.le_refl _) (by rw [← HN1.out]; omega))) (fun s A B row hs hg hr => Nat.le_trans hs hg.size)))
    (fun _ _ _ _ _ hs _ _ => hs)
    ⟨⟨r5, _, r7, World.ownsRow_nil _ _ _ _, trivial⟩, ⟨hM1, hB1⟩, by rw [HN1.out]; exact Nat.le_refl _⟩
    (fun x => { tmps := #[.slice ao lead.length cap, .slice ao2 foll.length cap2, .map (some M), undef, undef, .pointer (some ⟨w.heap.size, 0, none⟩), .slice none 0 0, .pointer (some ⟨w.heap.size + 1, 0, none⟩), .int .i64 x.1, undef, undef, undef, undef, undef,
        .slice ao lead.length cap, .slice (some ⟨w.heap.size + 1 + 1, 0, none⟩) 1 1, .func (.func 51) #[] #[.pointer (some ⟨w.heap.size + 1 + 1 + 1, 0, none⟩)], .int .i64 x.1, undef, undef, undef, undef, undef, undef, undef, undef, undef, undef, undef, undef, undef, undef, undef, undef, undef, undef, undef, undef, undef, undef, undef, undef, undef, undef, undef, undef, undef, undef, undef, undef, undef, undef, undef, undef, undef, undef, undef, undef], defers := [] }) ?assign ?body ?done ?stop
  case assign =>
    intro l x W K hK
    gi_wp2
    exact hK
  case stop =>
    rintro D c pre W _ _ h _
    exact h.elim
  case body =>
    rintro l0 pre x W ⟨⟨hb5, r, hb7, hr, _⟩, ⟨hMW, hB⟩, hNW⟩ hlt
    obtain ⟨ev, hlk, hev⟩ := hMW.look x.2
    obtain ⟨e0, e1, et, e3, e4, e5, ea, en, ec, e7, e8, rfl⟩ := hev.form
    have c5 := hb5.cell
    have c7 := hb7.cell
    obtain ⟨L, HL⟩ := named ((vals pre).filter (fun i => (f i).isSome))
    have hV : Hid ((vals (pre ++ [x])).filter (fun i => (f i).isSome) = L ++ selB (f x.1).isSome x.1) := Lib.hid (by rw [HL.out]; unfold vals selB; rw [List.map_append, List.filter_append]; cases h : (f x.1).isSome <;> simp [h])
    rw [← HL.out] at hr
    have hll : L.length ≤ 100000 := by
      rw [HL.out]
      have g1 := List.length_filter_le (fun i => (f i).isSome) (vals pre)
      have g2 : (vals pre).length = pre.length := List.length_map _
      have g3 : xs.length = lead.length := by have := congrArg List.length hx; rwa [List.length_map, List.length_map] at this
      omega
    have hfl := field_some e0 e1 e3 e4 e5 e7 e8 et ea en ec (f x.1).isSome
    have HB := Lib.hid (And.intro hB (And.intro hb5 (And.intro hb7 (And.intro hr (And.intro hMW hNW)))))
    have hzN := HN1.out
    clear hb5 hb7 hMW hB hNW hlt hev h1 h2 hx hy hM1 hM hs hsW1 r5 r7 r8 r9 hls1
    generalize (f x.1).isSome = b at *
    cases b with
    | false =>
      have HV2 : Hid ((vals (pre ++ [x])).filter (fun i => (f i).isSome) = L) := Lib.hid (hV.out.trans (List.append_nil L))
      clear hV HL
      gi_wp2
      obtain ⟨hB, hb5, hb7, hr, hMW, hNW⟩ := HB.out
      have hfin : W.ownsRow N1 3 1 r ((vals (pre ++ [x])).filter (fun i => (f i).isSome)).length (((vals (pre ++ [x])).filter (fun i => (f i).isSome)).map encI) := by rw [HV2.out]; exact hr
      exact ⟨KeepsFrom.refl _ _, fun k hk hf => rfl, ⟨⟨hb5, r, hb7, hfin, trivial⟩, ⟨hMW, hB⟩, hNW⟩⟩
    | true =>
      have HV2 : Hid ((vals (pre ++ [x])).filter (fun i => (f i).isSome) = L ++ [x.1]) := Lib.hid hV.out
      clear hV HL
      gi_wp2_with (gi_at_builtin; refine wpListIn_app_int rfl _ _ rfl N1 _ _ rfl (IRow.alloc hr _) x.1 W.heap.size 1 rfl (cell_new rfl rfl) hll (Nat.le_trans HB.out.2.2.2.2.2 (by simp)) ?_; intro v' w1 hr' hg' _; have hap := Lib.hid (appB (by omega) HB.out.2.2.1 hr hr' hg'); have k7 := ((HB.out.2.2.1.alloc _).kept hg' (fun e => by have := IRow.ge hr _ e.symm; omega)).cell; have j7 := ((HB.out.2.2.1.alloc _).kept hg' (fun e => by have := IRow.ge hr _ e.symm; omega)).frozen; obtain ⟨va, vn, vc, rfl⟩ := hr'.sl; clear hr' hg')
      obtain ⟨hB, hb5, hb7, hr, hMW, hNW⟩ := HB.out
      obtain ⟨u1, u2, u3, u4⟩ := hap.out
      have hfin : (w1.setCell ⟨w.heap.size + 1, 0, none⟩ (.slice va vn vc)).ownsRow N1 3 1 (.slice va vn vc) ((vals (pre ++ [x])).filter (fun i => (f i).isSome)).length (((vals (pre ++ [x])).filter (fun i => (f i).isSome)).map encI) := by rw [HV2.out]; exact u3
      exact ⟨u4.from _, keepB_of u1 (by omega) (fun k hk hf hg => by rcases hg with hg | hg; exact hf hg; omega), ⟨⟨boxed_upd hb5 u1 (by omega), _, u2, hfin, trivial⟩, ⟨hMW.upd u1 (by omega), hB.trans (u1.below (fun k hk => by omega) hB.size)⟩, Nat.le_trans hNW u1.size⟩⟩
  case done =>
    rintro D zs W hD rfl ⟨⟨hb5, r, hb7, hr, _⟩, ⟨hMW, hB⟩, hNW⟩ hK
    have hzN := HN1.out
    rw [← hzN] at hD
    gi_wp2_with fail
    refine ⟨trivial, ?_⟩
    refine (callsIn_wide.2 (each_any _ ⟨_, _, _, rfl⟩ _)).mono ?_
    rintro e w' ⟨rfl, rfl⟩
    obtain ⟨W2, HW2⟩ := named ((W.alloc (.cells #[.slice ao lead.length cap] 22)).alloc (.cells #[.slice (some ⟨W.heap.size, 0, none⟩) 1 1] 68))
    rw [← HW2.out]
    have hBW2 : Below W.heap.size W W2 := by rw [HW2.out]; exact ((Below.refl _ W).alloc (Nat.le_refl _) _).alloc (by simp) _
    have hz2 : W2.heap.size = W.heap.size + 2 := by rw [HW2.out]; simp
    have q1 : W2.cell? ⟨W.heap.size, 0, none⟩ = some (.slice ao lead.length cap) := by rw [HW2.out]; exact cell_old (cell_new rfl rfl)
    have q2 : W2.cell? ⟨W.heap.size + 1, 0, none⟩ = some (.slice (some ⟨W.heap.size, 0, none⟩) 1 1) := by rw [HW2.out]; exact cell_new (by simp) rfl
    have cP := positions_each h1 (by omega) ((hs.bel hB).bel hBW2) q1 q2
    clear q1 q2
    gi_wp2_with fail
    refine ⟨trivial, ?_⟩
    refine (callsIn_wide.2 cP).mono ?_
    rintro e w3 ⟨K, es, rfl, hm, hp, hb3, hKK⟩
    clear cP
    gi_wp2_with fail
    refine ⟨trivial, ?_⟩
    refine (callsIn_wide.2 (each_any _ ⟨_, _, _, rfl⟩ _)).mono ?_
    rintro e w' ⟨rfl, rfl⟩
    gi_wp2_with fail
    obtain ⟨W5, HW5⟩ := named ((((w3.alloc (.cells #[.map (some K)] 52)).alloc (.cells #[.int .i64 0] 3)).alloc (.cells #[.slice ao2 foll.length cap2] 22)).alloc (.cells #[.slice (some ⟨w3.heap.size + 1 + 1, 0, none⟩) 1 1] 68))
    rw [← HW5.out]
    have hz3 := hb3.size
    have hz5 : W5.heap.size = w3.heap.size + 4 := by rw [HW5.out]; simp
    have hB35 : Below w3.heap.size w3 W5 := by rw [HW5.out]; exact ((((Below.refl _ w3).alloc (Nat.le_refl _) _).alloc (by simp) _).alloc (by simp; omega) _).alloc (by simp; omega) _
    have hBW5 : Below W.heap.size W W5 := (hBW2.trans (hb3.mono hBW2.size)).trans (hB35.mono (by omega))
    have hB5 : Below w.heap.size w W5 := hB.trans (hBW5.mono hB.size)
    have b5 : Boxed W5 w.heap.size 41 (.map (some M)) := hb5.kept (grown_none hBW5) (by simp)
    have b7 : Boxed W5 (w.heap.size + 1) 25 r := hb7.kept (grown_none hBW5) (by simp)
    have b9 : Boxed W5 w3.heap.size 52 (.map (some K)) := by rw [HW5.out]; exact (((Boxed.new w3 _ _).alloc _).alloc _).alloc _
    have b10 : Boxed W5 (w3.heap.size + 1) 3 (.int .i64 ((0 : Nat) : Int)) := by
      have h := (((Boxed.new (w3.alloc (.cells #[.map (some K)] 52)) 3 (.int .i64 0)).alloc (.cells #[.slice ao2 foll.length cap2] 22)).alloc (.cells #[.slice (some ⟨w3.heap.size + 1 + 1, 0, none⟩) 1 1] 68))
      rw [World.size_alloc] at h
      rw [HW5.out]; exact h
    have q7 : W5.cell? ⟨w3.heap.size + 2, 0, none⟩ = some (.slice ao2 foll.length cap2) := by rw [HW5.out]; exact cell_old (cell_new (by simp) rfl)
    have q8 : W5.cell? ⟨w3.heap.size + 3, 0, none⟩ = some (.slice (some ⟨w3.heap.size + 2, 0, none⟩) 1 1) := by rw [HW5.out]; exact cell_new (by simp) rfl
    have hrI : IRow W N1 r ((ids lead).filter (fun i => (f i).isSome)) := by have h := hr; rw [hx] at h; exact h
    have hrow : IRow W5 N1 r ((ids lead).filter (fun i => (f i).isSome)) := IRow.kept (F := fun _ => False) hrI ⟨hBW5.os, hBW5.tape, hBW5.output, hBW5.size, fun k hk _ => hBW5.block k hk⟩ (fun _ _ f => f)
    have hDl : D < W.heap.size := (Array.getElem?_eq_some_iff.1 hK).1
    have hK5 : W5.heap[D]? = some (.deferred (some [])) := (hBW5.block D hDl).trans hK
    have hrD : ∀ k, r.ownBlock = some k → (N1 ≤ k ∧ k < W.heap.size ∧ k ≠ D) ∨ W5.heap.size ≤ k := fun k e => .inl ⟨hrI.ge k e, hrI.lt k e, fun h => by
      subst h
      have := row_cells hrI k _ e hK
      cases this⟩
    have hm5 : IMap Tryz.prog 3 W5 K es := hm.below hB35 hm.lt
    have hKl := hm.lt
    have hM5 := hMW.bel hBW5
    obtain ⟨N5, HN5⟩ := named W5.heap.size
    obtain ⟨S0, HS0⟩ := named W.heap.size
    obtain ⟨B9, HB9⟩ := named w3.heap.size
    rw [← HN5.out] at hrD hz5
    rw [← HS0.out] at hrD hDl hz2
    rw [← HB9.out] at hz5 hz3 hKl b9 b10 q7 q8
    have hls5 := lists_off h2 hs (hs.bel hB5) (F := fun k => k = w.heap.size + 1 ∨ k = B9 + 1 ∨ (N1 ≤ k ∧ k < S0 ∧ k ≠ D)) (fun _k hk h => by omega) q7 (fun h => by omega)
    have hst : ∀ pre, Hid ((∀ y, (f y).isSome = true → y ∈ ids lead → y ∈ (ordSt (fun i => (f i).isSome) (ids lead) (vals pre)).1) ∧ (ordSt (fun i => (f i).isSome) (ids lead) (vals pre)).2 ≤ (ordSt (fun i => (f i).isSome) (ids lead) (vals pre)).1.length ∧ (ordSt (fun i => (f i).isSome) (ids lead) (vals pre)).1.length ≤ (ids lead).length + (vals pre).length) := fun pre => Lib.hid (ordSt_all _ _ _)
    have hstep : ∀ pre (x : OkInt), Hid (ordSt (fun i => (f i).isSome) (ids lead) (vals (pre ++ [x])) = Mg.step (fun i => (f i).isSome) (ids lead) (ordSt (fun i => (f i).isSome) (ids lead) (vals pre)) x.1) := fun pre x => Lib.hid (by rw [← ordSt_snoc]; unfold vals; rw [List.map_append]; rfl)
    obtain ⟨st, HST⟩ := named (fun pre : List OkInt => ordSt (fun i => (f i).isSome) (ids lead) (vals pre))
    have hys : ys.length ≤ 1000 := by have := congrArg List.length hy; rw [List.length_map, List.length_map] at this; omega
    refine wpIn_rangeFunc_ownG rfl (by omega) (gf := 51) (lb := #[.pointer (some ⟨B9 + 3, 0, none⟩)]) (by rw [HB9.out]; rfl) trivial (enters_of Tryz.func51 (by kernel_rfl) rfl)
      (each_stops _ (B9 + 3) (KeepB W5.heap.size (fun k => k = w.heap.size + 1 ∨ k = B9 + 1 ∨ (N1 ≤ k ∧ k < S0 ∧ k ≠ D))) (memOff W5 (fun k => k = w.heap.size + 1 ∨ k = B9 + 1 ∨ (N1 ≤ k ∧ k < S0 ∧ k ≠ D))) W5 (memOff_sees _ _) (sees_keepB memOff_lt) _ [foll] hls5 (memOff_of q8 (fun h => by have h : B9 + 3 = w.heap.size + 1 ∨ B9 + 3 = B9 + 1 ∨ (N1 ≤ B9 + 3 ∧ B9 + 3 < S0 ∧ B9 + 3 ≠ D) := h; omega)) ys (by rw [idsOf_one]; exact hy)) keepB_t (keepB_b (Nat.le_refl _)) (Below.refl _ _) (fun _ => rfl)
      (fun pre W => ((Boxed W w.heap.size 41 (.map (some M)) ∧ Boxed W B9 52 (.map (some K))) ∧ (∃ r : Value, (Boxed W (w.heap.size + 1) 25 r ∧ W.ownsRow N1 3 1 r (st pre).1.length ((st pre).1.map encI) ∧ True) ∧ Boxed W (B9 + 1) 3 (.int .i64 ((st pre).2 : Nat)) ∧ (∀ k, r.ownBlock = some k → (N1 ≤ k ∧ k < S0 ∧ k ≠ D) ∨ N5 ≤ k))) ∧ (((EMap mem W M n f ∧ IMap Tryz.prog 3 W K es) ∧ Below w.heap.size w W) ∧ N5 ≤ W.heap.size ∧ W.heap[D]? = some (.deferred (some []))))
      (fun _ _ _ => False)
      (OwnFrom.and (OwnFrom.and (OwnFrom.and (Own.from (boxed_own _ _ (fun _ => .map (some M))) _) (Own.from (boxed_own _ _ (fun _ => .map (some K))) _))
          (fun s A B row ⟨r, g1, g2, g3⟩ hg hr => by
            obtain ⟨a1, a2, _⟩ := g1
            refine ⟨r, ⟨boxed_own _ _ (fun _ : Unit => r) () A B row a1 hg (fun r e => (hr r e).2), World.ownsRow.kept a2 hg ?_, trivial⟩, boxed_own _ _ (fun _ : Unit => .int .i64 ((st s).2 : Nat)) () A B row g2 hg (fun r e => (hr r e).2), g3⟩
            by_cases e0 : r.ownBlock = none
            · exact .inl e0
            · refine .inr (fun e2 => ?_)
              obtain ⟨b, hb⟩ := Option.ne_none_iff_exists'.1 e0
              obtain ⟨_, o, ho, hc⟩ := hr b (e2.symm.trans hb)
              have := row_cells a2 b o hb ho
              rw [this] at hc; cases hc))
        (OwnFrom.and (OwnFrom.and (OwnFrom.and (fun s A B row hs hg hr => hs.grown hg (fun e => by have := (hr _ e.symm).1; rw [← HN5.out] at this; omega)) (fun s A B row hs hg hr => hs.grown hg (fun e => by have := (hr _ e.symm).1; rw [← HN5.out] at this; omega))) (ownFrom_below (Nat.le_refl _) (by rw [← HN5.out]; omega)))
          (OwnFrom.and (fun s A B row hs hg hr => Nat.le_trans hs hg.size) (fun s A B row hs hg hr => (hg.block D (Array.getElem?_eq_some_iff.1 hs).1 (fun e => by have := (hr _ e.symm).1; rw [← HN5.out] at this; omega)).trans hs))))
      (fun _ _ _ _ _ hs _ _ => hs)
      ⟨⟨⟨b5, b9⟩, r, ⟨b7, by rw [HST.out]; exact hrow, trivial⟩, by rw [HST.out]; exact b10, hrD⟩, ⟨⟨hM5, hm5⟩, hB5⟩, by rw [HN5.out]; exact Nat.le_refl _, hK5⟩
      (fun x => { tmps := #[.slice ao lead.length cap, .slice ao2 foll.length cap2, .map (some M), undef, undef, .pointer (some ⟨w.heap.size, 0, none⟩), .slice none 0 0, .pointer (some ⟨w.heap.size + 1, 0, none⟩), undef, .pointer (some ⟨w3.heap.size, 0, none⟩), .pointer (some ⟨w3.heap.size + 1, 0, none⟩), .int .i64 x.1, undef, undef,
          .slice ao lead.length cap, .slice (some ⟨w.heap.size + 1 + 1, 0, none⟩) 1 1, .func (.func 51) #[] #[.pointer (some ⟨w.heap.size + 1 + 1 + 1, 0, none⟩)], undef, undef, undef, undef, undef, undef, undef, undef, undef,
          .slice ao lead.length cap, .slice (some ⟨W.heap.size, 0, none⟩) 1 1, .func (.func 51) #[] #[.pointer (some ⟨W.heap.size + 1, 0, none⟩)], .map (some K), .slice ao2 foll.length cap2, .slice (some ⟨w3.heap.size + 1 + 1, 0, none⟩) 1 1, .func (.func 51) #[] #[.pointer (some ⟨w3.heap.size + 1 + 1 + 1, 0, none⟩)], .int .i64 x.1, undef, undef, undef, undef, undef, undef, undef, undef, undef, undef, undef, undef, undef, undef, undef, undef, undef, undef, undef, undef, undef, undef, undef, undef], defers := [] }) ?assign2 ?body2 ?done2 ?stop2
    case assign2 =>
      intro l x W K hK
      gi_wp2
      exact hK
    case stop2 =>
      rintro D c pre W _ _ h _
      exact h.elim
    case body2 =>
      rintro l0 pre x Wb ⟨⟨⟨hb5', hb9⟩, r', ⟨hb7', hr', _⟩, hb10, hrb⟩, ⟨⟨⟨hMW', hmW⟩, hB'⟩, hNW', hDW⟩⟩ hlt
      obtain ⟨ev, hlk, hev⟩ := hMW'.look x.2
      obtain ⟨e0, e1, et, e3, e4, e5, ea, en, ec, e7, e8, rfl⟩ := hev.form
      have hlp := hmW.lookOk Tryz.underlying3 Tryz.underlying52 (zero_int Wb) x.2
      rw [hp.has, hp.val] at hlp
      generalize (((if x.1 ∈ ids lead then (ids lead).idxOf x.1 else 0 : Nat)) : Int) = z at hlp
      have hfl := field_some e0 e1 e3 e4 e5 e7 e8 et ea en ec (f x.1).isSome
      have c5 := hb5'.cell
      have c7 := hb7'.cell
      have f7 := hb7'.frozen
      have c9 := hb9.cell
      have c10 := hb10.cell
      have f10 := hb10.frozen
      have hrow' : IRow Wb N1 r' (st pre).1 := hr'
      have hs1 : st (pre ++ [x]) = Mg.step (fun i => (f i).isSome) (ids lead) (st pre) x.1 := by rw [HST.out]; exact (hstep pre x).out
      have hs2 : (∀ y, (f y).isSome = true → y ∈ ids lead → y ∈ (st pre).1) ∧ (st pre).2 ≤ (st pre).1.length ∧ (st pre).1.length ≤ (ids lead).length + (vals pre).length := by rw [HST.out]; exact (hst pre).out
      have hlen : (st pre).1.length ≤ 100000 := by
        have := hs2.2.2
        rw [List.length_map, List.length_map] at this
        omega
      have H0 := Lib.hid (And.intro hB' (And.intro hb5' (And.intro hb9 (And.intro hb7' (And.intro hrow' (And.intro hb10 (And.intro hrb (And.intro hMW' (And.intro hmW (And.intro hNW' (And.intro hDW (And.intro hs1 hs2))))))))))))
      have hz9 := HB9.out
      rw [HB9.out] at c9 c10 f10
      have hzS := HS0.out
      clear hb5' hb9 hb7' hr' hb10 hrb hMW' hmW hB' hNW' hDW hlt hev hs1 hs2 hrow' hstep hst
      clear h1 h2 hx hy hM1 hM hs hsW1 r5 r7 r8 r9 hls1 hls5 hb5 hb7 hr hMW hB hNW hK hm hp hb3 hBW2 hB35 hBW5 hB5 b5 b7 b9 b10 q7 q8 hrI hrow hK5 hrD hm5 hM5
      by_cases hb : (f x.1).isSome = true
      · rw [hb] at hlk hfl
        have HF := Lib.hid hb
        clear hb
        by_cases hx2 : x.1 ∈ ids lead
        · rw [decide_eq_true hx2] at hlp
          have HX := Lib.hid hx2
          clear hx2
          gi_wp2_with fail
          refine ⟨trivial, ?_⟩
          refine (CallsIn.inRound l0 (callsIn_wide.2 (index_any _ _ (IRow.ints H0.out.2.2.2.2.1) x.1 Wb (Sees.self Wb)))).mono ?_
          rintro e w' ⟨rfl, rfl⟩
          have hmem : x.1 ∈ (st pre).1 := H0.out.2.2.2.2.2.2.2.2.2.2.2.2.1 x.1 HF.out HX.out
          have hidx : idxI (st pre).1 x.1 = (((st pre).1.idxOf x.1 : Nat) : Int) := by unfold idxI; rw [if_pos hmem]
          have hjl := List.idxOf_lt_length_iff.2 hmem
          obtain ⟨j, HJ⟩ := named ((st pre).1.idxOf x.1)
          rw [← HJ.out] at hidx hjl
          rw [hidx]
          clear hidx hmem
          gi_wp2
          obtain ⟨hB', hb5', hb9, hb7', hrow', hb10, hrb, hMW', hmW, hNW', hDW, hs1, hs2⟩ := H0.out
          have e1 : st (pre ++ [x]) = ((st pre).1, j + 1) := by
            rw [hs1]; unfold Mg.step
            rw [if_pos (show (f x.1).isSome = true from HF.out), if_pos HX.out, ← HJ.out]
          have hu := (Upd.refl (fun k => k = B9 + 1) Wb).setCell (p := ⟨w3.heap.size + 1, 0, none⟩) (.inl (by rw [HB9.out])) (.int .i64 ((j : Int) + 1))
          have hrr : ∀ k, r'.ownBlock = some k → ¬ k = B9 + 1 := fun k e h => by have := hrb k e; omega
          have hb2 : Boxed (Wb.setCell ⟨w3.heap.size + 1, 0, none⟩ (.int .i64 ((j : Int) + 1))) (B9 + 1) 3 (.int .i64 ((j + 1 : Nat) : Int)) := by
            rw [HB9.out] at hb10 ⊢; exact hb10.set _
          exact ⟨(KeepsOthers.setCell _ _ _).from _, keepB_of hu (by have := HN5.out; omega) (fun k hk hf hg => hf (.inr (.inl hg))), ⟨⟨⟨boxed_upd hb5' hu (by omega), boxed_upd hb9 hu (by omega)⟩, r', ⟨boxed_upd hb7' hu (by omega), by rw [e1]; exact IRow.kept hrow' hu hrr, trivial⟩, by rw [e1]; exact hb2, hrb⟩, ⟨⟨hMW'.upd hu (by omega), hmW.upd hu (by omega)⟩, hB'.trans (hu.below (fun k hk => by omega) hB'.size)⟩, Nat.le_trans hNW' hu.size, (hu.block D (Array.getElem?_eq_some_iff.1 hDW).1 (by omega)).trans hDW⟩⟩
        · rw [decide_eq_false hx2] at hlp
          have HX := Lib.hid hx2
          clear hx2
          gi_wp2_with fail
          refine ⟨trivial, ?_⟩
          have hrne : r'.ownBlock ≠ some Wb.heap.size := fun e => by have := (IRow.lt H0.out.2.2.2.2.1) _ e; omega
          refine (CallsIn.inRound l0 (callsIn_wide.2 (insert_any _ N1 (by have := H0.out.2.2.2.2.2.2.2.2.2.1; simp; omega) _ _ (IRow.alloc H0.out.2.2.2.2.1 _) (st pre).2 H0.out.2.2.2.2.2.2.2.2.2.2.2.2.2.1 x.1 Wb.heap.size (World.alloc_heap_new _ _) hrne hlen))).mono ?_
          rintro e w1 ⟨v', rfl, hr1, hg1, ho1⟩
          have k7 := ((H0.out.2.2.2.1.alloc _).kept hg1 (fun e => by have := IRow.ge H0.out.2.2.2.2.1 _ e.symm; omega)).cell
          have j7 := ((H0.out.2.2.2.1.alloc _).kept hg1 (fun e => by have := IRow.ge H0.out.2.2.2.2.1 _ e.symm; omega)).frozen
          have k10 := ((H0.out.2.2.2.2.2.1.alloc _).kept hg1 (fun e => by have := H0.out.2.2.2.2.2.2.1 _ e.symm; omega)).cell
          have j10 := ((H0.out.2.2.2.2.2.1.alloc _).kept hg1 (fun e => by have := H0.out.2.2.2.2.2.2.1 _ e.symm; omega)).frozen
          rw [hz9] at k10 j10
          have hk2 : (st pre).2 ≤ 100000 := Nat.le_trans H0.out.2.2.2.2.2.2.2.2.2.2.2.2.2.1 hlen
          have H1 := Lib.hid (And.intro hr1 (And.intro hg1 ho1))
          obtain ⟨va, vn, vc, rfl⟩ := hr1.sl
          clear hr1 hg1 ho1
          gi_wp2
          obtain ⟨hB', hb5', hb9, hb7', hrow', hb10, hrb, hMW', hmW, hNW', hDW, hs1, hs2⟩ := H0.out
          obtain ⟨hr1, hg1, ho1⟩ := H1.out
          have e1 : st (pre ++ [x]) = (insAt (st pre).1 (st pre).2 x.1, (st pre).2 + 1) := by
            rw [hs1]; unfold Mg.step
            rw [if_pos (show (f x.1).isSome = true from HF.out), if_neg HX.out]
          have hu := ordUpd (B7 := w.heap.size + 1) (B10 := w3.heap.size + 1) (v' := .slice va vn vc) hg1 (.int .i64 (((st pre).2 : Int) + 1))
          have b7w : Boxed w1 (w.heap.size + 1) 25 r' := (hb7'.alloc _).kept hg1 (fun e => by have := IRow.ge hrow' _ e.symm; omega)
          have b10w : Boxed w1 (B9 + 1) 3 (.int .i64 ((st pre).2 : Nat)) := (hb10.alloc _).kept hg1 (fun e => by have := hrb _ e.symm; omega)
          have hb2 : Boxed ((w1.setCell ⟨w.heap.size + 1, 0, none⟩ (.slice va vn vc)).setCell ⟨w3.heap.size + 1, 0, none⟩ (.int .i64 (((st pre).2 : Int) + 1))) (B9 + 1) 3 (.int .i64 (((st pre).2 + 1 : Nat) : Int)) := by
            rw [HB9.out] at b10w ⊢; exact (b10w.other (by omega) _).set _
          have hb1 : Boxed ((w1.setCell ⟨w.heap.size + 1, 0, none⟩ (.slice va vn vc)).setCell ⟨w3.heap.size + 1, 0, none⟩ (.int .i64 (((st pre).2 : Int) + 1))) (w.heap.size + 1) 25 (.slice va vn vc) := (b7w.set _).other (by omega) _
          have hsz : (Wb.alloc (.cells #[.int .i64 x.1] 3)).heap.size = Wb.heap.size + 1 := by simp
          rw [hsz] at ho1
          have hrr : ∀ k, (Value.slice va vn vc).ownBlock = some k → (N1 ≤ k ∧ k < S0 ∧ k ≠ D) ∨ N5 ≤ k := fun k e => by
            rcases ho1 with h | h
            · exact hrb k (h ▸ e)
            · have : some k = some (Wb.heap.size + 1) := e.symm.trans h
              injection this with this; right; omega
          have hrow2 : IRow ((w1.setCell ⟨w.heap.size + 1, 0, none⟩ (.slice va vn vc)).setCell ⟨w3.heap.size + 1, 0, none⟩ (.int .i64 (((st pre).2 : Int) + 1))) N1 (.slice va vn vc) (insAt (st pre).1 (st pre).2 x.1) :=
            IRow.kept (F := fun k => k = w.heap.size + 1 ∨ k = w3.heap.size + 1) hr1 (((Upd.refl _ _).setCell (.inl (.inl rfl)) _).setCell (.inl (.inr rfl)) _) (fun k e h => by have := hrr k e; rcases h with h | h <;> omega)
          have hG : ∀ k, (k = w.heap.size + 1 ∨ k = w3.heap.size + 1 ∨ r'.ownBlock = some k) → k = w.heap.size + 1 ∨ k = B9 + 1 ∨ (N1 ≤ k ∧ k < S0 ∧ k ≠ D) ∨ N5 ≤ k := fun k h => by
            rcases h with h | h | h
            · exact .inl h
            · exact .inr (.inl (by omega))
            · exact .inr (.inr (hrb k h))
          have hn : ∀ k, k ≠ w.heap.size + 1 → k ≠ B9 + 1 → ¬ (N1 ≤ k ∧ k < S0 ∧ k ≠ D) → k < N5 → ¬ (k = w.heap.size + 1 ∨ k = w3.heap.size + 1 ∨ r'.ownBlock = some k) := fun k a b c d h => by
            have := hG k h; omega
          have hko : KeepsOthers Wb ((w1.setCell ⟨w.heap.size + 1, 0, none⟩ (.slice va vn vc)).setCell ⟨w3.heap.size + 1, 0, none⟩ (.int .i64 (((st pre).2 : Int) + 1))) :=
            (((KeepsOthers.alloc Wb _).trans (KeepsOthers.of_grownBy hg1 (fun j ob e ho => row_cells (IRow.alloc hrow' _) j ob e ho))).trans (KeepsOthers.setCell _ _ _)).trans (KeepsOthers.setCell _ _ _)
          exact ⟨hko.from _, keepB_of hu (by have := HN5.out; omega) (fun k hk hf hg => by have := HN5.out; have := hG k hg; rcases this with h | h | h | h; exact hf (.inl h); exact hf (.inr (.inl h)); exact hf (.inr (.inr h)); omega), ⟨⟨⟨boxed_upd hb5' hu (hn _ (by omega) (by omega) (by omega) (by omega)), boxed_upd hb9 hu (hn _ (by omega) (by omega) (by omega) (by omega))⟩, _, ⟨hb1, by rw [e1]; exact hrow2, trivial⟩, by rw [e1]; exact hb2, hrr⟩, ⟨⟨hMW'.upd hu (hn _ (by omega) (by omega) (by omega) (by omega)), hmW.upd hu (hn _ (by omega) (by omega) (by omega) (by omega))⟩, hB'.trans (hu.below (fun k hk => by have := hG k hk; omega) hB'.size)⟩, Nat.le_trans hNW' hu.size, (hu.block D (Array.getElem?_eq_some_iff.1 hDW).1 (hn _ (by omega) (by omega) (by omega) (by omega))).trans hDW⟩⟩
      · rw [Bool.not_eq_true] at hb
        rw [hb] at hlk hfl
        have HF := Lib.hid hb
        clear hb
        gi_wp2
        obtain ⟨hB', hb5', hb9, hb7', hrow', hb10, hrb, hMW', hmW, hNW', hDW, hs1, hs2⟩ := H0.out
        have e1 : st (pre ++ [x]) = st pre := by rw [hs1]; unfold Mg.step; rw [if_neg (show ¬ ((f x.1).isSome = true) by rw [HF.out]; simp)]
        exact ⟨KeepsFrom.refl _ _, fun k hk hf => rfl, ⟨⟨⟨hb5', hb9⟩, r', ⟨hb7', by rw [e1]; exact hrow', trivial⟩, by rw [e1]; exact hb10, hrb⟩, ⟨⟨hMW', hmW⟩, hB'⟩, hNW', hDW⟩⟩
    case done2 =>
      rintro D2 zs W6 hD2 rfl ⟨⟨⟨hb5', hb9⟩, r', ⟨hb7', hr', _⟩, hb10, hrb⟩, ⟨⟨⟨hMW', hmW⟩, hB'⟩, hNW', hDW⟩⟩ hK2
      have c7 := hb7'.cell
      have f7 := hb7'.frozen
      gi_wp2_with fail
      have hN5 := HN5.out
      have hS0 := HS0.out
      have hDW2 := ((grownBy_putObj' W6 D2 (.deferred none)).block D (Array.getElem?_eq_some_iff.1 hDW).1 (fun e => by cases e; omega)).trans hDW
      refine ⟨by simp, .inl ⟨_, _, rfl, run_takeDeferred hK2, ?_⟩⟩
      refine ⟨by simp, .inl ⟨_, _, rfl, run_takeDeferred hDW2, ?_⟩⟩
      have hg := (grownBy_putObj' W6 D2 (.deferred none))
      have hg2 := (grownBy_putObj' (W6.putObj D2 (.deferred none)) D (.deferred none))
      have hrow : IRow W6 N1 r' (orderF (fun i => (f i).isSome) (ids lead) (ids foll)) := by
        have h : IRow W6 N1 r' (st zs).1 := hr'
        rw [HST.out] at h
        rw [← hy]; exact h
      have hrow2 : IRow ((W6.putObj D2 (.deferred none)).putObj D (.deferred none)) N1 r' (orderF (fun i => (f i).isSome) (ids lead) (ids foll)) :=
        IRow.kept (F := fun k => k = D ∨ k = D2) hrow ⟨hg2.os.trans hg.os, hg2.tape.trans hg.tape, hg2.output.trans hg.output, Nat.le_trans hg.size hg2.size, fun k hk hn => (hg2.block k (Nat.lt_of_lt_of_le hk hg.size) (fun e => by cases e; exact hn (.inl rfl))).trans (hg.block k hk (fun e => by cases e; exact hn (.inr rfl)))⟩ (fun k e h => by
          rcases h with h | h
          · have := hrb k e; omega
          · subst h
            have := row_cells hrow k _ e hK2
            cases this)
      have hbe : Below w.heap.size w ((W6.putObj D2 (.deferred none)).putObj D (.deferred none)) :=
        (hB'.trans (belowK_b (w := w) (Nat.le_refl _) W6 D2 _ (.deferred none) (by omega) hK2 rfl rfl)).trans (belowK_b (w := w) (Nat.le_refl _) _ D _ (.deferred none) (by omega) hDW2 rfl rfl)
      refine ⟨_, results_tmp rfl _ _ _, _, rfl, ?_, hbe⟩
      exact ⟨hrow2.1, by
        rcases hrow2.2 with h | ⟨g, cp, cur, h1, h2, rest⟩
        · exact .inl h
        · exact .inr ⟨g, cp, cur, h1, by omega, rest⟩⟩
theorem order_any {mem : Addr → Option Value} {v u : Value} {lead foll : List Blk} (h1 : BlksM mem v lead) (h2 : BlksM mem u foll) (hl1 : lead.length ≤ 1000) (hl2 : foll.length ≤ 1000) (M n : Nat) (f : Int → Option Blk) (w : World) (hs : Sees mem w) (hM : EMap mem w M n f) :
    Calls Tryz.prog 35 #[v, u, .map (some M)] w (OrdPost (orderF (fun i => (f i).isSome) (ids lead) (ids foll)) w) := callsIn_wide.1 (order_wide 5 h1 h2 hl1 hl2 M n f w hs hM)
end Go.Proofs.YtikpbknafhnieaaGreatDoor

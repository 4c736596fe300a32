/-
  WHAT IS PROVED HERE: the replaying source of EvalReplay: SameCall, its method next. Conditions: the sizes that it keeps.
-/
import Derived.Test.YtlkaikopjjmneaaDoorPln5
import Derived.Test.YtlkaikopjjmneaaDoorSan2
import Derived.Deep.RegionHeld3
import Derived.Deep.DeepMust
import Derived.Outline
import Derived.Deep.QuietTactic
import Derived.BigQuiet
namespace Go.Proofs.YtlkaikopjjmneaaDoor
open Go.RowKit

def cCells (c : ACall) (iv nv : Value) : List Value := [.int .i64 c.meth, .int .i64 c.id, .string c.name, .string c.arg, .int .i64 c.n, .string c.text, iv, nv, .bool c.ok]
theorem streq_t {a b : ByteArray} (h : a = b) : (a.toList == b.toList) = true := by subst h; simp
theorem streq_f {a b : ByteArray} (h : ¬ a = b) : (a.toList == b.toList) = false := by
  rw [ByteArray.toList_eq, ByteArray.toList_eq]
  simp only [beq_eq_false_iff_ne, ne_eq]
  exact fun e => h (str_ext e)
set_option maxHeartbeats 4000000 in
theorem same_any (a b : ACall) (ia na ib nb : Value) (w : World) :
    Calls Tryd.prog 18 #[.agg (cCells a ia na).toArray, .agg (cCells b ib nb).toArray] w fun e w' => e = .returned (.bool (sameC a b)) ∧ (w.alloc (.cells (cCells a ia na).toArray 41)).alloc (.cells (cCells b ib nb).toArray 41) = w' := by
  obtain ⟨am, ai, an, aa, ac, at_, ads, ans, aok⟩ := a
  obtain ⟨bm, bi, bn, ba, bc, bt, bds, bns, bok⟩ := b
  have HS : ∀ x : Bool, x = sameC ⟨am, ai, an, aa, ac, at_, ads, ans, aok⟩ ⟨bm, bi, bn, ba, bc, bt, bds, bns, bok⟩ → Hid (x = sameC ⟨am, ai, an, aa, ac, at_, ads, ans, aok⟩ ⟨bm, bi, bn, ba, bc, bt, bds, bns, bok⟩) := fun x h => Lib.hid h
  unfold cCells
  by_cases h1 : am = bm
  · by_cases h2 : ai = bi
    · by_cases h3 : an = bn
      · by_cases h4 : aa = ba
        · by_cases h5 : ac = bc
          · have H := HS true (by unfold sameC; simp [h1, h2, h3, h4, h5])
            clear HS
            subst h1 h2 h3 h4 h5
            go_enter Tryd.func18, Tryd.ntmps18
            go_wp2
            go_ret
            exact ⟨ret_bool H.out, rfl⟩
          · have H := HS false (by unfold sameC; simp [h5])
            clear HS
            subst h1 h2 h3 h4
            have e5 : (ac == bc) = false := by simpa using h5
            go_enter Tryd.func18, Tryd.ntmps18
            go_wp2
            go_ret
            exact ⟨ret_bool H.out, rfl⟩
        · have H := HS false (by unfold sameC; simp [h4])
          clear HS
          subst h1 h2 h3
          have e4 := streq_f h4
          go_enter Tryd.func18, Tryd.ntmps18
          go_wp2
          go_ret
          exact ⟨ret_bool H.out, rfl⟩
      · have H := HS false (by unfold sameC; simp [h3])
        clear HS
        subst h1 h2
        have e3 := streq_f h3
        go_enter Tryd.func18, Tryd.ntmps18
        go_wp2
        go_ret
        exact ⟨ret_bool H.out, rfl⟩
    · have H := HS false (by unfold sameC; simp [h2])
      clear HS
      subst h1
      have e2 : (ai == bi) = false := by simpa using h2
      go_enter Tryd.func18, Tryd.ntmps18
      go_wp2
      go_ret
      exact ⟨ret_bool H.out, rfl⟩
  · have H := HS false (by unfold sameC; simp [h1])
    clear HS
    have e1 : (am == bm) = false := by simpa using h1
    go_enter Tryd.func18, Tryd.ntmps18
    go_wp2
    go_ret
    exact ⟨ret_bool H.out, rfl⟩

/-- recorded calls as they lie in memory that is only read -/
def CallsAt (mem : Addr → Option Value) : List ACall → Nat → Nat → Prop
  | [], _, _ => True
  | c :: r, b, o => (∃ iv nv, (∀ j u, (cCells c iv nv)[j]? = some u → mem ⟨b, o + j, none⟩ = some u) ∧ IntsM mem iv c.ids ∧ ∃ b' o', SliceOf nv c.nodes.length b' o' ∧ NodesAt mem c.nodes b' o') ∧ CallsAt mem r b (o + 9)
theorem repNext_diff {c d : ACall} (h : ¬ sameC c d = true) (r : List ACall) (b : Bool) : repNext (d :: r, b) c = (askC 0 0 ⟨#[]⟩ ⟨#[]⟩ 0, (d :: r, true)) := by
  unfold repNext
  simp only []
  rw [if_neg h]
structure RepI (base : Nat) (mem : Addr → Option Value) (R : Nat) (F : Nat → Prop) (w : World) (s : List ACall × Bool) : Prop where
  ex : ∃ ao cap b o, w.heap[R]? = some (.cells #[.slice ao s.1.length cap, .bool s.2] 59 (0, 0)) ∧ SliceOf (.slice ao s.1.length cap) s.1.length b o ∧ CallsAt mem s.1 b o
  foot : ∀ k, F k ↔ k = R
  lt : R < base ∧ base ≤ w.heap.size
  sees : Sees mem w
  memR : ∀ a v, mem a = some v → a.block < base ∧ a.block ≠ R
  good : ∀ c ∈ s.1, GoodC c
section
variable {base : Nat} {mem : Addr → Option Value} {R : Nat} {F : Nat → Prop} {w w1 : World} {s : List ACall × Bool}
theorem RepI.keep {G : Nat → Prop} (h : RepI base mem R F w s) (hu : Upd G w w1) (hG : ∀ k, G k → base ≤ k ∧ ¬ F k) : RepI base mem R F w1 s := by
  obtain ⟨ao, cap, b, o, h1, h2, h3⟩ := h.ex
  have hl := h.lt
  exact ⟨⟨ao, cap, b, o, (hu.block R (by omega) (fun g => by have := (hG _ g).1; omega)).trans h1, h2, h3⟩, h.foot, ⟨hl.1, by have := hu.size; omega⟩,
    h.sees.upd hu (fun a v hv g => by have := (hG _ g).1; have := (h.memR a v hv).1; omega), h.memR, h.good⟩
/-- what next leaves -/
def NextPost (base : Nat) (mem : Addr → Option Value) (R : Nat) (F : Nat → Prop) (w : World) (q : ACall) (s : List ACall × Bool) (e : Ending) (w' : World) : Prop :=
  ∃ iv nv, e = .returned (.agg (cCells (repNext s q).1 iv nv).toArray) ∧ IntsM mem iv (repNext s q).1.ids ∧ (∃ b' o', SliceOf nv (repNext s q).1.nodes.length b' o' ∧ NodesAt mem (repNext s q).1.nodes b' o') ∧ RepI base mem R F w' (repNext s q).2 ∧ Upd F w w'
theorem intsM_nil (mem : Addr → Option Value) : IntsM mem (.slice none 0 0) [] := ⟨0, 0, nilS, fun j hj => absurd hj (by simp)⟩
theorem Upd.drewN {F : Nat → Prop} {a w : World} (h : Upd F a w) (n : Nat) : Upd F a (w.drewN n) := ⟨h.os, h.tape, h.output, h.size, h.block⟩
theorem RepI.miss (h : RepI base mem R F w s) {wA wE : World} (huA : Upd (fun _ => False) w wA) (hE : Upd (fun k => w.heap.size ≤ k) (wA.setCell ⟨R, 1, none⟩ (.bool true)) wE) : RepI base mem R F wE (s.1, true) ∧ Upd F w wE := by
  obtain ⟨ao, cap, b, o, h1, h2, h3⟩ := h.ex
  have hl := h.lt
  have hbA := (huA.block R (by omega) (fun f => f)).trans h1
  have hbR := heap_setCell_same wA R 1 _ _ (.bool true) hbA
  have hsz : (wA.setCell ⟨R, 1, none⟩ (.bool true)).heap.size = wA.heap.size := by simp [World.setCell]
  have hsA := huA.size
  have hu1 : Upd F w (wA.setCell ⟨R, 1, none⟩ (.bool true)) := (huA.mono (fun _ f => f.elim)).setCell (.inl ((h.foot R).2 rfl)) _
  have huE : Upd F w wE := hu1.trans hE (fun k g => .inr g)
  have hbE : wE.heap[R]? = some (.cells #[.slice ao s.1.length cap, .bool true] 59 (0, 0)) := (hE.block R (by rw [hsz]; omega) (fun g => by omega)).trans hbR
  exact ⟨⟨⟨ao, cap, b, o, hbE, h2, h3⟩, h.foot, ⟨hl.1, by have := huE.size; omega⟩, h.sees.upd huE (fun a v hv f => (h.memR a v hv).2 ((h.foot _).1 f)), h.memR, h.good⟩, huE⟩
theorem RepI.hit {d : ACall} {r : List ACall} {wr : Bool} (h : RepI base mem R F w (d :: r, wr)) {wA wE : World} {ao : Option Addr} {cap b o : Nat} (huA : Upd (fun _ => False) w wA) (h2 : SliceOf (.slice ao r.length cap) r.length b o) (h3 : CallsAt mem r b o)
    (hE : Upd (fun k => w.heap.size ≤ k) (wA.setCell ⟨R, 0, none⟩ (.slice ao r.length cap)) wE) : RepI base mem R F wE (r, wr) ∧ Upd F w wE := by
  obtain ⟨ao', cap', b', o', h1, _, _⟩ := h.ex
  have hl := h.lt
  have hbA := (huA.block R (by omega) (fun f => f)).trans h1
  have hbR := heap_setCell_same wA R 0 _ _ (.slice ao r.length cap) hbA
  have hsz : (wA.setCell ⟨R, 0, none⟩ (.slice ao r.length cap)).heap.size = wA.heap.size := by simp [World.setCell]
  have hsA := huA.size
  have hu1 : Upd F w (wA.setCell ⟨R, 0, none⟩ (.slice ao r.length cap)) := (huA.mono (fun _ f => f.elim)).setCell (.inl ((h.foot R).2 rfl)) _
  have huE : Upd F w wE := hu1.trans hE (fun k g => .inr g)
  have hbE : wE.heap[R]? = some (.cells #[.slice ao r.length cap, .bool wr] 59 (0, 0)) := (hE.block R (by rw [hsz]; omega) (fun g => by omega)).trans hbR
  exact ⟨⟨⟨ao, cap, b, o, hbE, h2, h3⟩, h.foot, ⟨hl.1, by have := huE.size; omega⟩, h.sees.upd huE (fun a v hv f => (h.memR a v hv).2 ((h.foot _).1 f)), h.memR, fun c hc => h.good c (List.mem_cons_of_mem _ hc)⟩, huE⟩
theorem upd_ge {A B : World} {n : Nat} (j : Nat) (v : Value) (h : Upd (fun k => n ≤ k) A B) : Upd (fun k => n ≤ k) A (B.setCell ⟨n + 1, j, none⟩ v) := h.setCell (.inl (Nat.le_succ n)) v
set_option maxRecDepth 100000 in
set_option maxHeartbeats 1000000 in
theorem next_any (h : RepI base mem R F w s) (q : ACall) (qi qn : Value) : Calls Tryd.prog 119 #[.pointer (some ⟨R, 0, none⟩), .agg (cCells q qi qn).toArray] w (NextPost base mem R F w q s) := by
  obtain ⟨ao, cap, b, o, h1, h2, h3⟩ := h.ex
  obtain ⟨l, wr⟩ := s
  have hl := h.lt
  have hb0 : w.cell? ⟨R, 0, none⟩ = some (.slice ao l.length cap) := blk_cell h1 0
  have hb1 : w.cell? ⟨R, 1, none⟩ = some (.bool wr) := blk_cell h1 1
  have hf0 := blk_free h1 0
  have hf1 := blk_free h1 1
  have hRl := blk_lt h1
  have HH := Lib.hid h
  have HB := Lib.hid h1
  clear h h1
  match l, h2, h3 with
  | [], h2, h3 =>
    simp only [List.length_nil] at hb0
    obtain ⟨W1, HW1⟩ := named ((w.alloc (.cells (cCells q qi qn).toArray 41)).alloc (.cells #[.int .i64 0, .int .i64 0, .string ⟨#[]⟩, .string ⟨#[]⟩, .int .i64 0, .string ⟨#[]⟩, .slice none 0 0, .slice none 0 0, .bool false] 41))
    have hu1 : Upd (fun _ => False) w W1 := by rw [HW1.out]; exact ((Upd.refl _ _).alloc _).alloc _
    have hbz : W1.heap[w.heap.size + 1]? = some (.cells #[.int .i64 0, .int .i64 0, .string ⟨#[]⟩, .string ⟨#[]⟩, .int .i64 0, .string ⟨#[]⟩, .slice none 0 0, .slice none 0 0, .bool false] 41 (0, 0)) := by rw [HW1.out]; exact ag_new (by simp)
    have k0 := hu1.cell_some hb0 (fun f => f)
    have k1 := hu1.cell_some hb1 (fun f => f)
    have kf : W1.frozen? ⟨R, 1, none⟩ = false := (hu1.frozen (p := ⟨R, 1, none⟩) hRl (fun f => f)).trans hf1
    have z0 := blk_cell hbz 0
    have z1 := blk_cell hbz 1
    have z2 := blk_cell hbz 2
    have z3 := blk_cell hbz 3
    have z4 := blk_cell hbz 4
    have z5 := blk_cell hbz 5
    have z6 := blk_cell hbz 6
    have z7 := blk_cell hbz 7
    have z8 := blk_cell hbz 8
    have y0 := blk_free hbz 0
    have y1 := blk_free hbz 1
    have y2 := blk_free hbz 2
    have y3 := blk_free hbz 3
    have y4 := blk_free hbz 4
    have y5 := blk_free hbz 5
    have y6 := blk_free hbz 6
    have y7 := blk_free hbz 7
    have y8 := blk_free hbz 8
    simp only [List.getElem?_toArray, List.getElem?_cons_zero, List.getElem?_cons_succ] at z0 z1 z2 z3 z4 z5 z6 z7 z8
    have HU := Lib.hid hu1
    have hne : R ≠ w.heap.size + 1 := by omega
    have hne2 : w.heap.size + 1 ≠ R := by omega
    clear hbz hu1 hb0 hb1 hf0 hf1 h2 h3
    go_enter Tryd.func119, Tryd.ntmps119
    go_wp2_with fail
    rw [← HW1.out]
    go_quiet (fail)
    go_wp2_with fail
    refine bodyPost_ret (v := .agg #[.int .i64 0, .int .i64 0, .string ⟨#[]⟩, .string ⟨#[]⟩, .int .i64 0, .string ⟨#[]⟩, .slice none 0 0, .slice none 0 0, .bool false]) (by simp [results, Tryd.results119, go_sem, *]) rfl ?_
    refine ⟨.slice none 0 0, .slice none 0 0, rfl, intsM_nil mem, ⟨0, 0, nilS, nodesAt_nil⟩, ?_⟩
    refine HH.out.miss (wA := W1.drewN nq) (HU.out.drewN _) ?_
    iterate 9 (with_reducible refine upd_ge _ _ ?_)
    with_reducible exact Upd.refl _ _
  | d :: r, h2, h3 =>
    obtain ⟨⟨iv, nv, hc, hiv, hnv⟩, hr⟩ := h3
    obtain ⟨ia, ic, rfl, _, _, _⟩ : ∃ ia ic, iv = .slice ia d.ids.length ic ∧ True ∧ True ∧ True := by
      obtain ⟨_, _, ⟨_, ia, ic, h, _⟩, _⟩ := hiv
      exact ⟨ia, ic, h, trivial, trivial, trivial⟩
    obtain ⟨na, nc, rfl, _, _, _⟩ : ∃ na nc, nv = .slice na d.nodes.length nc ∧ True ∧ True ∧ True := by
      obtain ⟨_, _, ⟨_, na, nc, h, _⟩, _⟩ := hnv
      exact ⟨na, nc, h, trivial, trivial, trivial⟩
    have HL := Lib.hid h2.1
    obtain ⟨_, ao', cap', e, hcap, hpos⟩ := h2
    injection e with e1 e2 e3
    subst e1 e3
    have e1 := hpos (by simp)
    subst e1
    have hsee := HH.out.sees
    have hcc : ∀ j u, (cCells d (.slice ia d.ids.length ic) (.slice na d.nodes.length nc))[j]? = some u → w.cell? ⟨b, o + j, none⟩ = some u := fun j u hj => hsee _ _ (hc j u hj)
    have c0 : w.cell? ⟨b, o, none⟩ = some _ := hcc 0 _ rfl
    have hlb := World.block_lt_of_cell? w _ c0
    clear c0
    obtain ⟨W1, HW1⟩ := named ((w.alloc (.cells (cCells q qi qn).toArray 41)).alloc (.cells #[.int .i64 0, .int .i64 0, .string ⟨#[]⟩, .string ⟨#[]⟩, .int .i64 0, .string ⟨#[]⟩, .slice none 0 0, .slice none 0 0, .bool false] 41))
    have hu1 : Upd (fun _ => False) w W1 := by rw [HW1.out]; exact ((Upd.refl _ _).alloc _).alloc _
    have hz1 : W1.heap.size = w.heap.size + 2 := by rw [HW1.out]; simp
    have hbq : W1.heap[w.heap.size]? = some (.cells (cCells q qi qn).toArray 41 (0, 0)) := by rw [HW1.out]; exact ag_old (by simp) (ag_new rfl)
    have hbz : W1.heap[w.heap.size + 1]? = some (.cells #[.int .i64 0, .int .i64 0, .string ⟨#[]⟩, .string ⟨#[]⟩, .int .i64 0, .string ⟨#[]⟩, .slice none 0 0, .slice none 0 0, .bool false] 41 (0, 0)) := by rw [HW1.out]; exact ag_new (by simp)
    have hS : ∀ W, Upd (fun _ => False) W1 W → (W.cell? ⟨R, 0, none⟩ = some (.slice (some ⟨b, o, none⟩) (r.length + 1) cap) ∧ W.cell? ⟨b, o, none⟩ = some (.int .i64 d.meth) ∧ W.cell? ⟨b, o + 1, none⟩ = some (.int .i64 d.id) ∧ W.cell? ⟨b, o + 2, none⟩ = some (.string d.name) ∧ W.cell? ⟨b, o + 3, none⟩ = some (.string d.arg) ∧ W.cell? ⟨b, o + 4, none⟩ = some (.int .i64 d.n) ∧ W.cell? ⟨b, o + 5, none⟩ = some (.string d.text) ∧ W.cell? ⟨b, o + 6, none⟩ = some (.slice ia d.ids.length ic) ∧ W.cell? ⟨b, o + 7, none⟩ = some (.slice na d.nodes.length nc) ∧ W.cell? ⟨b, o + 8, none⟩ = some (.bool d.ok)) ∧
        (W.cell? ⟨w.heap.size, 0, none⟩ = some (.int .i64 q.meth) ∧ W.cell? ⟨w.heap.size, 1, none⟩ = some (.int .i64 q.id) ∧ W.cell? ⟨w.heap.size, 2, none⟩ = some (.string q.name) ∧ W.cell? ⟨w.heap.size, 3, none⟩ = some (.string q.arg) ∧ W.cell? ⟨w.heap.size, 4, none⟩ = some (.int .i64 q.n) ∧ W.cell? ⟨w.heap.size, 5, none⟩ = some (.string q.text) ∧ W.cell? ⟨w.heap.size, 6, none⟩ = some qi ∧ W.cell? ⟨w.heap.size, 7, none⟩ = some qn ∧ W.cell? ⟨w.heap.size, 8, none⟩ = some (.bool q.ok)) := fun W hu => by
      have huw := hu1.trans hu (fun _ f => f.elim)
      have hcw : ∀ j u, (cCells d (.slice ia d.ids.length ic) (.slice na d.nodes.length nc))[j]? = some u → W.cell? ⟨b, o + j, none⟩ = some u := fun j u hj => huw.cell_some (hcc j u hj) (fun f => f)
      have hbw := (hu.block _ (blk_lt hbq) (fun f => f)).trans hbq
      exact ⟨⟨huw.cell_some hb0 (fun f => f), hcw 0 _ rfl, hcw 1 _ rfl, hcw 2 _ rfl, hcw 3 _ rfl, hcw 4 _ rfl, hcw 5 _ rfl, hcw 6 _ rfl, hcw 7 _ rfl, hcw 8 _ rfl⟩, blk_cell hbw 0, blk_cell hbw 1, blk_cell hbw 2, blk_cell hbw 3, blk_cell hbw 4, blk_cell hbw 5, blk_cell hbw 6, blk_cell hbw 7, blk_cell hbw 8⟩
    obtain ⟨⟨s0, s1, s2, s3, s4, s5, s6, s7, s8, s9⟩, t0, t1, t2, t3, t4, t5, t6, t7, t8⟩ := hS W1 (Upd.refl _ _)
    have HS := Lib.hid hS
    have HB1 := Lib.hid hb1
    have HC := Lib.hid (And.intro hcc (And.intro hc (And.intro hiv (And.intro hnv hr))))
    have HK := Lib.hid (And.intro hcap hz1)
    have HBZ := Lib.hid (And.intro hbz hu1)
    clear hcc hc hiv hnv hr hpos hsee hS hbq hbz hb0 hb1 hcap hz1 hu1
    by_cases hs : sameC q d = true
    · go_enter Tryd.func119, Tryd.ntmps119
      go_wp2_with fail
      rw [← HW1.out]
      go_region_held3 (fun W => (W.cell? ⟨R, 0, none⟩ = some (.slice (some ⟨b, o, none⟩) (r.length + 1) cap) ∧ W.cell? ⟨b, o, none⟩ = some (.int .i64 d.meth) ∧ W.cell? ⟨b, o + 1, none⟩ = some (.int .i64 d.id) ∧ W.cell? ⟨b, o + 2, none⟩ = some (.string d.name) ∧ W.cell? ⟨b, o + 3, none⟩ = some (.string d.arg) ∧ W.cell? ⟨b, o + 4, none⟩ = some (.int .i64 d.n) ∧ W.cell? ⟨b, o + 5, none⟩ = some (.string d.text) ∧ W.cell? ⟨b, o + 6, none⟩ = some (.slice ia d.ids.length ic) ∧ W.cell? ⟨b, o + 7, none⟩ = some (.slice na d.nodes.length nc) ∧ W.cell? ⟨b, o + 8, none⟩ = some (.bool d.ok)) ∧
        (W.cell? ⟨w.heap.size, 0, none⟩ = some (.int .i64 q.meth) ∧ W.cell? ⟨w.heap.size, 1, none⟩ = some (.int .i64 q.id) ∧ W.cell? ⟨w.heap.size, 2, none⟩ = some (.string q.name) ∧ W.cell? ⟨w.heap.size, 3, none⟩ = some (.string q.arg) ∧ W.cell? ⟨w.heap.size, 4, none⟩ = some (.int .i64 q.n) ∧ W.cell? ⟨w.heap.size, 5, none⟩ = some (.string q.text) ∧ W.cell? ⟨w.heap.size, 6, none⟩ = some qi ∧ W.cell? ⟨w.heap.size, 7, none⟩ = some qn ∧ W.cell? ⟨w.heap.size, 8, none⟩ = some (.bool q.ok))) (exact HS.out _ (by repeat (first | exact Upd.refl _ _ | apply Upd.alloc | apply Upd.drew)))
        ((go_at_call 18; refine (same_any q d qi qn (.slice ia d.ids.length ic) (.slice na d.nodes.length nc) _).mono ?_; rintro e w' ⟨rfl, rfl⟩))
      obtain ⟨W2, HW2⟩ := named (((W1.alloc (.cells (cCells q qi qn).toArray 41)).alloc (.cells (cCells d (.slice ia d.ids.length ic) (.slice na d.nodes.length nc)).toArray 41)).drew)
      rw [← HW2.out]
      have hu2 : Upd (fun _ => False) W1 W2 := by rw [HW2.out]; exact (((Upd.refl _ _).alloc _).alloc _).drew
      have hz2 : W2.heap.size = w.heap.size + 4 := by rw [HW2.out]; have := HK.out.2; simp; omega
      have hnz : (((r.length : Nat) : Int) + 1 == 0) = false := by simp; omega
      obtain ⟨⟨p0, p1, p2, p3, p4, p5, p6, p7, p8, p9⟩, _⟩ := HS.out W2 hu2
      have hbz2 := (hu2.block _ (blk_lt HBZ.out.1) (fun f => f)).trans HBZ.out.1
      have z0 := blk_cell hbz2 0
      have z1 := blk_cell hbz2 1
      have z2 := blk_cell hbz2 2
      have z3 := blk_cell hbz2 3
      have z4 := blk_cell hbz2 4
      have z5 := blk_cell hbz2 5
      have z6 := blk_cell hbz2 6
      have z7 := blk_cell hbz2 7
      have z8 := blk_cell hbz2 8
      have y0 := blk_free hbz2 0
      have y1 := blk_free hbz2 1
      have y2 := blk_free hbz2 2
      have y3 := blk_free hbz2 3
      have y4 := blk_free hbz2 4
      have y5 := blk_free hbz2 5
      have y6 := blk_free hbz2 6
      have y7 := blk_free hbz2 7
      have y8 := blk_free hbz2 8
      simp only [List.getElem?_toArray, List.getElem?_cons_zero, List.getElem?_cons_succ] at z0 z1 z2 z3 z4 z5 z6 z7 z8
      have kf : W2.frozen? ⟨R, 0, none⟩ = false := ((HBZ.out.2.trans hu2 (fun _ f => f.elim)).frozen (p := ⟨R, 0, none⟩) hRl (fun f => f)).trans hf0
      have hne : R ≠ w.heap.size + 1 := by omega
      have hne2 : w.heap.size + 1 ≠ R := by omega
      have hne3 : b ≠ w.heap.size + 1 := by omega
      have HU2 := Lib.hid (HBZ.out.2.trans hu2 (fun _ f => f.elim))
      have HZ2 := Lib.hid hz2
      have hR2 : R < W2.heap.size := by omega
      have hb2 : b < W2.heap.size := by omega
      have hN2 : w.heap.size + 1 < W2.heap.size := by omega
      clear hbz2 hu2 hz2 s0 s1 s2 s3 s4 s5 s6 s7 s8 s9 t0 t1 t2 t3 t4 t5 t6 t7 t8 hf0 hf1
      by_cases hcp : cap = 1
      · go_wp2_with fail
        refine bodyPost_ret (v := .agg #[.int .i64 d.meth, .int .i64 d.id, .string d.name, .string d.arg, .int .i64 d.n, .string d.text, .slice ia d.ids.length ic, .slice na d.nodes.length nc, .bool d.ok]) (by simp [results, Tryd.results119, go_sem, *]) rfl ?_
        have hz : r.length = 0 := by have := HK.out.1; simp at this; omega
        obtain ⟨_, _, hiv, hnv, hr⟩ := HC.out
        unfold NextPost
        rw [repNext_same hs]
        refine ⟨_, _, rfl, hiv, hnv, ?_⟩
        refine HH.out.hit (wA := W2) (ao := some ⟨b, o, none⟩) (cap := 0) (b := b) (o := o + 9) HU2.out ⟨by omega, _, _, rfl, by omega, fun h => by omega⟩ hr ?_
        refine Upd.alloc ?_ _
        iterate 9 (with_reducible refine upd_ge _ _ ?_)
        with_reducible exact Upd.refl _ _
      · have hcap2 : r.length ≤ cap - 1 := by have := HK.out.1; simp at this; omega
        have HCP := Lib.hid hcap2
        clear hcap2
        go_wp2_with fail
        refine bodyPost_ret (v := .agg #[.int .i64 d.meth, .int .i64 d.id, .string d.name, .string d.arg, .int .i64 d.n, .string d.text, .slice ia d.ids.length ic, .slice na d.nodes.length nc, .bool d.ok]) (by simp [results, Tryd.results119, go_sem, *]) rfl ?_
        obtain ⟨_, _, hiv, hnv, hr⟩ := HC.out
        unfold NextPost
        rw [repNext_same hs]
        refine ⟨_, _, rfl, hiv, hnv, ?_⟩
        refine HH.out.hit (wA := W2) (ao := some ⟨b, o + 9, none⟩) (cap := cap - 1) (b := b) (o := o + 9) HU2.out ⟨by have := HL.out; simp only [List.length_cons] at this; omega, _, _, rfl, HCP.out, fun _ => rfl⟩ hr ?_
        refine Upd.alloc ?_ _
        iterate 9 (with_reducible refine upd_ge _ _ ?_)
        with_reducible exact Upd.refl _ _
    · have hs2 : sameC q d = false := by simpa using hs
      have HS2 := Lib.hid hs
      clear hs
      go_enter Tryd.func119, Tryd.ntmps119
      go_wp2_with fail
      rw [← HW1.out]
      go_region_held3 (fun W => (W.cell? ⟨R, 0, none⟩ = some (.slice (some ⟨b, o, none⟩) (r.length + 1) cap) ∧ W.cell? ⟨b, o, none⟩ = some (.int .i64 d.meth) ∧ W.cell? ⟨b, o + 1, none⟩ = some (.int .i64 d.id) ∧ W.cell? ⟨b, o + 2, none⟩ = some (.string d.name) ∧ W.cell? ⟨b, o + 3, none⟩ = some (.string d.arg) ∧ W.cell? ⟨b, o + 4, none⟩ = some (.int .i64 d.n) ∧ W.cell? ⟨b, o + 5, none⟩ = some (.string d.text) ∧ W.cell? ⟨b, o + 6, none⟩ = some (.slice ia d.ids.length ic) ∧ W.cell? ⟨b, o + 7, none⟩ = some (.slice na d.nodes.length nc) ∧ W.cell? ⟨b, o + 8, none⟩ = some (.bool d.ok)) ∧
        (W.cell? ⟨w.heap.size, 0, none⟩ = some (.int .i64 q.meth) ∧ W.cell? ⟨w.heap.size, 1, none⟩ = some (.int .i64 q.id) ∧ W.cell? ⟨w.heap.size, 2, none⟩ = some (.string q.name) ∧ W.cell? ⟨w.heap.size, 3, none⟩ = some (.string q.arg) ∧ W.cell? ⟨w.heap.size, 4, none⟩ = some (.int .i64 q.n) ∧ W.cell? ⟨w.heap.size, 5, none⟩ = some (.string q.text) ∧ W.cell? ⟨w.heap.size, 6, none⟩ = some qi ∧ W.cell? ⟨w.heap.size, 7, none⟩ = some qn ∧ W.cell? ⟨w.heap.size, 8, none⟩ = some (.bool q.ok))) (exact HS.out _ (by repeat (first | exact Upd.refl _ _ | apply Upd.alloc | apply Upd.drew)))
        ((go_at_call 18; refine (same_any q d qi qn (.slice ia d.ids.length ic) (.slice na d.nodes.length nc) _).mono ?_; rintro e w' ⟨rfl, rfl⟩))
      obtain ⟨W2, HW2⟩ := named (((W1.alloc (.cells (cCells q qi qn).toArray 41)).alloc (.cells (cCells d (.slice ia d.ids.length ic) (.slice na d.nodes.length nc)).toArray 41)).drew)
      rw [← HW2.out]
      have hu2 : Upd (fun _ => False) W1 W2 := by rw [HW2.out]; exact (((Upd.refl _ _).alloc _).alloc _).drew
      have hz2 : W2.heap.size = w.heap.size + 4 := by rw [HW2.out]; have := HK.out.2; simp; omega
      have hnz : (((r.length : Nat) : Int) + 1 == 0) = false := by simp; omega
      obtain ⟨⟨p0, p1, p2, p3, p4, p5, p6, p7, p8, p9⟩, _⟩ := HS.out W2 hu2
      have hbz2 := (hu2.block _ (blk_lt HBZ.out.1) (fun f => f)).trans HBZ.out.1
      have z0 := blk_cell hbz2 0
      have z1 := blk_cell hbz2 1
      have z2 := blk_cell hbz2 2
      have z3 := blk_cell hbz2 3
      have z4 := blk_cell hbz2 4
      have z5 := blk_cell hbz2 5
      have z6 := blk_cell hbz2 6
      have z7 := blk_cell hbz2 7
      have z8 := blk_cell hbz2 8
      have y0 := blk_free hbz2 0
      have y1 := blk_free hbz2 1
      have y2 := blk_free hbz2 2
      have y3 := blk_free hbz2 3
      have y4 := blk_free hbz2 4
      have y5 := blk_free hbz2 5
      have y6 := blk_free hbz2 6
      have y7 := blk_free hbz2 7
      have y8 := blk_free hbz2 8
      simp only [List.getElem?_toArray, List.getElem?_cons_zero, List.getElem?_cons_succ] at z0 z1 z2 z3 z4 z5 z6 z7 z8
      have kf : W2.frozen? ⟨R, 1, none⟩ = false := ((HBZ.out.2.trans hu2 (fun _ f => f.elim)).frozen (p := ⟨R, 1, none⟩) hRl (fun f => f)).trans hf1
      have k1 := (HBZ.out.2.trans hu2 (fun _ f => f.elim)).cell_some HB1.out (fun f => f)
      have hne : R ≠ w.heap.size + 1 := by omega
      have hne2 : w.heap.size + 1 ≠ R := by omega
      have hne3 : b ≠ w.heap.size + 1 := by omega
      have HU2 := Lib.hid (HBZ.out.2.trans hu2 (fun _ f => f.elim))
      have HZ2 := Lib.hid hz2
      have hR2 : R < W2.heap.size := by omega
      have hb2 : b < W2.heap.size := by omega
      have hN2 : w.heap.size + 1 < W2.heap.size := by omega
      clear hbz2 hu2 hz2 s0 s1 s2 s3 s4 s5 s6 s7 s8 s9 t0 t1 t2 t3 t4 t5 t6 t7 t8 hf0 hf1
      go_wp2_with fail
      refine bodyPost_ret (v := .agg #[.int .i64 0, .int .i64 0, .string ⟨#[]⟩, .string ⟨#[]⟩, .int .i64 0, .string ⟨#[]⟩, .slice none 0 0, .slice none 0 0, .bool false]) (by simp [results, Tryd.results119, go_sem, *]) rfl ?_
      unfold NextPost
      rw [repNext_diff HS2.out]
      refine ⟨.slice none 0 0, .slice none 0 0, rfl, intsM_nil mem, ⟨0, 0, nilS, nodesAt_nil⟩, ?_⟩
      refine HH.out.miss (wA := W2) HU2.out ?_
      iterate 9 (with_reducible refine upd_ge _ _ ?_)
      with_reducible exact Upd.refl _ _
end
end Go.Proofs.YtlkaikopjjmneaaDoor

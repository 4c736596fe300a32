/-
  WHAT IS PROVED HERE: the walk of merge.Merge's closure that takes one id. No condition.
-/
import Derived.Test.YtikpbknafhnieaaGreatDoorOrd
namespace Go.Proofs.YtikpbknafhnieaaGreatDoor
open Go.RowKit Mg Go.Shelf

theorem IRow.bel {w w' : World} {B : Nat} {v : Value} {l : List Int} (h : IRow w B v l) (hb : Below w.heap.size w w') : IRow w' B v l :=
  IRow.kept (F := fun k => w.heap.size ≤ k) h (Upd.of_below hb) (fun k e => by have := h.lt k e; omega)
theorem boxed_bel {w w' : World} {B : Nat} {t : TypeId} {v : Value} (h : Boxed w B t v) (hb : Below w.heap.size w w') : Boxed w' B t v := h.kept (grown_none hb) (by simp)

structure TakePost (mem : Addr → Option Value) (C b5 B n : Nat) (g : Int → Option Blk) (p : Option Blk × Bool) (i : Int) (L : List Int) (w w' : World) : Prop where
  upd : Upd (fun k => k = C ∨ k = b5 ∨ B ≤ k) w w'
  map : EMap mem w' C (if p.1.isSome then n + 1 else n) (fun j => if j = i then p.1 else g j)
  row : ∃ r', Boxed w' b5 25 r' ∧ IRow w' B r' (L ++ selB p.2 i)

set_option maxRecDepth 100000 in
set_option maxHeartbeats 4000000 in
theorem take_any {mem : Addr → Option Value} {M1 M2 M3 C n1 n2 n3 n b1 b2 b3 b4 b5 B : Nat} {f1 f2 f3 g : Int → Option Blk} {r : Value} {L : List Int} (i : Int) (w : World) (hs : Sees mem w)
    (h1 : EMap mem w M1 n1 f1) (h2 : EMap mem w M2 n2 f2) (h3 : EMap mem w M3 n3 f3) (hC : EMap mem w C n g) (hg : g i = none) (hn : n ≤ 100000) (hi : okI i)
    (hb1 : Boxed w b1 41 (.map (some M1))) (hb2 : Boxed w b2 41 (.map (some M2))) (hb3 : Boxed w b3 41 (.map (some M3))) (hb4 : Boxed w b4 41 (.map (some C))) (hb5 : Boxed w b5 25 r) (hr : IRow w B r L) (hl : L.length ≤ 100000) (hB : B ≤ w.heap.size) (hlt : b5 < B) (hCB : C < B) (hne : C ≠ b5) :
    Calls Tryz.prog 28 #[.int .i64 i, .pointer (some ⟨b1, 0, none⟩), .pointer (some ⟨b2, 0, none⟩), .pointer (some ⟨b3, 0, none⟩), .pointer (some ⟨b4, 0, none⟩), .pointer (some ⟨b5, 0, none⟩)] w fun e w' => e = .returned (.tuple #[]) ∧ TakePost mem C b5 B n g (pick (f1 i) (f2 i) (f3 i)) i L w w' := by
  obtain ⟨v1, k1, e1⟩ := h1.look hi
  obtain ⟨v2, k2, e2⟩ := h2.look hi
  obtain ⟨v3, k3, e3⟩ := h3.look hi
  have c1 := hb1.cell
  have c2 := hb2.cell
  have c3 := hb3.cell
  have HB := Lib.hid (And.intro hb4 (And.intro hb5 (And.intro hr hC)))
  have hch := choose_any e1 e2 e3 w hs
  generalize pick (f1 i) (f2 i) (f3 i) = p at *
  clear h1 h2 h3 hb1 hb2 hb3 hb4 hb5 hr hC e1 e2 e3
  go_enter Tryz.func28, Tryz.ntmps28
  go_wp2_with fail
  refine hch.mono ?_
  rintro e w1 ⟨v, rfl, hv, hb⟩
  clear k1 k2 k3 c1 c2 c3 hch
  obtain ⟨p1, p2⟩ := p
  obtain ⟨hb4, hb5, hr, hC⟩ := HB.out
  have hb4' := boxed_bel hb4 hb
  have hb5' := boxed_bel hb5 hb
  have hr1 := hr.bel hb
  have hC1 := hC.bel hb
  have hsz := hb.size
  clear hb4 hb5 hr hC
  have c5 := hb5'.cell
  have f5 := hb5'.frozen
  have c4 := hb4'.cell
  have l5 := hb5'.lt
  have l4 := hb4'.lt
  cases p1 with
  | none =>
    obtain rfl : v = zeroEnt := hv
    unfold zeroEnt
    have HE : Hid (∀ W : World, EMap mem W C n g → EMap mem W C n (fun j => if j = i then none else g j)) := Lib.hid (fun W h => h.ext (fun j => by by_cases e : j = i <;> simp [e, hg]))
    have X5 := hb5'.alloc (.cells #[.int .i64 0, .int .i64 0, .string .empty, .int .i64 0, .int .i64 0, .int .i64 0, .slice none 0 0, .int .i64 0, .int .i64 0, .bool false] 44)
    have XR := IRow.alloc hr1 (.cells #[.int .i64 0, .int .i64 0, .string .empty, .int .i64 0, .int .i64 0, .int .i64 0, .slice none 0 0, .int .i64 0, .int .i64 0, .bool false] 44)
    have XC := hC1.alloc (.cells #[.int .i64 0, .int .i64 0, .string .empty, .int .i64 0, .int .i64 0, .int .i64 0, .slice none 0 0, .int .i64 0, .int .i64 0, .bool false] 44)
    obtain ⟨W2, HW2⟩ := named (w1.alloc (.cells #[.int .i64 0, .int .i64 0, .string .empty, .int .i64 0, .int .i64 0, .int .i64 0, .slice none 0 0, .int .i64 0, .int .i64 0, .bool false] 44))
    have hb2 : Below w.heap.size w W2 := by rw [HW2.out]; exact hb.alloc hsz _
    have XB : B ≤ (w1.alloc (.cells #[.int .i64 0, .int .i64 0, .string .empty, .int .i64 0, .int .i64 0, .int .i64 0, .slice none 0 0, .int .i64 0, .int .i64 0, .bool false] 44)).heap.size := by simp; omega
    have hu0 := Upd.of_below hb2
    rw [HW2.out] at hu0
    clear hb2 HW2
    cases p2 with
    | false =>
      go_wp2_with fail
      go_end0
      exact ⟨rfl, hu0.mono (fun k h => .inl (.inr (.inr (Nat.le_trans hB h)))), HE.out _ XC, r, X5, by simpa [selB] using XR⟩
    | true =>
      go_wp2_with (at_builtin; refine wpList_app_int rfl _ _ rfl B _ _ rfl (IRow.alloc XR _) i (w1.alloc (.cells #[.int .i64 0, .int .i64 0, .string .empty, .int .i64 0, .int .i64 0, .int .i64 0, .slice none 0 0, .int .i64 0, .int .i64 0, .bool false] 44)).heap.size 1 (by simp <;> rfl) (cell_new rfl rfl) hl (Nat.le_trans XB (by simp)) ?_; intro v' w3 hr' hg' _; have hap := Lib.hid (appB hlt X5 XR hr' hg'); have k7 := ((X5.alloc _).kept hg' (fun e => by have := IRow.ge XR _ e.symm; omega)).cell; have j7 := ((X5.alloc _).kept hg' (fun e => by have := IRow.ge XR _ e.symm; omega)).frozen; obtain ⟨va, vn, vc, rfl⟩ := hr'.sl; clear hr' hg')
      go_end0
      obtain ⟨u1, u2, u3, _⟩ := hap.out
      exact ⟨rfl, (hu0.mono (G := fun k => k = C ∨ k = b5 ∨ B ≤ k) (fun k h => .inl (.inr (.inr (Nat.le_trans hB h))))).trans u1 (fun k h => .inl (.inr h)), HE.out _ (XC.upd u1 (by omega)), _, u2, by simpa [selB] using u3⟩
  | some x =>
    obtain ⟨ao, cap, hints, rfl⟩ := hv
    have hC2 := hC1.alloc (.cells #[.int .i64 x.id, .int .i64 x.kind, .string x.text, .int .i64 x.story, .int .i64 x.ref, .int .i64 x.lab.till, .slice ao x.lab.after.length cap, .int .i64 x.lab.appr, .int .i64 x.lab.denied, .bool true] 44)
    obtain ⟨w2, hst, hM2, hg2⟩ := hC2.store hn hi hg (x := x) (v := entAgg x (.slice ao x.lab.after.length cap)) ⟨ao, cap, hints, rfl⟩
    have hu0 : Upd (fun k => k = C ∨ k = b5 ∨ B ≤ k) w w2 := (((Upd.of_below hb).mono (G := fun k => k = C ∨ k = b5 ∨ B ≤ k) (fun k h => .inl (.inr (.inr (Nat.le_trans hB h))))).alloc (.cells #[.int .i64 x.id, .int .i64 x.kind, .string x.text, .int .i64 x.story, .int .i64 x.ref, .int .i64 x.lab.till, .slice ao x.lab.after.length cap, .int .i64 x.lab.appr, .int .i64 x.lab.denied, .bool true] 44)).grown hg2 (fun k e => by cases e; exact .inl (.inl rfl))
    have X5 := (hb5'.alloc (.cells #[.int .i64 x.id, .int .i64 x.kind, .string x.text, .int .i64 x.story, .int .i64 x.ref, .int .i64 x.lab.till, .slice ao x.lab.after.length cap, .int .i64 x.lab.appr, .int .i64 x.lab.denied, .bool true] 44)).kept hg2 (fun e => by cases e; exact hne rfl)
    have XR : IRow w2 B r L := IRow.kept (F := fun k => k = C) (hr1.alloc (.cells #[.int .i64 x.id, .int .i64 x.kind, .string x.text, .int .i64 x.story, .int .i64 x.ref, .int .i64 x.lab.till, .slice ao x.lab.after.length cap, .int .i64 x.lab.appr, .int .i64 x.lab.denied, .bool true] 44)) ((Upd.refl _ _).grown hg2 (fun k e => by cases e; exact .inl rfl)) (fun k e h => by have := hr1.ge k e; omega)
    have XB : B ≤ w2.heap.size := Nat.le_trans hB hu0.size
    have c5 := X5.cell
    have f5 := X5.frozen
    have l5 := X5.lt
    simp only [entAgg] at hst
    unfold entAgg
    have HM := Lib.hid hM2
    clear hM2 hg2 hC2 hC1 hr1 hb5' hb4' hints
    cases p2 with
    | false =>
      go_wp2_with fail
      go_end0
      exact ⟨rfl, hu0, HM.out, r, X5, by simpa [selB] using XR⟩
    | true =>
      go_wp2_with (at_builtin; refine wpList_app_int rfl _ _ rfl B _ _ rfl (IRow.alloc XR _) i w2.heap.size 1 rfl (cell_new rfl rfl) hl (Nat.le_trans XB (by simp)) ?_; intro v' w3 hr' hg' _; have hap := Lib.hid (appB hlt X5 XR hr' hg'); have k7 := ((X5.alloc _).kept hg' (fun e => by have := IRow.ge XR _ e.symm; omega)).cell; have j7 := ((X5.alloc _).kept hg' (fun e => by have := IRow.ge XR _ e.symm; omega)).frozen; obtain ⟨va, vn, vc, rfl⟩ := hr'.sl; clear hr' hg')
      go_end0
      obtain ⟨u1, u2, u3, _⟩ := hap.out
      exact ⟨rfl, hu0.trans u1 (fun k h => .inl (.inr h)), HM.out.upd u1 (by omega), _, u2, by simpa [selB] using u3⟩
end Go.Proofs.YtikpbknafhnieaaGreatDoor

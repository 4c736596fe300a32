/-
  WHAT IS PROVED HERE: slices.Sorted(maps.Keys(m)) at a map from int to int: its keys, ascending. Conditions: at most 100000 entries.
-/
import Derived.Test.YtikpbknafhnieaaGreatDoorPos
import Derived.Test.YtikpbknafhnieaaGreatDoorIns
import Derived.Test.YtikpbknafhnieaaGreatDoorShl
namespace Go.Proofs.YtikpbknafhnieaaGreatDoor
open Go.RowKit Go.Shelf Go.Maps Go.Sort

theorem sorts_any (m : Nat) : AnyZI.SortsIn Tryz.prog Tryz.sortedA_ren Fence.wide m :=
  ⟨fun blk off cap ss W hH hblk hsz => callsIn_wide.2 (AnyM.slices_Sort_int Tryz.sortA blk off cap ss W hH hblk hsz),
   fun p cap W => callsIn_wide.2 (AnyM.slices_Sort_int_none Tryz.sortA p cap W)⟩
theorem keys_perm {P : Program} {k : TypeId} {w : World} {b : Nat} {l : List (Int × Value)} (K : Maps.Keyed P k) (hk : P.underlying k = some (.int .i64)) (h : IMap P k w b l) :
    ∃ D : DataW Value, w.ownsMap P k heldV b l.length D ∧ Maps.size D = l.length ∧ (keysL l).Perm (intKeys D) := by
  obtain ⟨D, h1, h2, h3, h4, h5⟩ := h
  refine ⟨D, h1, h4, ?_⟩
  refine CollectedI.perm (left := fun _ => false) ⟨h2, fun x => ?_⟩ h1 K hk (fun _ => rfl)
  by_cases hx : Go.Proofs.YtikpbknafhnieaaGreatDoor.okI x
  · rw [(h5 x hx).1]; simp
  · constructor
    · intro hm
      obtain ⟨p, hp, rfl⟩ := List.mem_map.1 hm
      exact absurd (h3 p hp) hx
    · rintro ⟨hh, _⟩
      obtain ⟨es, rfl, hko⟩ := h1.keysOf
      rw [has_eq, List.any_eq_true] at hh
      obtain ⟨p, hp, hs⟩ := hh
      obtain ⟨v, hv⟩ := hko p hp
      obtain ⟨y, _, hy, hl⟩ := Maps.keyOf_i64 hk hv
      rw [hy] at hs
      have : y = x := by simpa [Lit.sameKey] using hs
      subst this
      refine absurd ?_ hx
      have e1 : IntKind.i64.min = -9223372036854775808 := by decide
      have e2 : IntKind.i64.max = 9223372036854775807 := by decide
      simp only [Lit.wf, e1, e2, Bool.and_eq_true, decide_eq_true_eq] at hl
      exact hl
theorem sort_up {l s : List Int} (hn : l.Nodup) (hp : s.Perm l) : (s.mergeSort (fun x y => decide (x ≤ y))).Pairwise (fun x y => x < y) ∧ ∀ y, y ∈ s.mergeSort (fun x y => decide (x ≤ y)) ↔ y ∈ l := by
  have tr : ∀ a b c : Int, decide (a ≤ b) = true → decide (b ≤ c) = true → decide (a ≤ c) = true := fun a b c h1 h2 => by simp only [decide_eq_true_eq] at *; exact Int.le_trans h1 h2
  have to : ∀ a b : Int, (decide (a ≤ b) || decide (b ≤ a)) = true := fun a b => by simp only [Bool.or_eq_true, decide_eq_true_eq]; exact Int.le_total a b
  have hq := (List.mergeSort_perm s (fun x y => decide (x ≤ y))).trans hp
  refine ⟨?_, fun y => hq.mem_iff⟩
  have h1 := List.pairwise_mergeSort tr to s
  have h2 : (s.mergeSort (fun x y => decide (x ≤ y))).Nodup := (hq.nodup_iff).2 hn
  exact (h1.and h2).imp (fun ⟨a, b⟩ => by simp only [decide_eq_true_eq] at a; omega)
def SortedPost (l : List Int) (W : World) (e : Ending) (w' : World) : Prop := ∃ v s, e = .returned v ∧ IRow w' W.heap.size v s ∧ s.Pairwise (fun x y => x < y) ∧ (∀ y, y ∈ s ↔ y ∈ l) ∧ Below W.heap.size W w'
theorem keys_any (mb : Option Nat) (W : World) : Calls Tryz.prog 31 #[.map mb] W fun e w' => e = .returned (.func (.func 50) #[] #[.pointer (some ⟨W.heap.size, 0, none⟩)]) ∧ w' = W.alloc (.cells #[.map mb] 52) :=
  callsIn_wide.1 (AnyZI.keys_in Tryz.keysA Fence.wide 5 trivial rfl mb W)
theorem sorted_any (b : Nat) (es : List (Int × Value)) (w : World) (h : IMap Tryz.prog 3 w b es) (hl : es.length ≤ 100000) :
    Calls Tryz.prog 30 #[.func (.func 50) #[] #[.pointer (some ⟨w.heap.size, 0, none⟩)]] (w.alloc (.cells #[.map (some b)] 52)) (SortedPost (keysL es) (w.alloc (.cells #[.map (some b)] 52))) := by
  have K : Maps.Keyed Tryz.prog 3 := int_keyed Tryz.underlying3
  obtain ⟨D, hown, hsz, hperm⟩ := keys_perm K Tryz.underlying3 h
  have hbl := hown.lt
  have hseq : SeqGives Fence.wide 2 Tryz.prog 50 #[.pointer (some ⟨w.heap.size, 0, none⟩)] encZ (fun ss => ss.Perm (intKeys D)) (Maps.size D) (w.alloc (.cells #[.map (some b)] 52)) :=
    AnyZI.keys_gives (ρ := Tryz.keysA_ren) { Tryz.keysA with } Fence.wide _ trivial rfl (by omega) w.heap.size b es.length D _ (by simp) (by simp) (by
      obtain ⟨es, clock, hb, Ft, hs, hD⟩ := hown
      exact ⟨es, clock, (Below.heap_alloc _ _ b hbl).trans hb, Ft, hs, hD⟩)
  have cS := AnyZI.sorted_in Tryz.sortedA Fence.wide 5 trivial trivial trivial trivial rfl (by omega) (sorts_any _) (enters_of Tryz.func49 (by kernel_rfl) rfl) 50 #[.pointer (some ⟨w.heap.size, 0, none⟩)] trivial (enters_of Tryz.func50 (by kernel_rfl) rfl) _ _ (by rw [hsz]; unfold maxLen; omega) (by omega) _ hseq
  refine (callsIn_wide.1 cS).mono ?_
  rintro e w' ⟨v, ss, rfl, hp, hrow, _, hb⟩
  obtain ⟨u1, u2⟩ := sort_up h.nodup (hp.trans hperm.symm)
  refine ⟨v, _, rfl, ?_, u1, u2, hb⟩
  unfold IRow
  rw [List.length_mergeSort]
  exact hrow
end Go.Proofs.YtikpbknafhnieaaGreatDoor

/-
  WHAT IS PROVED HERE: how labels, blocks and lists of blocks lie in memory that is only read. No condition.
-/
import Derived.Test.YtikpbknafhnieaaGreatDoorMem
import Derived.Test.YtikpbknafhnieaaGreatDoorApp
import Derived.Test.YtikpbknafhnieaaGreatDoorMap
import Derived.Test.YtikpbknafhnieaaGreatDoorMrgValid
namespace Go.Proofs.YtikpbknafhnieaaGreatDoor
open Go.RowKit Mg

/-- memory that is only read, as a world shows it -/
def Sees (mem : Addr → Option Value) (w : World) : Prop := ∀ a v, mem a = some v → w.cell? a = some v
/-- v is a slice of n elements, at block b from cell o on where there is one -/
def SliceOf (v : Value) (n b o : Nat) : Prop := n ≤ maxLen ∧ ∃ ao cap, v = .slice ao n cap ∧ n ≤ cap ∧ cap ≤ maxLen ∧ (0 < n → ao = some ⟨b, o, none⟩)
def IntsM (mem : Addr → Option Value) (v : Value) (l : List Int) : Prop := ∃ b o, SliceOf v l.length b o ∧ ∀ j (h : j < l.length), mem ⟨b, o + j, none⟩ = some (.int .i64 l[j])
def BlkAt (mem : Addr → Option Value) (x : Blk) (b o : Nat) : Prop :=
  (mem ⟨b, o, none⟩ = some (.int .i64 x.id) ∧ mem ⟨b, o + 1, none⟩ = some (.int .i64 x.kind) ∧ mem ⟨b, o + 2, none⟩ = some (.string x.text) ∧ mem ⟨b, o + 3, none⟩ = some (.int .i64 x.story) ∧ mem ⟨b, o + 4, none⟩ = some (.int .i64 x.ref)) ∧
  (mem ⟨b, o + 5, none⟩ = some (.int .i64 x.lab.till) ∧ mem ⟨b, o + 7, none⟩ = some (.int .i64 x.lab.appr) ∧ mem ⟨b, o + 8, none⟩ = some (.int .i64 x.lab.denied)) ∧ (x.text.size ≤ maxLen ∧ okI x.kind ∧ okI x.id) ∧
  ∃ av, mem ⟨b, o + 6, none⟩ = some av ∧ IntsM mem av x.lab.after
def BlksAt (mem : Addr → Option Value) (l : List Blk) (b o : Nat) : Prop := ∀ j (h : j < l.length), BlkAt mem l[j] b (o + j * 9)
def BlksM (mem : Addr → Option Value) (v : Value) (l : List Blk) : Prop := ∃ b o, SliceOf v l.length b o ∧ BlksAt mem l b o
/-- a label's cells, a block's cells, where av is the slice of the label's stories -/
abbrev labCells (x : Lab) (av : Value) : Array Value := #[.int .i64 x.till, av, .int .i64 x.appr, .int .i64 x.denied]
abbrev blkCells (x : Blk) (av : Value) : Array Value := #[.int .i64 x.id, .int .i64 x.kind, .string x.text, .int .i64 x.story, .int .i64 x.ref, .int .i64 x.lab.till, av, .int .i64 x.lab.appr, .int .i64 x.lab.denied]

section
variable {mem mem' : Addr → Option Value} {w w' : World}
theorem Sees.upd {G : Nat → Prop} (h : Sees mem w) (hu : Upd G w w') (hn : ∀ a v, mem a = some v → ¬ G a.block) : Sees mem w' :=
  fun a v hv => hu.cell_some (h a v hv) (hn a v hv)
theorem Sees.below {B : Nat} (h : Sees mem w) (hB : w.heap.size ≤ B) (hb : Below B w w') : Sees mem w' :=
  fun a v hv => (hb.cell (Nat.lt_of_lt_of_le (World.block_lt_of_cell? w a (h a v hv)) hB)).trans (h a v hv)
theorem Sees.bel (h : Sees mem w) (hb : Below w.heap.size w w') : Sees mem w' := h.below (Nat.le_refl _) hb
theorem Sees.alloc (h : Sees mem w) (o : Obj) : Sees mem (w.alloc o) := h.bel ((Below.refl _ w).alloc (Nat.le_refl _) _)
theorem Sees.drew (h : Sees mem w) : Sees mem w.drew := h
theorem Sees.drewN (h : Sees mem w) (n : Nat) : Sees mem (w.drewN n) := h
theorem Sees.self (w : World) : Sees (fun a => w.cell? a) w := fun _ _ h => h
theorem IntsM.mono {v : Value} {l : List Int} (h : IntsM mem v l) (hm : ∀ a u, mem a = some u → mem' a = some u) : IntsM mem' v l := by
  obtain ⟨b, o, h1, h2⟩ := h
  exact ⟨b, o, h1, fun j hj => hm _ _ (h2 j hj)⟩
theorem BlkAt.mono {x : Blk} {b o : Nat} (h : BlkAt mem x b o) (hm : ∀ a u, mem a = some u → mem' a = some u) : BlkAt mem' x b o := by
  obtain ⟨⟨h0, h1, h2, h3, h4⟩, ⟨h5, h7, h8⟩, hs, av, h6, hi⟩ := h
  exact ⟨⟨hm _ _ h0, hm _ _ h1, hm _ _ h2, hm _ _ h3, hm _ _ h4⟩, ⟨hm _ _ h5, hm _ _ h7, hm _ _ h8⟩, hs, av, hm _ _ h6, hi.mono hm⟩
theorem BlksAt.mono {l : List Blk} {b o : Nat} (h : BlksAt mem l b o) (hm : ∀ a u, mem a = some u → mem' a = some u) : BlksAt mem' l b o := fun j hj => (h j hj).mono hm
theorem BlksM.mono {v : Value} {l : List Blk} (h : BlksM mem v l) (hm : ∀ a u, mem a = some u → mem' a = some u) : BlksM mem' v l := by
  obtain ⟨b, o, h1, h2⟩ := h
  exact ⟨b, o, h1, h2.mono hm⟩
theorem sliceNil : SliceOf (.slice none 0 0) 0 0 0 := ⟨by unfold maxLen; omega, none, 0, rfl, Nat.le_refl _, by unfold maxLen; omega, fun h => absurd h (by omega)⟩
theorem IntsM.nil (mem : Addr → Option Value) : IntsM mem (.slice none 0 0) [] := ⟨0, 0, sliceNil, fun j hj => absurd hj (by simp)⟩
theorem BlksM.nil (mem : Addr → Option Value) : BlksM mem (.slice none 0 0) [] := ⟨0, 0, sliceNil, fun j hj => absurd hj (by simp)⟩
/-- the slice, with its cells in a world -/
theorem IntsM.open_ {v : Value} {l : List Int} (h : IntsM mem v l) (hs : Sees mem w) : ∃ ao cap b o, v = .slice ao l.length cap ∧ l.length ≤ cap ∧ cap ≤ maxLen ∧ (0 < l.length → ao = some ⟨b, o, none⟩) ∧ ∀ j (h : j < l.length), w.cell? ⟨b, o + j, none⟩ = some (.int .i64 l[j]) := by
  obtain ⟨b, o, ⟨_, ao, cap, h1, h2, h3, h4⟩, h5⟩ := h
  exact ⟨ao, cap, b, o, h1, h2, h3, h4, fun j hj => hs _ _ (h5 j hj)⟩
theorem IntsM.slice {v : Value} {l : List Int} (h : IntsM mem v l) : ∃ ao cap, v = .slice ao l.length cap := by
  obtain ⟨b, o, ⟨_, ao, cap, h1, _⟩, _⟩ := h
  exact ⟨ao, cap, h1⟩
/-- a block's nine cells in a world, in order, and its stories -/
theorem BlkAt.cells {x : Blk} {b o : Nat} (h : BlkAt mem x b o) (hs : Sees mem w) : ∃ av, IntsM mem av x.lab.after ∧ ∀ j (hj : j < 9), w.cell? ⟨b, o + j, none⟩ = some ((blkCells x av)[j]'(by simpa using hj)) := by
  obtain ⟨⟨h0, h1, h2, h3, h4⟩, ⟨h5, h7, h8⟩, _, av, h6, hi⟩ := h
  refine ⟨av, hi, fun j hj => ?_⟩
  match j, hj with
  | 0, _ => exact hs _ _ h0
  | 1, _ => exact hs _ _ h1
  | 2, _ => exact hs _ _ h2
  | 3, _ => exact hs _ _ h3
  | 4, _ => exact hs _ _ h4
  | 5, _ => exact hs _ _ h5
  | 6, _ => exact hs _ _ h6
  | 7, _ => exact hs _ _ h7
  | 8, _ => exact hs _ _ h8
end
/-- a block's nine cells in a world -/
structure Cells9 (w : World) (b o : Nat) (x : Blk) (av : Value) : Prop where
  c0 : w.cell? ⟨b, o, none⟩ = some (.int .i64 x.id)
  c1 : w.cell? ⟨b, o + 1, none⟩ = some (.int .i64 x.kind)
  c2 : w.cell? ⟨b, o + 2, none⟩ = some (.string x.text)
  c3 : w.cell? ⟨b, o + 3, none⟩ = some (.int .i64 x.story)
  c4 : w.cell? ⟨b, o + 4, none⟩ = some (.int .i64 x.ref)
  c5 : w.cell? ⟨b, o + 5, none⟩ = some (.int .i64 x.lab.till)
  c6 : w.cell? ⟨b, o + 6, none⟩ = some av
  c7 : w.cell? ⟨b, o + 7, none⟩ = some (.int .i64 x.lab.appr)
  c8 : w.cell? ⟨b, o + 8, none⟩ = some (.int .i64 x.lab.denied)
theorem BlkAt.nine {mem : Addr → Option Value} {w : World} {x : Blk} {b o : Nat} (h : BlkAt mem x b o) (hs : Sees mem w) : (x.text.size ≤ maxLen ∧ okI x.kind ∧ okI x.id) ∧ ∃ ao cap, IntsM mem (.slice ao x.lab.after.length cap) x.lab.after ∧ Cells9 w b o x (.slice ao x.lab.after.length cap) := by
  obtain ⟨⟨h0, h1, h2, h3, h4⟩, ⟨h5, h7, h8⟩, hp, av, h6, hi⟩ := h
  obtain ⟨ao, cap, rfl⟩ := hi.slice
  exact ⟨hp, ao, cap, hi, hs _ _ h0, hs _ _ h1, hs _ _ h2, hs _ _ h3, hs _ _ h4, hs _ _ h5, hs _ _ h6, hs _ _ h7, hs _ _ h8⟩
theorem BlksM.open_ {mem : Addr → Option Value} {v : Value} {l : List Blk} (h : BlksM mem v l) : ∃ ao cap b o, v = .slice ao l.length cap ∧ l.length ≤ cap ∧ cap ≤ maxLen ∧ (0 < l.length → ao = some ⟨b, o, none⟩) ∧ BlksAt mem l b o := by
  obtain ⟨b, o, ⟨_, ao, cap, h1, h2, h3, h4⟩, h5⟩ := h
  exact ⟨ao, cap, b, o, h1, h2, h3, h4, h5⟩
theorem BlksM.slice {mem : Addr → Option Value} {v : Value} {l : List Blk} (h : BlksM mem v l) : ∃ ao cap, v = .slice ao l.length cap := by
  obtain ⟨ao, cap, _, _, h, _⟩ := h.open_; exact ⟨ao, cap, h⟩
end Go.Proofs.YtikpbknafhnieaaGreatDoor

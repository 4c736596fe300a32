/-
  WHAT IS PROVED HERE: small facts on memory that the walks of this claim use (what a call may have changed; strings as lists of bytes). No program is named. No condition.
-/
import Derived.WalkKit
import Derived.WalkSpells
import Derived.WalkLawsBesides
import Derived.Below
import Derived.Lib.ConvBytes
import Derived.Lib.Hide
import Derived.Laws.IdiomStrings
import Derived.Lib.AppendStr
import Derived.Lib.Strings
namespace Go.Proofs.YtikpbknafhnieaaGreatDoor
open Go.RowKit

/-- a list of bytes as Go's string -/
def bs (l : List UInt8) : ByteArray := ⟨l.toArray⟩
@[simp] theorem bs_size (l : List UInt8) : (bs l).size = l.length := by simp [bs, ByteArray.size]
@[simp] theorem bs_list (l : List UInt8) : (bs l).data.toList = l := by simp [bs]
theorem bs_get (l : List UInt8) (j : Nat) (h : j < (bs l).size) : (bs l)[j] = l[j]'(by simpa using h) := by simp [bs, ByteArray.getElem_eq_getElem_data]
theorem bs_of (s : ByteArray) : bs s.data.toList = s := by simp [bs]
theorem size_list (s : ByteArray) : s.data.toList.length = s.size := by simp
theorem get_list (s : ByteArray) (j : Nat) (h : j < s.size) : s.data.toList[j]'(by simpa using h) = s[j] := by simp [ByteArray.getElem_eq_getElem_data]
theorem bs_inj {a b : List UInt8} (h : bs a = bs b) : a = b := by simpa [bs] using h
theorem bs_eq_list {s : ByteArray} {l : List UInt8} (h : s.data.toList = l) : s = bs l := by rw [← h, bs_of]
theorem str_ext {a b : ByteArray} (h : a.data.toList = b.data.toList) : a = b := by rw [← bs_of a, h, bs_of]
theorem extract_list (s : ByteArray) (a b : Nat) : (s.extract a b).data.toList = (s.data.toList.take b).drop a := by
  simp [ByteArray.data_extract, List.drop_take]
theorem append_list (a b : ByteArray) : (a ++ b).data.toList = a.data.toList ++ b.data.toList := by simp [ByteArray.data_append]
theorem byte_eq {c : UInt8} (d : UInt8) (h : (c.toNat : Int) = d.toNat) : c = d := UInt8.toNat_inj.1 (by omega)
theorem byte_ne {c : UInt8} (d : UInt8) (h : ¬ (c.toNat : Int) = d.toNat) : c ≠ d := fun e => h (by rw [e])
theorem byte_eqb {c : UInt8} (d : UInt8) {n : Int} (h : ((c.toNat : Int) == n) = true) (hn : n = d.toNat) : c = d := byte_eq d (by rw [← hn]; simpa using h)
theorem byte_neb {c : UInt8} (d : UInt8) {n : Int} (h : ((c.toNat : Int) == n) = false) (hn : n = d.toNat) : c ≠ d := byte_ne d (by rw [← hn]; simpa using h)
theorem list_get (s : ByteArray) (j : Nat) (h : j < s.size) : s.data.toList[j]? = some s[j] := by
  rw [List.getElem?_eq_getElem (by simpa using h), get_list s j h]
theorem ret_str {a b : ByteArray} (h : a = b) : Ending.returned (.string a) = .returned (.string b) := by rw [h]

/-- What a call may have done: blocks that were there and are not in F are as they were. -/
structure Upd (F : Nat → Prop) (w w' : World) : Prop where
  os : w'.os = w.os
  tape : w'.tape = w.tape
  output : w'.output = w.output
  size : w.heap.size ≤ w'.heap.size
  block : ∀ k, k < w.heap.size → ¬ F k → w'.heap[k]? = w.heap[k]?

section
variable {F : Nat → Prop} {a w w' : World}
theorem Upd.refl (F : Nat → Prop) (w : World) : Upd F w w := ⟨rfl, rfl, rfl, Nat.le_refl _, fun _ _ _ => rfl⟩
/-- a later step may write blocks of F and blocks that are new since a -/
theorem Upd.trans {G : Nat → Prop} (h : Upd F a w) (k : Upd G w w') (hG : ∀ i, G i → F i ∨ a.heap.size ≤ i) : Upd F a w' :=
  ⟨k.os.trans h.os, k.tape.trans h.tape, k.output.trans h.output, Nat.le_trans h.size k.size, fun i hi hn =>
    (k.block i (Nat.lt_of_lt_of_le hi h.size) (fun g => by rcases hG i g with g | g; exact hn g; omega)).trans (h.block i hi hn)⟩
theorem Upd.mono {G : Nat → Prop} (h : Upd F a w) (hG : ∀ i, F i → G i ∨ a.heap.size ≤ i) : Upd G a w :=
  ⟨h.os, h.tape, h.output, h.size, fun i hi hn => h.block i hi (fun f => by rcases hG i f with g | g; exact hn g; omega)⟩
theorem Upd.drew (h : Upd F a w) : Upd F a w.drew := ⟨h.os, h.tape, h.output, h.size, h.block⟩
theorem Upd.alloc (h : Upd F a w) (o : Obj) : Upd F a (w.alloc o) :=
  ⟨h.os, h.tape, h.output, Nat.le_trans h.size (by simp), fun i hi hn => (Below.heap_alloc _ _ _ (Nat.lt_of_lt_of_le hi h.size)).trans (h.block i hi hn)⟩
theorem Upd.setCell (h : Upd F a w) {p : Addr} (hp : F p.block ∨ a.heap.size ≤ p.block) (u : Value) : Upd F a (w.setCell p u) :=
  ⟨h.os, h.tape, h.output, Nat.le_trans h.size (by simp [World.setCell]), fun i hi hn => by
    rw [Below.heap_setCell _ _ _ _ (fun e => by subst e; rcases hp with g | g; exact hn g; omega)]; exact h.block i hi hn⟩
theorem Upd.of_below {B : Nat} (h : Below B w w') : Upd (fun k => B ≤ k) w w' := ⟨h.os, h.tape, h.output, h.size, fun i _ hn => h.block i (by omega)⟩
theorem Upd.below {B : Nat} (h : Upd F w w') (hF : ∀ i, F i → B ≤ i) (hB : B ≤ w.heap.size) : Below B w w' :=
  ⟨h.os, h.tape, h.output, h.size, fun i hi => h.block i (by omega) (fun f => by have := hF i f; omega)⟩
theorem Upd.grown {row : Option Nat} (h : Upd F a w) (hg : w.grownBy w' row) (hr : ∀ k, row = some k → F k ∨ a.heap.size ≤ k) : Upd F a w' :=
  h.trans (G := fun k => row = some k) ⟨hg.os, hg.tape, hg.output, hg.size, fun k hk hn => hg.block k hk (fun e => hn e.symm)⟩ (fun i e => hr i e)
theorem Upd.cell (h : Upd F w w') {p : Addr} (hp : p.block < w.heap.size) (hn : ¬ F p.block) : w'.cell? p = w.cell? p := World.cell?_of_block (h.block p.block hp hn)
theorem Upd.frozen (h : Upd F w w') {p : Addr} (hp : p.block < w.heap.size) (hn : ¬ F p.block) : w'.frozen? p = w.frozen? p := World.frozen?_of_block (h.block p.block hp hn)
theorem Upd.cell_some (h : Upd F w w') {p : Addr} {v : Value} (hv : w.cell? p = some v) (hn : ¬ F p.block) : w'.cell? p = some v :=
  (h.cell (World.block_lt_of_cell? w p hv) hn).trans hv
end
theorem named {α : Sort _} (x : α) : ∃ y, Hid (y = x) := ⟨x, Lib.hid rfl⟩
/-! cells behind stores -/
theorem sc_same {w : World} {a : Addr} {v u : Value} (h : w.cell? a = some u) : (w.setCell a v).cell? a = some v := by
  first | exact World.cell?_setCell_same h | exact World.cell?_setCell_same _ h | exact World.cell?_setCell_same _ _ _ h | exact World.cell?_setCell_same _ _ h
theorem sc_other {w : World} {a b : Addr} {v : Value} (h : a ≠ b) : (w.setCell a v).cell? b = w.cell? b := by
  first | exact World.cell?_setCell_other h | exact World.cell?_setCell_other _ _ _ _ h | exact World.cell?_setCell_other _ _ _ h
theorem sc_off {w : World} {g i j : Nat} {v : Value} (h : i ≠ j) : (w.setCell ⟨g, i, none⟩ v).cell? ⟨g, j, none⟩ = w.cell? ⟨g, j, none⟩ :=
  sc_other (by intro e; injection e; omega)
theorem sc_blk {w : World} {g h i j : Nat} {v : Value} (e : g ≠ h) : (w.setCell ⟨g, i, none⟩ v).cell? ⟨h, j, none⟩ = w.cell? ⟨h, j, none⟩ :=
  sc_other (by intro e; injection e; omega)
end Go.Proofs.YtikpbknafhnieaaGreatDoor

/-
  WHAT IS PROVED HERE: what stays as it was while a merged list is written over. No condition.
-/
import Derived.Test.YtikpbknafhnieaaGreatDoorFresh
import Derived.Test.YtikpbknafhnieaaGreatDoorRefW
namespace Go.Proofs.YtikpbknafhnieaaGreatDoor
open Go.RowKit Mg Go.Shelf

/-- the cells of a list of blocks that its owner may write over: its rows from k on hold what they held in w5 -/
structure OwnK (w5 w9 : World) (B N g n : Nat) (M : Addr → Option Value) (k : Nat) (wr : World) : Prop where
  upd : Upd (fun b => B ≤ b ∧ b < N) w9 wr
  row : ∀ c, c < n * 9 → (∃ u, wr.cell? ⟨g, c, none⟩ = some u) ∧ wr.frozen? ⟨g, c, none⟩ = false
  keep : ∀ j, k ≤ j → j < n → wr.cell? ⟨g, j * 9 + 6, none⟩ = w5.cell? ⟨g, j * 9 + 6, none⟩
  free : ∀ a u, M a = some u → (∃ v, wr.cell? a = some v) ∧ wr.frozen? a = false
theorem sc_some {w : World} {a b : Addr} {v u : Value} (h : w.cell? b = some u) : ∃ u', (w.setCell a v).cell? b = some u' := by
  by_cases e : a = b
  · subst e; exact ⟨_, sc_same h⟩
  · exact ⟨u, (sc_other e).trans h⟩
theorem sc_free {w : World} {a b : Addr} {v : Value} (h : w.frozen? b = false) : (w.setCell a v).frozen? b = false := by
  first | exact (World.frozen?_setCell w a b v).trans h | exact (World.frozen?_setCell _ _ _ _).trans h | (rw [World.frozen?_setCell]; exact h) | (simp; exact h)
/-- a story's number is written over -/
theorem OwnK.story {w5 w9 wr : World} {B N g n k : Nat} {M : Addr → Option Value} (h : OwnK w5 w9 B N g n M k wr) {b o : Nat} (hb : B ≤ b ∧ b < N) (hg : b ≠ g) (v : Value) : OwnK w5 w9 B N g n M k (wr.setCell ⟨b, o, none⟩ v) := by
  refine ⟨h.upd.setCell (.inl hb) _, fun c hc => ?_, fun j hj hn => ?_, fun a u hu => ?_⟩
  · obtain ⟨⟨u, h1⟩, h2⟩ := h.row c hc
    exact ⟨sc_some h1, sc_free h2⟩
  · exact (sc_blk hg).trans (h.keep j hj hn)
  · obtain ⟨⟨u', h1⟩, h2⟩ := h.free a u hu
    exact ⟨sc_some h1, sc_free h2⟩
/-- a row's cell is written over -/
theorem OwnK.cell {w5 w9 wr : World} {B N g n k : Nat} {M : Addr → Option Value} (h : OwnK w5 w9 B N g n M (k + 1) wr) (hg : B ≤ g ∧ g < N) {c : Nat} (hc : c < k * 9 + 9) (v : Value) : OwnK w5 w9 B N g n M (k + 1) (wr.setCell ⟨g, c, none⟩ v) := by
  refine ⟨h.upd.setCell (.inl hg) _, fun c' hc' => ?_, fun j hj hn => ?_, fun a u hu => ?_⟩
  · obtain ⟨⟨u, h1⟩, h2⟩ := h.row c' hc'
    exact ⟨sc_some h1, sc_free h2⟩
  · exact (sc_off (by omega)).trans (h.keep j hj hn)
  · obtain ⟨⟨u', h1⟩, h2⟩ := h.free a u hu
    exact ⟨sc_some h1, sc_free h2⟩
theorem OwnK.next {w5 w9 wr : World} {B N g n k : Nat} {M : Addr → Option Value} (h : OwnK w5 w9 B N g n M k wr) : OwnK w5 w9 B N g n M (k + 1) wr :=
  ⟨h.upd, h.row, fun j hj hn => h.keep j (by omega) hn, h.free⟩
/-- a merged list, ready to be written over -/
theorem own_start {w5 w9 : World} {B : Nat} {v : Value} {L : List Blk} (h : BRow w5 B v L) (hb : Below w5.heap.size w5 w9) : ∃ ao cap g, v = .slice ao L.length cap ∧ L.length ≤ cap ∧ cap ≤ maxLen ∧ (0 < L.length → ao = some ⟨g, 0, none⟩ ∧ B ≤ g ∧ g < w5.heap.size) ∧
    OwnK w5 w9 B w5.heap.size g L.length (memFr w5 (fun k => k < B ∨ v.ownBlock = some k)) 0 w9 ∧
    ∀ j (hj : j < L.length), ∃ so sc, w5.cell? ⟨g, j * 9 + 6, none⟩ = some (.slice so L[j].lab.after.length sc) ∧ L[j].lab.after.length ≤ sc ∧ sc ≤ maxLen ∧ ∃ sb so', (0 < L[j].lab.after.length → so = some ⟨sb, so', none⟩) ∧
      ∀ i, i < L[j].lab.after.length → ∃ u, memFr w5 (fun k => k < B ∨ v.ownBlock = some k) ⟨sb, so' + i, none⟩ = some u := by
  obtain ⟨vs, h1, h2⟩ := h
  have hfree : ∀ a u, memFr w5 (fun k => k < B ∨ v.ownBlock = some k) a = some u → (∃ v, w9.cell? a = some v) ∧ w9.frozen? a = false := fun a u hu => by
    obtain ⟨q1, q2, q3⟩ := memFr_lt a u hu
    exact ⟨⟨u, (hb.cell q1).trans (memFr_sees _ _ a u hu)⟩, (hb.frozen q1).trans q3⟩
  rcases h1.2 with ⟨rfl, hz⟩ | ⟨g, cap, cur, rfl, hB, hgg, hn, hc, hs, ht⟩
  · have e : L = [] := List.eq_nil_of_length_eq_zero hz
    subst e
    exact ⟨none, 0, 0, rfl, Nat.le_refl _, Nat.zero_le _, fun h => absurd h (by simp), ⟨Upd.refl _ _, fun c hc => absurd hc (by simp), fun j _ hj => absurd hj (by simp), hfree⟩, fun j hj => absurd hj (by simp)⟩
  · have hglt : g < w5.heap.size := (Array.getElem?_eq_some_iff.1 hgg).1
    refine ⟨some ⟨g, 0, none⟩, cap, g, rfl, hn, hc, fun _ => ⟨rfl, hB, hglt⟩, ⟨Upd.refl _ _, fun c hcl => ?_, fun j _ hj => hb.cell hglt, hfree⟩, fun j hj => ?_⟩
    · have h9 := hb.cell (p := ⟨g, c, none⟩) hglt
      have hf := hb.frozen (p := ⟨g, c, none⟩) hglt
      rw [h9, hf, blk_cell hgg, blk_free hgg]
      have : c < cur.size := by rw [hs]; have := Nat.mul_le_mul_right 9 hn; omega
      exact ⟨⟨cur[c], by rw [Array.getElem?_eq_getElem this]⟩, rfl⟩
    · obtain ⟨ao, cp, hi, hv⟩ := h2.get j hj
      have h6 : w5.cell? ⟨g, j * 9 + 6, none⟩ = some (.slice ao L[j].lab.after.length cp) := by
        rw [blk_cell hgg]
        have h5 : (cur.toList.take (L.length * 9))[j * 9 + 6]? = vs[j * 9 + 6]? := by rw [ht]
        rw [List.getElem?_take_of_lt (by omega)] at h5
        rw [← Array.getElem?_toList, h5]
        exact hv 6 (by omega)
      obtain ⟨sb, so', hsl, hc2⟩ := hi
      obtain ⟨_, ao', cap', e, hle, hmx, hao⟩ := hsl
      injection e with e1 _ e3
      subst e1 e3
      exact ⟨ao, cp, h6, hle, hmx, sb, so', hao, fun i hi => ⟨_, hc2 i hi⟩⟩
end Go.Proofs.YtikpbknafhnieaaGreatDoor

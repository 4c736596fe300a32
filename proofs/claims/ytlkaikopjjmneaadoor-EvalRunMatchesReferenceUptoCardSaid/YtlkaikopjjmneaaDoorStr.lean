/-
  WHAT IS PROVED HERE: the walks of the program's filters on strings (change, short, slug, escape). Each returns what a plain function on lists of bytes gives. Condition: the string has at most 2^40 bytes.
-/
import Derived.Test.YtlkaikopjjmneaaDoorMem
import Derived.Test.YtlkaikopjjmneaaDoorProg
namespace Go.Proofs.YtlkaikopjjmneaaDoor
open Go.RowKit

theorem xor32 (c : UInt8) : bits BinOp.xor IntKind.u8 (c.toNat : Int) 32 = ((c ^^^ 32).toNat : Int) := by
  have h : ∀ n : Fin 256, bits BinOp.xor IntKind.u8 (n.val : Int) 32 = (((UInt8.ofNat n.val) ^^^ 32).toNat : Int) := by decide +kernel
  have := h ⟨c.toNat, c.toNat_lt⟩
  simpa using this
/-- one byte of 'change' -/
def chg (lo hi : UInt8) (c : UInt8) : UInt8 := if lo ≤ c ∧ c ≤ hi then c ^^^ 32 else c

/-- []byte(s): a new row that holds the bytes -/
theorem conv_sb (w : World) (s : ByteArray) : ∃ cap w1, (convert 9 75 (.string s)).run Tryd.prog w = .ok (.slice (some ⟨w.heap.size, 0, none⟩) s.size cap) w1 ∧ Below w.heap.size w w1 ∧ w.heap.size < w1.heap.size
   ∧ (∀ j (h : j < s.size), w1.cell? ⟨w.heap.size, j, none⟩ = some (.int .u8 s[j].toNat)) ∧ (∀ j, j < s.size → w1.frozen? ⟨w.heap.size, j, none⟩ = false) := by
  have hnew := Lib.bytesWorld_at_new w 5 s
  have hsz : s.size ≤ (Lib.bytesCells w 5 s).size := by
    unfold Lib.bytesCells
    rw [Array.size_append, Array.size_map]
    exact Nat.le_add_right _ _
  refine ⟨_, _, Lib.run_convert_string_bytes (P := Tryd.prog) w 9 75 5 s Tryd.underlying9 Tryd.underlying75 Tryd.underlying5, ?_, ?_, ?_, ?_⟩
  · exact ⟨rfl, rfl, rfl, Nat.le_trans (Nat.le_succ _) (Nat.le_of_eq (Lib.bytesWorld_size w 5 s).symm), fun k hk => Lib.bytesWorld_at_old w 5 s k hk⟩
  · rw [Lib.bytesWorld_size]; omega
  · intro j h
    rw [Lib.bytesWorld_cell w 5 s j h]
    simp [List.getD, h, ByteArray.getElem_eq_getElem_data]
  · intro j h
    unfold World.frozen?
    simp only [hnew]
    generalize (Lib.bytesCells w 5 s).size = n at hsz
    have : ¬ n ≤ j := by omega
    simp [this]

set_option maxHeartbeats 400000 in
theorem change_any (s : ByteArray) (lo hi : UInt8) (w : World) (hs : s.size ≤ 1099511627776)  :
    Calls Tryd.prog 28 #[.string s, .int .u8 lo.toNat, .int .u8 hi.toNat] w fun e w' => e = .returned (.string (bs (s.data.toList.map (chg lo hi)))) ∧ Below w.heap.size w w' := by
  obtain ⟨cap, w1, hcv, hb, hz, hc, hf⟩ := conv_sb w s
  go_enter Tryd.func28, Tryd.ntmps28
  go_wp2
  clear hcv
  go_loopw [14, 8, 9] (fun i _ _ wr => ∃ k : Nat, k ≤ s.size ∧ i = .int .i64 k ∧ Below w.heap.size w wr ∧ w.heap.size < wr.heap.size ∧
      (∀ j (h : j < s.size), wr.cell? ⟨w.heap.size, j, none⟩ = some (.int .u8 (if j < k then chg lo hi s[j] else s[j]).toNat)) ∧ (∀ j, j < s.size → wr.frozen? ⟨w.heap.size, j, none⟩ = false)) (fun i _ _ _ => s.size - (intOf i).toNat)
  case atStart => exact ⟨0, Nat.zero_le _, rfl, hb, hz, by simpa using hc, hf⟩
  case round =>
    obtain ⟨k, hk, rfl, hb1, hz1, hc1, hf1⟩ := hrel
    by_cases hlt : k < s.size
    · have c0 := hc1 k hlt
      have f0 := hf1 k hlt
      simp only [Nat.lt_irrefl, if_false] at c0
      have hC0 := Lib.hid c0
      have hu := s[k].toNat_lt
      have hstep : ∀ x : UInt8, (x = chg lo hi s[k]) → ∀ w' : World, w'.cell? ⟨w.heap.size, k, none⟩ = some (.int .u8 x.toNat) → (∀ j, j ≠ k → w'.cell? ⟨w.heap.size, j, none⟩ = wr.cell? ⟨w.heap.size, j, none⟩) →
          ∀ j (h : j < s.size), w'.cell? ⟨w.heap.size, j, none⟩ = some (.int .u8 (if j < k + 1 then chg lo hi s[j] else s[j]).toNat) := by
        intro x hx w' h1 h2 j hj
        by_cases e : j = k
        · subst e; rw [h1, hx]; simp
        · rw [h2 j e, hc1 j hj]
          by_cases h : j < k
          · rw [if_pos h, if_pos (by omega)]
          · rw [if_neg h, if_neg (by omega)]
      have HS := Lib.hid hstep
      have HF := Lib.hid hf1
      have hle1 : lo.toNat ≤ s[k].toNat ↔ lo ≤ s[k] := UInt8.le_iff_toNat_le.symm
      have hle2 : s[k].toNat ≤ hi.toNat ↔ s[k] ≤ hi := UInt8.le_iff_toNat_le.symm
      have H1 := Lib.hid hle1
      have H2 := Lib.hid hle2
      clear hc1 hf1 hc hf hstep hle1 hle2
      go_wp2
      all_goals go_roundw
      case rel =>
        refine ⟨k + 1, by omega, by go_num, hb1.setCell (Nat.le_refl _) _, by simpa using hz1, HS.out _ (by rw [chg, if_pos ⟨H1.out.1 (by omega), H2.out.1 (by omega)⟩]) _ ?_ ?_, fun j hj => by simpa using HF.out j hj⟩
        · rw [← xor32]; exact sc_same hC0.out
        · intro j hj; exact sc_off (Ne.symm hj)
      case measure => simp [intOf]; omega
      case rel =>
        have hn : ¬ (lo ≤ s[k] ∧ s[k] ≤ hi) := fun h => by have := H2.out.2 h.2; omega
        exact ⟨k + 1, by omega, by go_num, hb1, hz1, HS.out s[k] (by rw [chg, if_neg hn]) _ hC0.out (fun _ _ => rfl), HF.out⟩
      case measure => simp [intOf]; omega
      case rel =>
        have hn : ¬ (lo ≤ s[k] ∧ s[k] ≤ hi) := fun h => by have := H1.out.2 h.1; omega
        exact ⟨k + 1, by omega, by go_num, hb1, hz1, HS.out s[k] (by rw [chg, if_neg hn]) _ hC0.out (fun _ _ => rfl), HF.out⟩
      case measure => simp [intOf]; omega
    · have e : k = s.size := by omega
      subst e
      have hbk := run_convert_bytes_back (P := Tryd.prog) wr 75 9 5 ⟨w.heap.size, 0, none⟩ cap (s.data.toList.map (chg lo hi)) Tryd.underlying75 Tryd.underlying5 Tryd.underlying9 (fun j hj => by
        simp at hj
        have := hc1 j hj
        simp only [hj, if_true] at this
        rw [Addr.add_lit, Nat.zero_add, this]
        simp [ByteArray.getElem_eq_getElem_data])
      rw [List.length_map, size_list] at hbk
      clear hc hf hc1 hf1
      go_wp2
      go_ret
      exact ⟨rfl, hb1⟩
end Go.Proofs.YtlkaikopjjmneaaDoor

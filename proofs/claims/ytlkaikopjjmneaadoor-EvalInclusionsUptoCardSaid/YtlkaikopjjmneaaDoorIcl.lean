/-
  WHAT IS PROVED HERE: the walk of the statement EvalInclusions: it returns true. Conditions: strconv's table; the string's length.
-/
import Derived.Test.YtlkaikopjjmneaaDoorPrp
import Derived.Test.YtlkaikopjjmneaaDoorPln3
import Derived.Deep.RegionLaw
import Derived.Deep.QuietTactic
import Derived.BigQuiet
import Derived.IntWalk
namespace Go.Proofs.YtlkaikopjjmneaaDoor
open Go.RowKit

theorem info63 : (Tryd.prog.info? 63).map (fun i => (i.zero, i.size, i.bytes)) = some (some (.agg #[.string ⟨#[]⟩, .slice none 0 0]), 2, 40) := by kernel_rfl
def midC (i : Nat) : List Value := [.int .i64 1, .string ⟨#[40]⟩, .string ⟨#[]⟩, .string ⟨#[]⟩, .int .i64 0, .slice none 0 0, .slice none 0 0, .slice none 0 0, .int .i64 5, .string ⟨#[]⟩, .string (nameOf (i + 1)), .string ⟨#[]⟩, .int .i64 0, .slice none 0 0, .slice none 0 0, .slice none 0 0,
  .int .i64 1, .string ⟨#[41]⟩, .string ⟨#[]⟩, .string ⟨#[]⟩, .int .i64 0, .slice none 0 0, .slice none 0 0, .slice none 0 0]
def snipC (bl : Nat → Nat) (k : Nat) : List Value := (List.range k).flatMap fun i => [.string (nameOf i), .slice (some ⟨bl i, 0, none⟩) 3 3]
def namesC : Array Value := #[.string ⟨#[97]⟩, .string ⟨#[98]⟩, .string ⟨#[99]⟩, .string ⟨#[100]⟩, .string ⟨#[101]⟩, .string ⟨#[102]⟩, .string ⟨#[103]⟩]
theorem names_at (k : Nat) (hk : k ≤ 6) : namesC[k]? = some (.string (nameOf k)) := by
  have : k = 0 ∨ k = 1 ∨ k = 2 ∨ k = 3 ∨ k = 4 ∨ k = 5 ∨ k = 6 := by omega
  rcases this with rfl | rfl | rfl | rfl | rfl | rfl | rfl <;> rfl
/-- the snippets that have been laid -/
structure InclMem (W : World) (N k : Nat) (va : Option Addr) (vc : Nat) (bl : Nat → Nat) (wr : World) : Prop where
  upd : Upd (fun _ => False) W wr
  wn : W.heap.size ≤ N
  names : wr.heap[N]? = some (.cells namesC 9 (0, 0))
  dat : wr.heap[N + 1]? = some (.cells #[.slice none 0 0, .slice none 0 0, .slice va k vc] 27 (0, 0))
  row : wr.ownsRow (N + 2) 63 2 (.slice va k vc) k (snipC bl k)
  mids : ∀ i, i < k → N + 2 ≤ bl i ∧ wr.heap[bl i]? = some (.cells (midC i).toArray 52 (0, 0))
theorem InclMem.grow {W : World} {N k : Nat} {va : Option Addr} {vc : Nat} {bl : Nat → Nat} {wr : World} (h : InclMem W N k va vc bl wr) {A : Array Value} {o2 : Obj} {news : List Value} {v' : Value} {w3 : World}
    (g1 : w3.ownsRow (N + 2) 63 2 v' (k + 1) (snipC bl k ++ news)) (g2 : ((wr.alloc (.cells A 52)).alloc o2).drew.grownBy w3 (Value.slice va k vc).ownBlock) :
    ∃ va' vc', v' = .slice va' (k + 1) vc' ∧ (w3.cell? ⟨N + 1, 0, none⟩ = some (.slice none 0 0) ∧ w3.cell? ⟨N + 1, 1, none⟩ = some (.slice none 0 0) ∧ w3.cell? ⟨N + 1, 2, none⟩ = some (.slice va k vc) ∧ w3.frozen? ⟨N + 1, 2, none⟩ = false ∧ N + 1 < w3.heap.size) ∧ Upd (fun _ => False) W (w3.setCell ⟨N + 1, 2, none⟩ v') ∧ (w3.setCell ⟨N + 1, 2, none⟩ v').heap[N]? = some (.cells namesC 9 (0, 0)) ∧
      (w3.setCell ⟨N + 1, 2, none⟩ v').heap[N + 1]? = some (.cells #[.slice none 0 0, .slice none 0 0, .slice va' (k + 1) vc'] 27 (0, 0)) ∧ (w3.setCell ⟨N + 1, 2, none⟩ v').ownsRow (N + 2) 63 2 v' (k + 1) (snipC bl k ++ news) ∧
      (∀ i, i < k → N + 2 ≤ bl i ∧ (w3.setCell ⟨N + 1, 2, none⟩ v').heap[bl i]? = some (.cells (midC i).toArray 52 (0, 0))) ∧ N + 2 ≤ wr.heap.size ∧ (w3.setCell ⟨N + 1, 2, none⟩ v').heap[wr.heap.size]? = some (.cells A 52 (0, 0)) := by
  have hlt := fun g e => World.ownsRow.lt h.row g e
  have hd := blk_lt h.dat
  have hwn := h.wn
  have hu12 : Upd (fun _ => False) wr ((wr.alloc (.cells A 52)).alloc o2).drew := (((Upd.refl _ _).alloc _).alloc _).drew
  have hu3 : Upd (fun j => (Value.slice va k vc).ownBlock = some j) wr w3 := (hu12.mono (fun _ f => f.elim)).grown g2 (fun j e => .inl e)
  have hN1 : ¬ (Value.slice va k vc).ownBlock = some (N + 1) := fun e => by have := (hlt _ e).1; omega
  have hb3 := (hu3.block _ hd hN1).trans h.dat
  have hu4 : Upd (fun j => (Value.slice va k vc).ownBlock = some j ∨ j = N + 1) wr (w3.setCell ⟨N + 1, 2, none⟩ v') := (hu3.mono (fun _ e => .inl (.inl e))).setCell (p := ⟨N + 1, 2, none⟩) (.inl (.inr rfl)) v'
  have hnew : w3.heap[wr.heap.size]? = some (.cells A 52 (0, 0)) := by
    have h1 : ((wr.alloc (.cells A 52)).alloc o2).drew.heap[wr.heap.size]? = some (.cells A 52 (0, 0)) := ag_old (by simp) (ag_new rfl)
    exact (g2.block _ (blk_lt h1) (fun e => by have := (hlt _ e.symm).2; omega)).trans h1
  rcases g1.2 with ⟨_, h0⟩ | ⟨g, cap, cur, hv, hgB, _, _, _, _, _⟩
  · omega
  refine ⟨_, cap, hv, ⟨blk_cell hb3 0, blk_cell hb3 1, blk_cell hb3 2, blk_free hb3 2, blk_lt hb3⟩, h.upd.trans hu4 (fun i e => .inr ?_), (hu4.block _ (blk_lt h.names) (fun e => ?_)).trans h.names, ?_, ?_, fun i hi => ⟨(h.mids i hi).1, ?_⟩, by omega, ?_⟩
  · rcases e with e | e
    · have := (hlt _ e).1; omega
    · omega
  · rcases e with e | e
    · have := (hlt _ e).1; omega
    · omega
  · rw [heap_setCell_same w3 (N + 1) 2 _ _ v' hb3, hv]; rfl
  · exact ownsRow_upd g1 ((Upd.refl (fun j => j = N + 1) w3).setCell (p := ⟨N + 1, 2, none⟩) (.inl rfl) v') (fun j hj e => by have := (World.ownsRow.lt g1 j hj).1; omega)
  · refine (hu4.block _ (blk_lt (h.mids i hi).2) (fun e => ?_)).trans (h.mids i hi).2
    rcases e with e | e
    · rcases h.row.2 with ⟨hn, _⟩ | ⟨g', cap', cur', hv', _, hg', _⟩
      · rw [hn] at e; cases e
      · rw [hv'] at e
        have e2 : g' = bl i := by injection e
        rw [e2, (h.mids i hi).2] at hg'
        injection hg' with hg'
        injection hg' with _ ht
        exact absurd ht (by decide)
    · have := (h.mids i hi).1; omega
  · exact ((Upd.refl (fun j => j = N + 1) w3).setCell (p := ⟨N + 1, 2, none⟩) (.inl rfl) v').block _ (blk_lt hnew) (fun e => by omega) |>.trans hnew
theorem snipC_succ (bl : Nat → Nat) (k b : Nat) : snipC (fun i => if i = k then b else bl i) (k + 1) = snipC bl k ++ [.string (nameOf k), .slice (some ⟨b, 0, none⟩) 3 3] := by
  unfold snipC
  rw [List.range_succ, List.flatMap_append]
  have h : (List.range k).flatMap (fun i => [Value.string (nameOf i), .slice (some ⟨if i = k then b else bl i, 0, none⟩) 3 3]) = (List.range k).flatMap (fun i => [Value.string (nameOf i), .slice (some ⟨bl i, 0, none⟩) 3 3]) := by
    rw [List.flatMap_def, List.flatMap_def, List.map_congr_left (g := fun i => [Value.string (nameOf i), .slice (some ⟨bl i, 0, none⟩) 3 3])]
    intro i hi
    have := List.mem_range.1 hi
    rw [if_neg (by omega)]
  rw [h]
  simp
theorem mid_nodes {w : World} {b i : Nat} (_ : i < 6) (hb : w.heap[b]? = some (.cells (midC i).toArray 52 (0, 0))) : NodesAt (fun a => w.cell? a) (midNodes i) b 0 := by
  have hc : ∀ j u, (midC i)[j]? = some u → w.cell? ⟨b, j, none⟩ = some u := fun j u hj => by rw [blk_cell hb, List.getElem?_toArray]; exact hj
  have hn : (nameOf (i + 1)).size ≤ big := by show 1 ≤ big; decide
  refine nodesAt_cons (nodeAt_of 0 0 0 0 0 0 (fun j hj => ?_) ⟨by decide, by decide, by decide, Nat.zero_le _⟩ nilS strsAt_nil nilS nodesAt_nil nilS nodesAt_nil)
    (nodesAt_cons (nodeAt_of 0 0 0 0 0 0 (fun j hj => ?_) ⟨by decide, hn, by decide, Nat.zero_le _⟩ nilS strsAt_nil nilS nodesAt_nil nilS nodesAt_nil)
      (nodesAt_cons (nodeAt_of 0 0 0 0 0 0 (fun j hj => ?_) ⟨by decide, by decide, by decide, Nat.zero_le _⟩ nilS strsAt_nil nilS nodesAt_nil nilS nodesAt_nil) nodesAt_nil))
  all_goals
    refine hc _ _ ?_
    match j, hj with
    | 0, _ => rfl
    | 1, _ => rfl
    | 2, _ => rfl
    | 3, _ => rfl
    | 4, _ => rfl
    | 5, _ => rfl
    | 6, _ => rfl
    | 7, _ => rfl
theorem snips_range {mem : Addr → Option Value} {g nb : Nat} {bl : Nat → Nat} (t : ByteArray) (hl : NodesAt mem [txt t] nb 0) : ∀ (k i o : Nat), (∀ j u, ((List.range' i k).flatMap (fun i => [Value.string (nameOf i), .slice (some ⟨bl i, 0, none⟩) 3 3]) ++ [.string (nameOf (i + k)), .slice (some ⟨nb, 0, none⟩) 1 1])[j]? = some u → mem ⟨g, o + j, none⟩ = some u) →
    (∀ q, i ≤ q → q < i + k → NodesAt mem (midNodes q) (bl q) 0) → SnipsAt mem ((List.range' i k).map (fun i => (nameOf i, midNodes i)) ++ [(nameOf (i + k), [txt t])]) g o
  | 0, i, o, hc, _ => by
    refine ⟨⟨hc 0 _ rfl, _, nb, 0, hc 1 _ rfl, litS 1 1 nb (Nat.le_refl _) (by decide), hl⟩, trivial⟩
  | k + 1, i, o, hc, hm => by
    rw [List.range'_succ, List.flatMap_cons] at hc
    rw [List.range'_succ, List.map_cons]
    refine ⟨⟨hc 0 _ rfl, _, bl i, 0, hc 1 _ rfl, litS 3 3 (bl i) (Nat.le_refl _) (by decide), hm i (Nat.le_refl _) (by omega)⟩, ?_⟩
    have := snips_range t hl k (i + 1) (o + 2) (fun j u hj => by
      have := hc (2 + j) u (by
        rw [List.append_assoc, List.getElem?_append_right (by simp)]
        rw [show i + (k + 1) = i + 1 + k by omega]
        simpa using hj)
      rwa [← Nat.add_assoc] at this) (fun q h1 h2 => hm q (by omega) (by omega))
    rw [show i + 1 + k = i + (k + 1) by omega] at this
    exact this
theorem icl_dat {w : World} {N n : Nat} {va : Option Addr} {vc : Nat} {bl : Nat → Nat} {c : ByteArray} {nb : Nat} (hn : n ≤ 6) (hc : c.size ≤ 300) (hr : w.ownsRow (N + 2) 63 2 (.slice va (n + 1) vc) (n + 1) (snipC bl n ++ [.string (nameOf n), .slice (some ⟨nb, 0, none⟩) 1 1]))
    (hm : ∀ i, i < n → N + 2 ≤ bl i ∧ w.heap[bl i]? = some (.cells (midC i).toArray 52 (0, 0))) (hnb : w.heap[nb]? = some (.cells #[.int .i64 1, .string c, .string ⟨#[]⟩, .string ⟨#[]⟩, .int .i64 0, .slice none 0 0, .slice none 0 0, .slice none 0 0] 52 (0, 0))) :
    DatAt (fun a => w.cell? a) (dIncl n c) (.slice none 0 0) (.slice none 0 0) (.slice va (n + 1) vc) where
  f := ⟨0, 0, nilS, trivial⟩
  l := ⟨0, 0, nilS, trivial⟩
  s := by
    have hlast : NodesAt (fun a => w.cell? a) [txt c] nb 0 := by
      refine nodesAt_cons (nodeAt_of (fv := .slice none 0 0) (kv := .slice none 0 0) (ev := .slice none 0 0) 0 0 0 0 0 0 (fun j hj => ?_) ⟨by show c.size ≤ big; unfold big; omega, by decide, by decide, Nat.zero_le _⟩ nilS strsAt_nil nilS nodesAt_nil nilS nodesAt_nil) nodesAt_nil
      show w.cell? _ = _
      rw [Nat.zero_add, blk_cell hnb, List.getElem?_toArray]
      exact List.getElem?_eq_getElem _
    rcases hr.2 with ⟨_, h0⟩ | ⟨g, cap, cur, hv, hgB, _, hcap, _, _, _⟩
    · omega
    injection hv with e1 e2 e3
    subst e1 e3
    refine ⟨g, 0, ⟨by show _ ≤ big; unfold dIncl big; simp; omega, _, vc, by unfold dIncl; simp, by unfold dIncl; simp; omega, fun _ => rfl⟩, ?_⟩
    have hcell : ∀ j u, (snipC bl n ++ [.string (nameOf n), .slice (some ⟨nb, 0, none⟩) 1 1])[j]? = some u → w.cell? ⟨g, 0 + j, none⟩ = some u := fun j u hj => by
      have := World.ownsRow.cells hr (g := g) rfl j u hj
      rwa [Addr.add_lit] at this
    have := snips_range (mem := fun a => w.cell? a) (g := g) (nb := nb) (bl := bl) c hlast n 0 0 (fun j u hj => by
      rw [Nat.zero_add] at hj
      exact hcell j u (by unfold snipC; rw [List.range_eq_range']; exact hj)) (fun q _ h2 => mid_nodes (by omega) (hm q (by omega)).2)
    rw [Nat.zero_add] at this
    unfold dIncl
    rw [List.range_eq_range']
    exact this
def IclRes (n : Nat) (c t : ByteArray) (f : Int) : Prop := (3 ≤ n → t = ⟨#[]⟩ ∧ f = 111) ∧ (n < 3 → f = 0 ∧ t = (ByteArray.mk #[40, 40]).extract 0 n ++ c ++ (ByteArray.mk #[41, 41]).extract 0 n)
theorem icl_run {wI w : World} {R b n : Nat} {dS : Value} {c : ByteArray} (hn : n ≤ 6) (hc : c.size ≤ 300) (hu : Upd (fun _ => False) wI w) (hd : DatAt (fun a => wI.cell? a) (dIncl n c) (.slice none 0 0) (.slice none 0 0) dS) (ht : Tab wI) (h2 : 2 < wI.heap.size)
    (hR : w.heap[R]? = some (.cells #[.slice none 0 0, .slice none 0 0, dS, .slice none 0 0] 37 (0, 0))) (hRW : wI.heap.size ≤ R) (hb : w.heap[b]? = some (.cells (nCells 5 tE ⟨#[97]⟩ tE 0 nilV nilV nilV).toArray 52 (0, 0))) (hbR : b ≠ R) :
    Calls Tryd.prog 16 #[.slice (some ⟨b, 0, none⟩) 1 1, .iface 29 (.pointer (some ⟨R, 0, none⟩)), .int .i64 0] w fun e w' => ∃ t f, e = .returned (.tuple #[.string t, .int .i64 f]) ∧ Hid (IclRes n c t f) ∧ Hid (Upd (fun _ => False) wI w') := by
  refine (run_at hu hd ht h2 hR hRW [inode (nameOf 0)] _ b 0 (litS 1 1 b (Nat.le_refl _) (by decide)) ?_ 0).mono ?_
  · exact nodes_one 0 0 hb hbR ⟨by decide, by decide, by decide⟩ nilS nodesAt_nil nilS nodesAt_nil
  · rintro e w' ⟨rfl, hu2⟩
    have hp := incl_plain n hn c hc
    refine ⟨_, _, rfl, Lib.hid ⟨fun h => ?_, fun h => ?_⟩, Lib.hid hu2⟩
    · rw [hp, if_pos h]; exact ⟨rfl, rfl⟩
    · rw [hp, if_neg (by omega)]
      refine ⟨rfl, ?_⟩
      apply str_ext
      rw [bs_list, append_list, append_list, extract_list, extract_list]
      have : n = 0 ∨ n = 1 ∨ n = 2 := by omega
      rcases this with rfl | rfl | rfl <;> rfl
set_option maxRecDepth 100000 in
set_option maxHeartbeats 4000000 in
theorem incl_walk (z : Int) (s : ByteArray) (hs : s.size ≤ 9223372036854775807) (W : World) (ht : Tab W) (h2 : 2 < W.heap.size) : Calls Tryd.prog 11 #[.int .i64 z, .string s] W fun e w' => e = .returned (.bool true) ∧ Upd (fun _ => False) W w' := by
  obtain ⟨i0, hi, hz0, hz1, hz2⟩ := info_parts info63
  have HT := Lib.hid ht
  clear ht
  go_enter Tryd.func11, Tryd.ntmps11
  go_wp2_with fail
  refine (sane_any _ HT.out h2).mono ?_
  rintro e w1 ⟨rfl, hu1⟩
  have hsz1 := hu1.size
  go_upto_region 3 with fail
  obtain ⟨n, hn, hn6⟩ : ∃ n : Nat, min (max z 0) 6 = (n : Int) ∧ n ≤ 6 := ⟨(min (max z 0) 6).toNat, by omega, by omega⟩
  rw [hn]
  clear hn
  go_wp2_with fail
  refine (cut_any _ _ (by omega) hs _).mono ?_
  rintro e w' ⟨rfl, rfl⟩
  have hcs := cut_size s 300
  change (s.extract 0 (min (s.size : Int) 300).toNat).size ≤ 300 at hcs
  generalize s.extract 0 (min (s.size : Int) 300).toNat = c at *
  go_wp2_with fail
  have hst : InclMem W w1.heap.size 0 none 0 (fun _ => 0) ((w1.alloc (.cells #[.string ⟨#[97]⟩, .string ⟨#[98]⟩, .string ⟨#[99]⟩, .string ⟨#[100]⟩, .string ⟨#[101]⟩, .string ⟨#[102]⟩, .string ⟨#[103]⟩] 9)).alloc (.cells #[.slice none 0 0, .slice none 0 0, .slice none 0 0] 27)) :=
    ⟨(hu1.alloc _).alloc _, hsz1, ag_old (by simp) (ag_new rfl), ag_new (by simp), World.ownsRow_nil _ _ _ _, fun i hi => absurd hi (by omega)⟩
  go_loopw [8] (fun i wr => ∃ (k : Nat) (va : Option Addr) (vc : Nat) (bl : Nat → Nat), k ≤ n ∧ i = .int .i64 k ∧ Hid (InclMem W w1.heap.size k va vc bl wr)) (fun i _ => n - (intOf i).toNat)
  case atStart => exact ⟨0, none, 0, fun _ => 0, Nat.zero_le _, rfl, Lib.hid hst⟩
  case round =>
    obtain ⟨k, va, vc, bl, hk, rfl, HK⟩ := hrel
    have k2 : wr.cell? ⟨w1.heap.size + 1, 2, none⟩ = some (.slice va k vc) := blk_cell HK.out.dat 2
    have f2 : wr.frozen? ⟨w1.heap.size + 1, 2, none⟩ = false := blk_free HK.out.dat 2
    have hl2 : w1.heap.size + 1 < wr.heap.size := blk_lt HK.out.dat
    have hl0 : w1.heap.size < wr.heap.size := blk_lt HK.out.names
    have n0 : wr.cell? ⟨w1.heap.size, k, none⟩ = some (.string (nameOf k)) := (blk_cell HK.out.names k).trans (names_at k (by omega))
    by_cases hlt : k < n
    · have n1 : wr.cell? ⟨w1.heap.size, k + 1, none⟩ = some (.string (nameOf (k + 1))) := (blk_cell HK.out.names (k + 1)).trans (names_at (k + 1) (by omega))
      have hW1 : IntKind.i64.wrap (((k : Nat) : Int) + 1) = (k : Int) + 1 := IntWalk.i64_in _ (by omega)
      have hW2 : 0 ≤ ((k : Nat) : Int) + 1 := by omega
      have hW4 : ((k : Nat) : Int) < 7 := by omega
      have hW5 : ((k : Nat) : Int) + 1 < 7 := by omega
      have hW3 : (((k : Nat) : Int) + 1).toNat = k + 1 := by omega
      have HRW : Hid (∀ o1 o2, ((wr.alloc o1).alloc o2).drew.ownsRow (w1.heap.size + 2) 63 2 (.slice va k vc) k (snipC bl k)) := Lib.hid (fun o1 o2 => World.ownsRow.alloc (World.ownsRow.alloc HK.out.row o1) o2)
      have HNC : Hid (∀ (o : Obj) (j : Nat) (u : Value), [Value.string (nameOf k), .slice (some ⟨wr.heap.size, 0, none⟩) 3 3][j]? = some u → ((wr.alloc o).alloc (.cells #[.string (nameOf k), .slice (some ⟨wr.heap.size, 0, none⟩) 3 3] 63)).drew.cell? ((⟨wr.heap.size + 1, 0, none⟩ : Addr).add j) = some u) := Lib.hid (fun o j u hj => by
        have hb : ((wr.alloc o).alloc (.cells #[.string (nameOf k), .slice (some ⟨wr.heap.size, 0, none⟩) 3 3] 63)).drew.heap[wr.heap.size + 1]? = some (.cells #[.string (nameOf k), .slice (some ⟨wr.heap.size, 0, none⟩) 3 3] 63 (0, 0)) := ag_new (by simp)
        rw [Addr.add_lit, Nat.zero_add, blk_cell hb]
        simpa using hj)
      go_wp2_with fail
      go_region_law (refine step_app_own rfl (.tmp 25) (.tmp 40) 25 rfl (w1.heap.size + 2) 63 i0 _ 2 40 Tryd.underlying25 hi hz0 hz1 hz2 rfl (by decide) _ k (snipC bl k) (by first | rfl | simp [Act.eval, Act.put]) (HRW.out _ _) ⟨wr.heap.size + 1, 0, none⟩ 1 1 _ (by first | rfl | simp [Act.eval, Act.put]) rfl (HNC.out _) (by simp [Value.oneCell']) (by unfold maxLen; omega) (by omega) (by (try simp); omega) ?_; intro v' w3 g1 g2 g3; obtain ⟨va', vc', rfl, ⟨pa, pb, p0, p1, p2⟩, q1, q2, q3, q4, q5, q6, q7⟩ := HK.out.grow g1 g2; have HQ := Lib.hid (And.intro q1 (And.intro q2 (And.intro q3 (And.intro q4 (And.intro q5 (And.intro q6 q7)))))); clear g1 g2 g3 q1 q2 q3 q4 q5 q6 q7)
      all_goals
        go_wp2_with fail
        go_roundw
        case rel =>
          obtain ⟨q1, q2, q3, q4, q5, q6, q7⟩ := HQ.out
          refine ⟨k + 1, va', vc', (fun i => if i = k then wr.heap.size else bl i), by omega, by go_num, Lib.hid ⟨q1, HK.out.wn, q2, q3, by rw [snipC_succ]; exact q4, fun i hi => ?_⟩⟩
          by_cases e : i = k
          · subst e; simp only [if_true]; exact ⟨q6, q7⟩
          · simp only [e, if_false]; exact q5 i (by omega)
        case measure => simp [intOf]; omega
    · have hkn : k = n := by omega
      subst hkn
      have hW4 : ((k : Nat) : Int) < 7 := by omega
      have HRW : Hid (∀ o1 o2, ((wr.alloc o1).alloc o2).drew.ownsRow (w1.heap.size + 2) 63 2 (.slice va k vc) k (snipC bl k)) := Lib.hid (fun o1 o2 => World.ownsRow.alloc (World.ownsRow.alloc HK.out.row o1) o2)
      have HNC : Hid (∀ (o : Obj) (j : Nat) (u : Value), [Value.string (nameOf k), .slice (some ⟨wr.heap.size, 0, none⟩) 1 1][j]? = some u → ((wr.alloc o).alloc (.cells #[.string (nameOf k), .slice (some ⟨wr.heap.size, 0, none⟩) 1 1] 63)).drew.cell? ((⟨wr.heap.size + 1, 0, none⟩ : Addr).add j) = some u) := Lib.hid (fun o j u hj => by
        have hb : ((wr.alloc o).alloc (.cells #[.string (nameOf k), .slice (some ⟨wr.heap.size, 0, none⟩) 1 1] 63)).drew.heap[wr.heap.size + 1]? = some (.cells #[.string (nameOf k), .slice (some ⟨wr.heap.size, 0, none⟩) 1 1] 63 (0, 0)) := ag_new (by simp)
        rw [Addr.add_lit, Nat.zero_add, blk_cell hb]
        simpa using hj)
      go_wp2_with fail
      go_region_law (refine step_app_own rfl (.tmp 44) (.tmp 53) 25 rfl (w1.heap.size + 2) 63 i0 _ 2 40 Tryd.underlying25 hi hz0 hz1 hz2 rfl (by decide) _ k (snipC bl k) (by first | rfl | simp [Act.eval, Act.put]) (HRW.out _ _) ⟨wr.heap.size + 1, 0, none⟩ 1 1 _ (by first | rfl | simp [Act.eval, Act.put]) rfl (HNC.out _) (by simp [Value.oneCell']) (by unfold maxLen; omega) (by omega) (by (try simp); omega) ?_; intro v' w3 g1 g2 g3; obtain ⟨va', vc', rfl, ⟨pa, pb, p0, p1, p2⟩, q1, q2, q3, q4, q5, q6, q7⟩ := HK.out.grow g1 g2; have HQ := Lib.hid (And.intro q1 (And.intro q2 (And.intro q3 (And.intro q4 (And.intro q5 (And.intro q6 q7)))))); clear g1 g2 g3 q1 q2 q3 q4 q5 q6 q7)
      all_goals
        clear k2 f2 n0
        go_wp2_with fail
        refine (source_any _ _ _ _).mono ?_
        rintro e w6 ⟨rfl, rfl⟩
        go_wp2_with fail
        obtain ⟨q1, q2, q3, q4, q5, q6, q7⟩ := HQ.out
        have hsz4 : (w3.setCell ⟨w1.heap.size + 1, 2, none⟩ (.slice va' (k + 1) vc')).heap.size = w3.heap.size := by simp [World.setCell]
        have ht4 := tab_upd HT.out q1 h2 (fun f => f)
        refine (icl_run (wI := w3.setCell ⟨w1.heap.size + 1, 2, none⟩ (.slice va' (k + 1) vc')) (R := w3.heap.size + 2) hn6 hcs (by repeat (first | exact Upd.refl _ _ | apply Upd.alloc0)) (icl_dat hn6 hcs q4 q5 q7) ht4 (by rw [hsz4]; omega) (by repeat (first | exact ag_new (by (try simp) <;> omega) | refine ag_old (by (try simp) <;> omega) ?_)) (by rw [hsz4]; omega) (by repeat (first | exact ag_new (by (try simp) <;> omega) | refine ag_old (by (try simp) <;> omega) ?_)) (by omega)).mono ?_
        rintro e w7 ⟨t, f, rfl, HR, HU7⟩
        have HEND := Lib.hid (q1.trans HU7.out (fun _ f => f.elim))
        clear q1 q2 q3 q4 q5 q6 q7 ht4 pa pb p0 p1 p2
        by_cases h3 : 3 ≤ k
        · obtain ⟨rfl, rfl⟩ := HR.out.1 h3
          have hge : (3 : Int) ≤ (k : Int) := by omega
          clear h3
          go_wp2_with fail
          go_ret
          exact ⟨rfl, HEND.out⟩
        · obtain ⟨rfl, ht⟩ := HR.out.2 (by omega)
          have hge : ¬ (3 : Int) ≤ (k : Int) := by omega
          have hk2 : (k : Int) ≤ 2 := by omega
          have hk2' : k ≤ 2 := by omega
          have he : (t.toList == ((ByteArray.mk #[40, 40]).extract 0 k ++ c ++ (ByteArray.mk #[41, 41]).extract 0 k).toList) = true := by rw [ht]; simp
          have HTE := Lib.hid ht
          clear h3 ht
          go_wp2_with fail
          go_quiet (fail)
          go_wp2_with fail
          go_ret
          exact ⟨rfl, HEND.out.trans (upd_drewN _ _) (fun _ f => f.elim)⟩
end Go.Proofs.YtlkaikopjjmneaaDoor

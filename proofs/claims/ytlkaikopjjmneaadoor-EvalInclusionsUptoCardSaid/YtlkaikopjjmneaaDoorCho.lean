/-
  WHAT IS PROVED HERE: the walk of the statement EvalChoice: it returns true. Conditions: the arguments lie in memory; strconv's table.
-/
import Derived.Test.YtlkaikopjjmneaaDoorCat
import Derived.Deep.DeepMust
namespace Go.Proofs.YtlkaikopjjmneaaDoor
open Go.RowKit

def tCond : ByteArray := ⟨#[116, 104, 101, 32, 99, 111, 110, 100, 105, 116, 105, 111, 110]⟩
def choF (d : Dat) (there : Bool) (text : ByteArray) (k : Nat) : List (Int × ByteArray × ByteArray) := (if there then [(3, tCond, text)] else []) ++ (d.fields.take k).filter fun f => decide (f.2.1 ≠ tCond)
theorem choF_len (d : Dat) (there : Bool) (text : ByteArray) (k : Nat) : (choF d there text k).length ≤ k + 1 := by
  unfold choF
  rw [List.length_append]
  have h1 := List.length_filter_le (fun f : Int × ByteArray × ByteArray => decide (f.2.1 ≠ tCond)) (d.fields.take k)
  rw [List.length_take] at h1
  generalize (d.fields.take k).filter (fun f : Int × ByteArray × ByteArray => decide (f.2.1 ≠ tCond)) = z at *
  cases there <;> simp <;> omega
theorem cho_field (d : Dat) (there : Bool) (text : ByteArray) (ht : text.size ≤ 500) (k : Nat) (hk : k ≤ 39) :
    fieldA { d with fields := choF d there text k } 3 tCond = if there then some text else none := by
  unfold fieldA
  have hl := choF_len d there text k
  rw [List.take_of_length_le (by show (choF d there text k).length ≤ 40; omega)]
  show Option.map _ ((choF d there text k).find? _) = _
  unfold choF
  cases there
  · rw [if_neg (by decide), if_neg (by decide), List.nil_append]
    have : ((d.fields.take k).filter fun f => decide (f.2.1 ≠ tCond)).find? (fun f => decide (f.1 = 3) && decide (f.2.1 = tCond)) = none := by
      rw [List.find?_eq_none]
      intro f hf
      have := (List.mem_filter.1 hf).2
      simp only [decide_eq_true_eq] at this
      simp [this]
    rw [this]; rfl
  · rw [if_pos rfl, if_pos rfl]
    simp only [List.singleton_append, List.find?_cons, decide_true, Bool.and_self, Option.map_some]
    congr 1
    rw [Nat.min_eq_left ht]
    exact ByteArray.extract_zero_size
/-- a condition against the list that it chooses -/
theorem choice_plain (d : Dat) (kids els : List Node) (l : List Node) (h : (if ((fieldA d 3 tCond).isSome && !((fieldA d 3 tCond).getD ⟨#[]⟩).data.toList.isEmpty) = true then kids else els) = l) (nd : Node) (hnd : nd = .mk 4 ⟨#[]⟩ tCond ⟨#[]⟩ 0 [] kids els) :
    let r := (runF (recOps d) [nd] [] 3).1
    let q := (runF (recOps d) l [] 3).1
    (r.2 = q.2 → r.1 = q.1) ∧ (r.2 ≠ q.2 → r.2 = 111) := by
  intro r q
  have ha := okay_run (recOps d) [nd] [] 3
  have hq := okay_run (recOps d) l [] 3
  have key : ∃ st : St (List ACall), st.out = [] ∧ (evD (recOps d) 3 [nd] 3 { out := [], steps := 0, src := [] }) = andThen (evD (recOps d) 3 l 3 st) (fun s => (0, s)) := by
    subst hnd
    refine ⟨{ out := [], steps := 1, src := ((recOps d).field [] 3 tCond).2 }, rfl, ?_⟩
    rw [evD_cons, if_neg (by decide)]
    have he : evNode (recOps d) (incF (recOps d) 3) (.mk 4 ⟨#[]⟩ tCond ⟨#[]⟩ 0 [] kids els) 3 { out := [], steps := 0 + 1, src := [] } = evD (recOps d) 3 l 3 { out := [], steps := 1, src := ((recOps d).field [] 3 tCond).2 } := by
      unfold evNode
      rw [if_neg (by decide), if_neg (by decide), if_neg (by decide), if_pos rfl]
      simp only []
      rw [← h, evD_eq]
      show (if ((fieldA d 3 tCond).isSome && !((fieldA d 3 tCond).getD ⟨#[]⟩).data.toList.isEmpty) = true then _ else _) = _
      split <;> rfl
    rw [he]
    unfold andThen
    split
    · rw [evD_eq, evList]
    · rfl
  obtain ⟨st, ho, hk⟩ := key
  have hs := sim_start (rec_plain d) l 3 [] st
  have hr : r = (if (evD (recOps d) 3 l 3 st).1 = 0 then ((evD (recOps d) 3 l 3 st).2.out, 0) else ([], (evD (recOps d) 3 l 3 st).1)) := by
    show (runF (recOps d) [nd] [] 3).1 = _
    unfold runF
    rw [hk]
    unfold andThen
    split <;> rename_i h0
    · simp
    · simp [h0]
  generalize evD (recOps d) 3 l 3 st = y at *
  by_cases h0 : y.1 = 0
  · rw [if_pos h0] at hr
    rcases hs with hs | ⟨s1, s2⟩
    · omega
    · rw [hr]
      refine ⟨fun _ => ?_, fun hne => absurd (h0.symm.trans s1) hne⟩
      rw [s2 h0, ho]; rfl
  · rw [if_neg h0] at hr
    rcases hs with hs | ⟨s1, _⟩
    · rw [hr]
      refine ⟨fun e => ?_, fun _ => hs⟩
      exact (hq.2.2 (by show ¬ q.2 = 0; rw [← e]; exact h0)).symm
    · rw [hr]
      exact ⟨fun e => (hq.2.2 (by show ¬ q.2 = 0; rw [← e]; exact h0)).symm, fun hne => absurd s1 hne⟩

def fCells (f : Int × ByteArray × ByteArray) : List Value := [.int .i64 f.1, .string f.2.1, .string f.2.2]
theorem fields_of_cells {mem : Addr → Option Value} {b : Nat} : ∀ (l : List (Int × ByteArray × ByteArray)) (o : Nat), (∀ j u, (l.flatMap fCells)[j]? = some u → mem ⟨b, o + j, none⟩ = some u) → (∀ f ∈ l, f.2.2.size ≤ big) → FieldsAt mem l b o
  | [], _, _, _ => by unfold FieldsAt; trivial
  | f :: r, o, h, hs => by
    unfold FieldsAt
    refine ⟨⟨h 0 _ rfl, h 1 _ rfl, h 2 _ rfl, hs f (by simp)⟩, fields_of_cells r (o + 3) (fun j u hj => ?_) (fun g hg => hs g (by simp [hg]))⟩
    rw [show o + 3 + j = o + (3 + j) by omega]
    refine h (3 + j) u ?_
    rw [List.flatMap_cons, List.getElem?_append_right (by simp [fCells])]
    simpa [fCells] using hj
theorem choF_size {d : Dat} {there : Bool} {text : ByteArray} {k : Nat} (ht : text.size ≤ big) (hf : ∀ f ∈ d.fields, f.2.2.size ≤ big) : ∀ f ∈ choF d there text k, f.2.2.size ≤ big := by
  intro f hm
  unfold choF at hm
  rcases List.mem_append.1 hm with h | h
  · cases there
    · simp at h
    · simp at h; subst h; exact ht
  · exact hf f (List.mem_of_mem_take (List.mem_filter.1 h).1)
theorem FieldsAt.size {mem : Addr → Option Value} {l : List (Int × ByteArray × ByteArray)} {b o : Nat} (h : FieldsAt mem l b o) : ∀ f ∈ l, f.2.2.size ≤ big := by
  intro f hf
  obtain ⟨i, hi, rfl⟩ := List.mem_iff_getElem.1 hf
  exact (h.get i hi).2.2.2
theorem choF_succ (d : Dat) (there : Bool) (text : ByteArray) (k : Nat) (h : k < d.fields.length) : choF d there text (k + 1) = if d.fields[k].2.1 = tCond then choF d there text k else choF d there text k ++ [d.fields[k]] := by
  unfold choF
  rw [List.take_succ_eq_append_getElem h, List.filter_append]
  by_cases e : d.fields[k].2.1 = tCond
  · rw [if_pos e]; simp [e]
  · rw [if_neg e]; simp [e]
theorem nodes_one2 {W : World} {R b : Nat} {kind : Int} {text name arg : ByteArray} {count : Int} {kids els : List Node} {kv ev : Value} (kb ko eb eo : Nat) (hb : W.heap[b]? = some (.cells (nCells kind text name arg count nilV kv ev).toArray 52 (0, 0))) (hne : b ≠ R)
    (hs : text.size ≤ big ∧ name.size ≤ big ∧ arg.size ≤ big) (h3 : SliceOf kv kids.length kb ko) (h4 : NodesAt (memOf W R) kids kb ko) (h5 : SliceOf ev els.length eb eo) (h6 : NodesAt (memOf W R) els eb eo) :
    NodesAt (memOf W R) [.mk kind text name arg count [] kids els] b 0 := by
  refine nodesAt_cons (nodeAt_of 0 0 kb ko eb eo (fun j hj => ?_) ⟨hs.1, hs.2.1, hs.2.2, Nat.zero_le _⟩ nilS strsAt_nil h3 h4 h5 h6) nodesAt_nil
  rw [Nat.zero_add, mem_blk hb hne, List.getElem?_toArray]
  exact List.getElem?_eq_getElem _
theorem info55 : (Tryd.prog.info? 55).map (fun i => (i.zero, i.size, i.bytes)) = some (some (.agg #[.int .i64 0, .string ⟨#[]⟩, .string ⟨#[]⟩]), 3, 40) := by kernel_rfl

theorem fieldsRow {w : World} {B n : Nat} {v : Value} {l : List (Int × ByteArray × ByteArray)} (h : w.ownsRow B 55 3 v n (l.flatMap fCells)) (hn : n = l.length) (hb : n ≤ big) (hs : ∀ f ∈ l, f.2.2.size ≤ big) : ∃ b, SliceOf v l.length b 0 ∧ FieldsAt (fun a => w.cell? a) l b 0 := by
  subst hn
  rcases h.2 with ⟨rfl, h0⟩ | ⟨g, cap, cur, rfl, hb2, hg, hc, _, _, _⟩
  · have : l = [] := List.length_eq_zero_iff.1 h0
    subst this
    exact ⟨0, nilS, by unfold FieldsAt; trivial⟩
  · refine ⟨g, ⟨hb, _, cap, rfl, hc, fun _ => rfl⟩, fields_of_cells l 0 (fun j u hj => ?_) hs⟩
    have := World.ownsRow.cells h (g := g) rfl j u hj
    rw [Addr.add_lit] at this
    exact this
set_option maxRecDepth 100000 in
set_option maxHeartbeats 4000000 in
theorem choice_walk {W : World} (ht : Tab W) (h2 : 2 < W.heap.size) {dF dL dS : Value} {d : Dat} (hd : DatAt (fun a => W.cell? a) d dF dL dS) (hfl : d.fields.length ≤ 1048576) (l m : List Node) (lv mv : Value) (lb lo mb mo : Nat)
    (hl1 : SliceOf lv l.length lb lo) (hl2 : NodesAt (fun a => W.cell? a) l lb lo) (hm1 : SliceOf mv m.length mb mo) (hm2 : NodesAt (fun a => W.cell? a) m mb mo) (there : Bool) (text : ByteArray) (hts : text.size ≤ 9223372036854775807) :
    Calls Tryd.prog 7 #[lv, mv, .agg #[dF, dL, dS], .bool there, .string text] W fun e w' => e = .returned (.bool true) ∧ Upd (fun _ => False) W w' := by
  obtain ⟨la, lc, rfl, _, _, _⟩ := hl1.shape
  obtain ⟨ma, mc, rfl, _, _, _⟩ := hm1.shape
  obtain ⟨fb, fo, hf1, hf2⟩ := hd.f
  obtain ⟨fa, fc, rfl, hfa, _, _⟩ := hf1.shape
  obtain ⟨W0, HW0⟩ := named (W.alloc (.cells #[.slice fa d.fields.length fc, dL, dS] 27))
  have hu0 : Upd (fun _ => False) W W0 := by rw [HW0.out]; exact upd_box1 _ _
  have hB : W0.heap[W.heap.size]? = some (.cells #[.slice fa d.fields.length fc, dL, dS] 27 (0, 0)) := by rw [HW0.out]; exact World.alloc_heap_new _ _
  have ht0 := tab_upd ht hu0 h2 (fun f => f)
  have h20 : 2 < W0.heap.size := by have := hu0.size; omega
  have hfs := hf2.size
  obtain ⟨i0, hi, hz0, hz1, hz2⟩ := info_parts info55
  have HT := Lib.hid ht
  have HT0 := Lib.hid ht0
  have HD := Lib.hid hd
  have HBB := Lib.hid hB
  have HF := Lib.hid (And.intro hf2 (And.intro hfa hfs))
  have HL := Lib.hid (And.intro hl1 hl2)
  have HM := Lib.hid (And.intro hm1 hm2)
  clear ht0 ht hd hl2 hm2 hl1 hm1 hB hf1 hf2 hfa hfs
  cases there
  all_goals
    go_enter Tryd.func7, Tryd.ntmps7
    go_wp2_with fail
    rw [← HW0.out]
    refine (sane_any _ HT0.out h20).mono ?_
    rintro e w1 ⟨rfl, hu1⟩
    have hsz1 := hu1.size
    go_wp2_with fail
    refine (cut_any _ _ (by omega) hts _).mono ?_
    rintro e w' ⟨rfl, rfl⟩
    have hcs := cut_size text 500
    change (text.extract 0 (min (text.size : Int) 500).toNat).size ≤ 500 at hcs
    generalize text.extract 0 (min (text.size : Int) 500).toNat = c at *
  · go_wp2_with fail
    go_loopw [13, 12] (fun i v wr => ∃ (k : Nat) (va : Option Addr) (n vc : Nat), k ≤ d.fields.length ∧ k ≤ 39 ∧ i = .int .i64 k ∧ v = .slice va n vc ∧ Upd (fun _ => False) W0 wr ∧ Hid (n = (choF d false c k).length) ∧
      Hid (wr.ownsRow W0.heap.size 55 3 v n ((choF d false c k).flatMap fCells))) (fun i _ _ => d.fields.length - (intOf i).toNat)
    case atStart => exact ⟨0, none, 0, 0, Nat.zero_le _, by omega, rfl, rfl, hu1, Lib.hid rfl, Lib.hid (World.ownsRow_nil _ _ _ _)⟩
    case round =>
      obtain ⟨k, va, n, vc, hk, hk39, rfl, rfl, hu, HN, HR⟩ := hrel
      have hbk := (hu.block _ (blk_lt HBB.out) (fun f => f)).trans HBB.out
      have kb0 : wr.cell? ⟨W.heap.size, 0, none⟩ = some (.slice fa d.fields.length fc) := blk_cell hbk 0
      have kb1 : wr.cell? ⟨W.heap.size, 1, none⟩ = some dL := blk_cell hbk 1
      have kb2 : wr.cell? ⟨W.heap.size, 2, none⟩ = some dS := blk_cell hbk 2
      have hlB : W.heap.size < wr.heap.size := blk_lt hbk
      have hsw := hu.size
      have hkl1 := choF_len d false c k
      have hn40 : n ≤ 40 := by rw [HN.out]; omega
      by_cases hlt : k < d.fields.length ∧ k < 39
      · have hfa2 := HF.out.2.1 (by omega)
        subst hfa2
        obtain ⟨m0, m1, m2, _⟩ := HF.out.1.get k hlt.1
        have q0 := hu.cell_some (hu0.cell_some m0 (fun f => f)) (fun f => f)
        have q1 := hu.cell_some (hu0.cell_some m1 (fun f => f)) (fun f => f)
        have q2 := hu.cell_some (hu0.cell_some m2 (fun f => f)) (fun f => f)
        have hsu := choF_succ d false c k hlt.1
        clear m0 m1 m2
        generalize d.fields[k] = f at *
        obtain ⟨fi, fn, ft⟩ := f
        simp only at q0 q1 q2 hsu
        have hk1 := hlt.1
        have hk2 := hlt.2
        by_cases hnm : fn = tCond
        · rw [if_pos hnm] at hsu
          have hb := str_eq hnm
          have hb2 : (fn.toList == [116, 104, 101, 32, 99, 111, 110, 100, 105, 116, 105, 111, 110]) = true := by rw [ByteArray.toList_eq] at hb ⊢; rw [ByteArray.toList_eq] at hb; exact hb
          have HSU := Lib.hid hsu
          have HNM := Lib.hid hnm
          clear hsu hnm hb
          go_wp2_with fail
          go_roundw
          case rel => exact ⟨k + 1, va, n, vc, by omega, by omega, by go_num, rfl, hu, by rw [HSU.out]; exact HN, by rw [HSU.out]; exact HR⟩
          case measure => simp [intOf]; omega
        · rw [if_neg hnm] at hsu
          have hb := str_ne hnm
          have hb2 : (fn.toList == [116, 104, 101, 32, 99, 111, 110, 100, 105, 116, 105, 111, 110]) = false := by rw [ByteArray.toList_eq] at hb ⊢; rw [ByteArray.toList_eq] at hb; exact hb
          have HSU := Lib.hid hsu
          have HRA : Hid (∀ o, (wr.alloc o).ownsRow W0.heap.size 55 3 (.slice va n vc) n ((choF d false c k).flatMap fCells)) := Lib.hid (fun o => World.ownsRow.alloc HR.out o)
          have HNC : Hid (∀ (j : Nat) (u : Value), (fCells (fi, fn, ft))[j]? = some u → (wr.alloc (.cells #[.int .i64 fi, .string fn, .string ft] 55)).cell? ((⟨wr.heap.size, 0, none⟩ : Addr).add j) = some u) := Lib.hid (fun j u hj => by
            rw [Addr.add_lit, Nat.zero_add, World.cell?_alloc_at _ _ _ _ (by simp)]
            simpa [fCells] using hj)
          have HU3 : Hid (∀ w3 o, (wr.alloc o).grownBy w3 (Value.slice va n vc).ownBlock → Upd (fun _ => False) W0 w3) := Lib.hid (fun w3 o hg => (hu.alloc o).grown hg (fun g hg2 => .inr (by have := (World.ownsRow.lt HR.out g hg2).1; omega)))
          have HBZ : Hid (∀ o, W0.heap.size ≤ (wr.alloc o).heap.size ∨ True) := Lib.hid (fun o => .inr trivial)
          clear hsu hnm hb
          go_wp2_with (first | (at_builtin; go_must (refine wpList_app_own rfl _ _ 23 rfl W0.heap.size 55 i0 _ 3 40 Tryd.underlying23 hi hz0 hz1 hz2 rfl (by decide) _ n _ rfl (HRA.out _) ⟨wr.heap.size, 0, none⟩ 1 1 (fCells (fi, fn, ft)) rfl rfl HNC.out (by simp [fCells, Value.oneCell']) (by unfold maxLen; omega) (by omega) (by simp; omega) ?_; intro v2 w2 g1 g2 g3; have HU := Lib.hid (HU3.out w2 _ g2); obtain ⟨g', cap', rfl⟩ := ownsRow_succ g1; have HG := Lib.hid g1; clear g1 g2 g3)))
          go_roundw
          case rel => exact ⟨k + 1, _, n + 1, cap', by omega, by omega, by go_num, rfl, HU.out, Lib.hid (by rw [HSU.out, List.length_append, ← HN.out]; rfl), Lib.hid (by rw [HSU.out, List.flatMap_append]; simpa using HG.out)⟩
          case measure => simp [intOf]; omega
      · have kf0 : wr.frozen? ⟨W.heap.size, 0, none⟩ = false := blk_free hbk 0
        have huB : Upd (fun _ => False) W (wr.setCell ⟨W.heap.size, 0, none⟩ (.slice va n vc)) := (hu0.trans hu (fun _ f => f.elim)).setCell (.inr (Nat.le_refl _)) _
        have hbB := heap_setCell_same wr W.heap.size 0 _ _ (.slice va n vc) hbk
        have hszB : (wr.setCell ⟨W.heap.size, 0, none⟩ (.slice va n vc)).heap.size = wr.heap.size := by simp [World.setCell]
        have hdB : DatAt (fun a => (wr.setCell ⟨W.heap.size, 0, none⟩ (.slice va n vc)).cell? a) { d with fields := choF d false c k } (.slice va n vc) dL dS := by
          obtain ⟨_, hl0, hs0⟩ := HD.out.mono (fun _ _ h => huB.cell_some h (fun f => f))
          have hrow : (wr.setCell ⟨W.heap.size, 0, none⟩ (.slice va n vc)).ownsRow W0.heap.size 55 3 (.slice va n vc) n ((choF d false c k).flatMap fCells) := ownsRow_upd HR.out ((Upd.refl (fun j => j = W.heap.size) wr).setCell (p := ⟨W.heap.size, 0, none⟩) (.inl rfl) _) (fun j hj e => by have := (World.ownsRow.lt HR.out j hj).1; have := blk_lt HBB.out; omega)
          obtain ⟨b, r1, r2⟩ := fieldsRow hrow HN.out (by unfold big; omega) (choF_size (by unfold big; omega) HF.out.2.2)
          exact ⟨⟨b, 0, r1, r2⟩, hl0, hs0⟩
        have htB := tab_upd HT.out huB h2 (fun f => f)
        have hlB2 : NodesAt (fun a => (wr.setCell ⟨W.heap.size, 0, none⟩ (.slice va n vc)).cell? a) l lb lo := HL.out.2.mono (fun _ _ h => huB.cell_some h (fun f => f))
        have hmB2 : NodesAt (fun a => (wr.setCell ⟨W.heap.size, 0, none⟩ (.slice va n vc)).cell? a) m mb mo := HM.out.2.mono (fun _ _ h => huB.cell_some h (fun f => f))
        have HE := Lib.hid (And.intro huB (And.intro hbB (And.intro hdB (And.intro htB (And.intro hlB2 hmB2)))))
        have HWR := Lib.hid hbk
        clear huB hbB hdB htB hlB2 hmB2 hbk
        have hc2 : ¬ k < d.fields.length ∨ (k < d.fields.length ∧ ¬ k < 39) := by omega
        clear hlt
        rcases hc2 with e1 | ⟨e1, e2⟩
        all_goals
          go_wp2_with fail
          refine (source_any _ _ _ _).mono ?_
          rintro e w4 ⟨rfl, rfl⟩
          go_wp2_with fail
          obtain ⟨huB, hbB, hdB, htB, hlB2, hmB2⟩ := HE.out
          have h2B : 2 < (wr.setCell ⟨W.heap.size, 0, none⟩ (.slice va n vc)).heap.size := by rw [hszB]; omega
          refine (run_at (W := wr.setCell ⟨W.heap.size, 0, none⟩ (.slice va n vc)) (R := wr.heap.size + 2) (by repeat (first | exact Upd.refl _ _ | apply Upd.alloc0)) hdB htB h2B (by repeat (first | exact ag_new (by (try simp) <;> omega) | refine ag_old (by (try simp) <;> omega) ?_)) (by rw [hszB]; omega) [.mk 4 ⟨#[]⟩ tCond ⟨#[]⟩ 0 [] l m] _ wr.heap.size 0 (litS 1 1 wr.heap.size (Nat.le_refl _) (by decide))
            (nodes_one2 lb lo mb mo (by repeat (first | exact ag_new (by (try simp) <;> omega) | refine ag_old (by (try simp) <;> omega) ?_)) (by omega) ⟨by decide, by decide, by decide⟩ HL.out.1 ?_ HM.out.1 ?_) 3).mono ?_
          · exact hlB2.mono (fun _ _ h => mem_later (by repeat (first | exact Upd.refl _ _ | apply Upd.alloc0)) (by rw [hszB]; omega) h)
          · exact hmB2.mono (fun _ _ h => mem_later (by repeat (first | exact Upd.refl _ _ | apply Upd.alloc0)) (by rw [hszB]; omega) h)
          rintro e w5 ⟨rfl, hu5⟩
          have hb5 := (hu5.block _ (by rw [hszB]; exact hlB) (fun f => f)).trans hbB
          have k50 : w5.cell? ⟨W.heap.size, 0, none⟩ = some (.slice va n vc) := blk_cell hb5 0
          have k51 : w5.cell? ⟨W.heap.size, 1, none⟩ = some dL := blk_cell hb5 1
          have k52 : w5.cell? ⟨W.heap.size, 2, none⟩ = some dS := blk_cell hb5 2
          have hpl := choice_plain { d with fields := choF d false c k } l m m (by rw [cho_field d false c hcs k hk39]; rfl) _ rfl
          generalize runF (recOps { d with fields := choF d false c k }) [.mk 4 ⟨#[]⟩ tCond ⟨#[]⟩ 0 [] l m] [] 3 = r1 at *
          have hs5 := hu5.size
          rw [hszB] at hs5
          clear hb5
          have HPL := Lib.hid hpl
          clear hpl kb0 kb1 kb2
          go_wp2_with fail
          refine (source_any _ _ _ _).mono ?_
          rintro e w6 ⟨rfl, rfl⟩
          go_wp2_with fail
          refine (run_arg (W := wr.setCell ⟨W.heap.size, 0, none⟩ (.slice va n vc)) (R := w5.heap.size + 1) ((hu5.alloc _).alloc _) hdB htB h2B (ag_new (by simp)) (by rw [hszB]; omega) m _ mb mo HM.out.1 hmB2 3).mono ?_
          rintro e w7 ⟨rfl, hu7⟩
          generalize runF (recOps { d with fields := choF d false c k }) m [] 3 = r2 at *
          have hend : Upd (fun _ => False) W w7 := huB.trans hu7 (fun _ f => f.elim)
          obtain ⟨⟨ra, rb⟩, rs⟩ := r1
          obtain ⟨⟨qa, qb⟩, qs⟩ := r2
          have hp1 : rb = qb → ra = qa := HPL.out.1
          have hp2 : rb ≠ qb → rb = 111 := HPL.out.2
          have HP12 := Lib.hid (And.intro hp1 hp2)
          simp only
          clear hp1 hp2 HPL k50 k51 k52
          by_cases h0 : rb = qb
          · obtain rfl := HP12.out.1 h0
            subst h0
            clear HP12
            go_wp2_with fail
            go_ret
            exact ⟨rfl, hend⟩
          · obtain rfl := HP12.out.2 h0
            have e9 : ((111 : Int) != qb) = true := by simpa using h0
            clear HP12 h0
            go_wp2_with fail
            go_ret
            exact ⟨rfl, hend⟩
  · have HNC0 : Hid (∀ (j : Nat) (u : Value), (fCells (3, tCond, c))[j]? = some u → (w1.alloc (.cells #[.int .i64 3, .string tCond, .string c] 55)).cell? ((⟨w1.heap.size, 0, none⟩ : Addr).add j) = some u) := Lib.hid (fun j u hj => by
      rw [Addr.add_lit, Nat.zero_add, World.cell?_alloc_at _ _ _ _ (by simp)]
      simpa [fCells] using hj)
    have HU0 : Hid (∀ w3 o, (w1.alloc o).grownBy w3 (Value.slice none 0 0).ownBlock → Upd (fun _ => False) W0 w3) := Lib.hid (fun w3 o hg => (hu1.alloc o).grown hg (fun g hg2 => by cases hg2))
    go_wp2_with (first | (at_builtin; go_must (refine wpList_app_own rfl _ _ 23 rfl W0.heap.size 55 i0 _ 3 40 Tryd.underlying23 hi hz0 hz1 hz2 rfl (by decide) _ 0 [] rfl (World.ownsRow_nil _ _ _ _) ⟨w1.heap.size, 0, none⟩ 1 1 (fCells (3, tCond, c)) rfl rfl HNC0.out (by simp [fCells, Value.oneCell']) (by unfold maxLen; omega) (by omega) (by simp; omega) ?_; intro v2 w2 g1 g2 g3; have HU := Lib.hid (HU0.out w2 _ g2); obtain ⟨g', cap', rfl⟩ := ownsRow_succ g1; have HG := Lib.hid g1; clear g1 g2 g3)))
    go_loopw [13, 12] (fun i v wr => ∃ (k : Nat) (va : Option Addr) (n vc : Nat), k ≤ d.fields.length ∧ k ≤ 39 ∧ i = .int .i64 k ∧ v = .slice va n vc ∧ Upd (fun _ => False) W0 wr ∧ Hid (n = (choF d true c k).length) ∧
      Hid (wr.ownsRow W0.heap.size 55 3 v n ((choF d true c k).flatMap fCells))) (fun i _ _ => d.fields.length - (intOf i).toNat)
    case atStart => exact ⟨0, _, 1, cap', Nat.zero_le _, by omega, rfl, rfl, HU.out, Lib.hid rfl, Lib.hid (by rw [show choF d true c 0 = [(3, tCond, c)] from by simp [choF]]; simpa using HG.out)⟩
    case round =>
      obtain ⟨k, va, n, vc, hk, hk39, rfl, rfl, hu, HN, HR⟩ := hrel
      have hbk := (hu.block _ (blk_lt HBB.out) (fun f => f)).trans HBB.out
      have kb0 : wr.cell? ⟨W.heap.size, 0, none⟩ = some (.slice fa d.fields.length fc) := blk_cell hbk 0
      have kb1 : wr.cell? ⟨W.heap.size, 1, none⟩ = some dL := blk_cell hbk 1
      have kb2 : wr.cell? ⟨W.heap.size, 2, none⟩ = some dS := blk_cell hbk 2
      have hlB : W.heap.size < wr.heap.size := blk_lt hbk
      have hsw := hu.size
      have hkl1 := choF_len d true c k
      have hn40 : n ≤ 40 := by rw [HN.out]; omega
      by_cases hlt : k < d.fields.length ∧ k < 39
      · have hfa2 := HF.out.2.1 (by omega)
        subst hfa2
        obtain ⟨m0, m1, m2, _⟩ := HF.out.1.get k hlt.1
        have q0 := hu.cell_some (hu0.cell_some m0 (fun f => f)) (fun f => f)
        have q1 := hu.cell_some (hu0.cell_some m1 (fun f => f)) (fun f => f)
        have q2 := hu.cell_some (hu0.cell_some m2 (fun f => f)) (fun f => f)
        have hsu := choF_succ d true c k hlt.1
        clear m0 m1 m2
        generalize d.fields[k] = f at *
        obtain ⟨fi, fn, ft⟩ := f
        simp only at q0 q1 q2 hsu
        have hk1 := hlt.1
        have hk2 := hlt.2
        by_cases hnm : fn = tCond
        · rw [if_pos hnm] at hsu
          have hb := str_eq hnm
          have hb2 : (fn.toList == [116, 104, 101, 32, 99, 111, 110, 100, 105, 116, 105, 111, 110]) = true := by rw [ByteArray.toList_eq] at hb ⊢; rw [ByteArray.toList_eq] at hb; exact hb
          have HSU := Lib.hid hsu
          have HNM := Lib.hid hnm
          clear hsu hnm hb
          go_wp2_with fail
          go_roundw
          case rel => exact ⟨k + 1, va, n, vc, by omega, by omega, by go_num, rfl, hu, by rw [HSU.out]; exact HN, by rw [HSU.out]; exact HR⟩
          case measure => simp [intOf]; omega
        · rw [if_neg hnm] at hsu
          have hb := str_ne hnm
          have hb2 : (fn.toList == [116, 104, 101, 32, 99, 111, 110, 100, 105, 116, 105, 111, 110]) = false := by rw [ByteArray.toList_eq] at hb ⊢; rw [ByteArray.toList_eq] at hb; exact hb
          have HSU := Lib.hid hsu
          have HRA : Hid (∀ o, (wr.alloc o).ownsRow W0.heap.size 55 3 (.slice va n vc) n ((choF d true c k).flatMap fCells)) := Lib.hid (fun o => World.ownsRow.alloc HR.out o)
          have HNC : Hid (∀ (j : Nat) (u : Value), (fCells (fi, fn, ft))[j]? = some u → (wr.alloc (.cells #[.int .i64 fi, .string fn, .string ft] 55)).cell? ((⟨wr.heap.size, 0, none⟩ : Addr).add j) = some u) := Lib.hid (fun j u hj => by
            rw [Addr.add_lit, Nat.zero_add, World.cell?_alloc_at _ _ _ _ (by simp)]
            simpa [fCells] using hj)
          have HU3 : Hid (∀ w3 o, (wr.alloc o).grownBy w3 (Value.slice va n vc).ownBlock → Upd (fun _ => False) W0 w3) := Lib.hid (fun w3 o hg => (hu.alloc o).grown hg (fun g hg2 => .inr (by have := (World.ownsRow.lt HR.out g hg2).1; omega)))
          have HBZ : Hid (∀ o, W0.heap.size ≤ (wr.alloc o).heap.size ∨ True) := Lib.hid (fun o => .inr trivial)
          clear hsu hnm hb
          go_wp2_with (first | (at_builtin; go_must (refine wpList_app_own rfl _ _ 23 rfl W0.heap.size 55 i0 _ 3 40 Tryd.underlying23 hi hz0 hz1 hz2 rfl (by decide) _ n _ rfl (HRA.out _) ⟨wr.heap.size, 0, none⟩ 1 1 (fCells (fi, fn, ft)) rfl rfl HNC.out (by simp [fCells, Value.oneCell']) (by unfold maxLen; omega) (by omega) (by simp; omega) ?_; intro v2 w2 g1 g2 g3; have HU := Lib.hid (HU3.out w2 _ g2); obtain ⟨g', cap', rfl⟩ := ownsRow_succ g1; have HG := Lib.hid g1; clear g1 g2 g3)))
          go_roundw
          case rel => exact ⟨k + 1, _, n + 1, cap', by omega, by omega, by go_num, rfl, HU.out, Lib.hid (by rw [HSU.out, List.length_append, ← HN.out]; rfl), Lib.hid (by rw [HSU.out, List.flatMap_append]; simpa using HG.out)⟩
          case measure => simp [intOf]; omega
      · have kf0 : wr.frozen? ⟨W.heap.size, 0, none⟩ = false := blk_free hbk 0
        have huB : Upd (fun _ => False) W (wr.setCell ⟨W.heap.size, 0, none⟩ (.slice va n vc)) := (hu0.trans hu (fun _ f => f.elim)).setCell (.inr (Nat.le_refl _)) _
        have hbB := heap_setCell_same wr W.heap.size 0 _ _ (.slice va n vc) hbk
        have hszB : (wr.setCell ⟨W.heap.size, 0, none⟩ (.slice va n vc)).heap.size = wr.heap.size := by simp [World.setCell]
        have hdB : DatAt (fun a => (wr.setCell ⟨W.heap.size, 0, none⟩ (.slice va n vc)).cell? a) { d with fields := choF d true c k } (.slice va n vc) dL dS := by
          obtain ⟨_, hl0, hs0⟩ := HD.out.mono (fun _ _ h => huB.cell_some h (fun f => f))
          have hrow : (wr.setCell ⟨W.heap.size, 0, none⟩ (.slice va n vc)).ownsRow W0.heap.size 55 3 (.slice va n vc) n ((choF d true c k).flatMap fCells) := ownsRow_upd HR.out ((Upd.refl (fun j => j = W.heap.size) wr).setCell (p := ⟨W.heap.size, 0, none⟩) (.inl rfl) _) (fun j hj e => by have := (World.ownsRow.lt HR.out j hj).1; have := blk_lt HBB.out; omega)
          obtain ⟨b, r1, r2⟩ := fieldsRow hrow HN.out (by unfold big; omega) (choF_size (by unfold big; omega) HF.out.2.2)
          exact ⟨⟨b, 0, r1, r2⟩, hl0, hs0⟩
        have htB := tab_upd HT.out huB h2 (fun f => f)
        have hlB2 : NodesAt (fun a => (wr.setCell ⟨W.heap.size, 0, none⟩ (.slice va n vc)).cell? a) l lb lo := HL.out.2.mono (fun _ _ h => huB.cell_some h (fun f => f))
        have hmB2 : NodesAt (fun a => (wr.setCell ⟨W.heap.size, 0, none⟩ (.slice va n vc)).cell? a) m mb mo := HM.out.2.mono (fun _ _ h => huB.cell_some h (fun f => f))
        have HE := Lib.hid (And.intro huB (And.intro hbB (And.intro hdB (And.intro htB (And.intro hlB2 hmB2)))))
        have HWR := Lib.hid hbk
        clear huB hbB hdB htB hlB2 hmB2 hbk
        by_cases hce : c = ⟨#[]⟩
        · subst hce
          have hc2 : ¬ k < d.fields.length ∨ (k < d.fields.length ∧ ¬ k < 39) := by omega
          clear hlt
          rcases hc2 with e1 | ⟨e1, e2⟩
          all_goals
            go_wp2_with fail
            refine (source_any _ _ _ _).mono ?_
            rintro e w4 ⟨rfl, rfl⟩
            go_wp2_with fail
            obtain ⟨huB, hbB, hdB, htB, hlB2, hmB2⟩ := HE.out
            have h2B : 2 < (wr.setCell ⟨W.heap.size, 0, none⟩ (.slice va n vc)).heap.size := by rw [hszB]; omega
            refine (run_at (W := wr.setCell ⟨W.heap.size, 0, none⟩ (.slice va n vc)) (R := wr.heap.size + 2) (by repeat (first | exact Upd.refl _ _ | apply Upd.alloc0)) hdB htB h2B (by repeat (first | exact ag_new (by (try simp) <;> omega) | refine ag_old (by (try simp) <;> omega) ?_)) (by rw [hszB]; omega) [.mk 4 ⟨#[]⟩ tCond ⟨#[]⟩ 0 [] l m] _ wr.heap.size 0 (litS 1 1 wr.heap.size (Nat.le_refl _) (by decide))
              (nodes_one2 lb lo mb mo (by repeat (first | exact ag_new (by (try simp) <;> omega) | refine ag_old (by (try simp) <;> omega) ?_)) (by omega) ⟨by decide, by decide, by decide⟩ HL.out.1 ?_ HM.out.1 ?_) 3).mono ?_
            · exact hlB2.mono (fun _ _ h => mem_later (by repeat (first | exact Upd.refl _ _ | apply Upd.alloc0)) (by rw [hszB]; omega) h)
            · exact hmB2.mono (fun _ _ h => mem_later (by repeat (first | exact Upd.refl _ _ | apply Upd.alloc0)) (by rw [hszB]; omega) h)
            rintro e w5 ⟨rfl, hu5⟩
            have hb5 := (hu5.block _ (by rw [hszB]; exact hlB) (fun f => f)).trans hbB
            have k50 : w5.cell? ⟨W.heap.size, 0, none⟩ = some (.slice va n vc) := blk_cell hb5 0
            have k51 : w5.cell? ⟨W.heap.size, 1, none⟩ = some dL := blk_cell hb5 1
            have k52 : w5.cell? ⟨W.heap.size, 2, none⟩ = some dS := blk_cell hb5 2
            have hpl := choice_plain { d with fields := choF d true ⟨#[]⟩ k } l m m (by rw [cho_field d true ⟨#[]⟩ hcs k hk39]; rfl) _ rfl
            generalize runF (recOps { d with fields := choF d true ⟨#[]⟩ k }) [.mk 4 ⟨#[]⟩ tCond ⟨#[]⟩ 0 [] l m] [] 3 = r1 at *
            have hs5 := hu5.size
            rw [hszB] at hs5
            clear hb5
            have HPL := Lib.hid hpl
            clear hpl kb0 kb1 kb2
            go_wp2_with fail
            refine (source_any _ _ _ _).mono ?_
            rintro e w6 ⟨rfl, rfl⟩
            go_wp2_with fail
            refine (run_arg (W := wr.setCell ⟨W.heap.size, 0, none⟩ (.slice va n vc)) (R := w5.heap.size + 1) ((hu5.alloc _).alloc _) hdB htB h2B (ag_new (by simp)) (by rw [hszB]; omega) m _ mb mo HM.out.1 hmB2 3).mono ?_
            rintro e w7 ⟨rfl, hu7⟩
            generalize runF (recOps { d with fields := choF d true ⟨#[]⟩ k }) m [] 3 = r2 at *
            have hend : Upd (fun _ => False) W w7 := huB.trans hu7 (fun _ f => f.elim)
            obtain ⟨⟨ra, rb⟩, rs⟩ := r1
            obtain ⟨⟨qa, qb⟩, qs⟩ := r2
            have hp1 : rb = qb → ra = qa := HPL.out.1
            have hp2 : rb ≠ qb → rb = 111 := HPL.out.2
            have HP12 := Lib.hid (And.intro hp1 hp2)
            simp only
            clear hp1 hp2 HPL k50 k51 k52
            by_cases h0 : rb = qb
            · obtain rfl := HP12.out.1 h0
              subst h0
              clear HP12
              go_wp2_with fail
              go_ret
              exact ⟨rfl, hend⟩
            · obtain rfl := HP12.out.2 h0
              have e9 : ((111 : Int) != qb) = true := by simpa using h0
              clear HP12 h0
              go_wp2_with fail
              go_ret
              exact ⟨rfl, hend⟩
        · have hne3 : c.data.toList.isEmpty = false := by
            cases hL : c.data.toList with
            | nil => exact absurd (str_ext (b := ⟨#[]⟩) hL) hce
            | cons _ _ => rfl
          have hne : c.toList.isEmpty = false := by rw [ByteArray.toList_eq]; exact hne3
          have hne2 : (c.toList == []) = false := by rw [ByteArray.toList_eq]; cases hL : c.data.toList with
            | nil => rw [hL] at hne3; simp at hne3
            | cons _ _ => rfl
          clear hce
          have hc2 : ¬ k < d.fields.length ∨ (k < d.fields.length ∧ ¬ k < 39) := by omega
          clear hlt
          rcases hc2 with e1 | ⟨e1, e2⟩
          all_goals
            go_wp2_with fail
            refine (source_any _ _ _ _).mono ?_
            rintro e w4 ⟨rfl, rfl⟩
            go_wp2_with fail
            obtain ⟨huB, hbB, hdB, htB, hlB2, hmB2⟩ := HE.out
            have h2B : 2 < (wr.setCell ⟨W.heap.size, 0, none⟩ (.slice va n vc)).heap.size := by rw [hszB]; omega
            refine (run_at (W := wr.setCell ⟨W.heap.size, 0, none⟩ (.slice va n vc)) (R := wr.heap.size + 2) (by repeat (first | exact Upd.refl _ _ | apply Upd.alloc0)) hdB htB h2B (by repeat (first | exact ag_new (by (try simp) <;> omega) | refine ag_old (by (try simp) <;> omega) ?_)) (by rw [hszB]; omega) [.mk 4 ⟨#[]⟩ tCond ⟨#[]⟩ 0 [] l m] _ wr.heap.size 0 (litS 1 1 wr.heap.size (Nat.le_refl _) (by decide))
              (nodes_one2 lb lo mb mo (by repeat (first | exact ag_new (by (try simp) <;> omega) | refine ag_old (by (try simp) <;> omega) ?_)) (by omega) ⟨by decide, by decide, by decide⟩ HL.out.1 ?_ HM.out.1 ?_) 3).mono ?_
            · exact hlB2.mono (fun _ _ h => mem_later (by repeat (first | exact Upd.refl _ _ | apply Upd.alloc0)) (by rw [hszB]; omega) h)
            · exact hmB2.mono (fun _ _ h => mem_later (by repeat (first | exact Upd.refl _ _ | apply Upd.alloc0)) (by rw [hszB]; omega) h)
            rintro e w5 ⟨rfl, hu5⟩
            have hb5 := (hu5.block _ (by rw [hszB]; exact hlB) (fun f => f)).trans hbB
            have k50 : w5.cell? ⟨W.heap.size, 0, none⟩ = some (.slice va n vc) := blk_cell hb5 0
            have k51 : w5.cell? ⟨W.heap.size, 1, none⟩ = some dL := blk_cell hb5 1
            have k52 : w5.cell? ⟨W.heap.size, 2, none⟩ = some dS := blk_cell hb5 2
            have hpl := choice_plain { d with fields := choF d true c k } l m l (by rw [cho_field d true c hcs k hk39]; simp [hne3]) _ rfl
            generalize runF (recOps { d with fields := choF d true c k }) [.mk 4 ⟨#[]⟩ tCond ⟨#[]⟩ 0 [] l m] [] 3 = r1 at *
            have hs5 := hu5.size
            rw [hszB] at hs5
            clear hb5
            have HPL := Lib.hid hpl
            clear hpl kb0 kb1 kb2
            go_wp2_with fail
            refine (source_any _ _ _ _).mono ?_
            rintro e w6 ⟨rfl, rfl⟩
            go_wp2_with fail
            refine (run_arg (W := wr.setCell ⟨W.heap.size, 0, none⟩ (.slice va n vc)) (R := w5.heap.size + 1) ((hu5.alloc _).alloc _) hdB htB h2B (ag_new (by simp)) (by rw [hszB]; omega) l _ lb lo HL.out.1 hlB2 3).mono ?_
            rintro e w7 ⟨rfl, hu7⟩
            generalize runF (recOps { d with fields := choF d true c k }) l [] 3 = r2 at *
            have hend : Upd (fun _ => False) W w7 := huB.trans hu7 (fun _ f => f.elim)
            obtain ⟨⟨ra, rb⟩, rs⟩ := r1
            obtain ⟨⟨qa, qb⟩, qs⟩ := r2
            have hp1 : rb = qb → ra = qa := HPL.out.1
            have hp2 : rb ≠ qb → rb = 111 := HPL.out.2
            have HP12 := Lib.hid (And.intro hp1 hp2)
            simp only
            clear hp1 hp2 HPL k50 k51 k52
            by_cases h0 : rb = qb
            · obtain rfl := HP12.out.1 h0
              subst h0
              clear HP12
              go_wp2_with fail
              go_ret
              exact ⟨rfl, hend⟩
            · obtain rfl := HP12.out.2 h0
              have e9 : ((111 : Int) != qb) = true := by simpa using h0
              clear HP12 h0
              go_wp2_with fail
              go_ret
              exact ⟨rfl, hend⟩
end Go.Proofs.YtlkaikopjjmneaaDoor

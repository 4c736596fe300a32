/-
  WHAT IS PROVED HERE: the walk of the recording source's List. Conditions: the sizes that it keeps.
-/
import Derived.Test.YtlkaikopjjmneaaDoorRec3
import Derived.Test.YtlkaikopjjmneaaDoorApp
import Derived.Deep.DeepMust
namespace Go.Proofs.YtlkaikopjjmneaaDoor
open Go.RowKit

theorem info3 : (Tryd.prog.info? 3).map (fun i => (i.zero, i.size, i.bytes)) = some (some (.int .i64 0), 1, 8) := by kernel_rfl
theorem ListsAt.get {mem : Addr → Option Value} : ∀ {l : List (Int × ByteArray × ByteArray × List Int)} {b o : Nat}, ListsAt mem l b o → ∀ i (h : i < l.length), mem ⟨b, o + i * 4, none⟩ = some (.int .i64 l[i].1) ∧ mem ⟨b, o + i * 4 + 1, none⟩ = some (.string l[i].2.1) ∧ mem ⟨b, o + i * 4 + 2, none⟩ = some (.string l[i].2.2.1) ∧ ∃ v, mem ⟨b, o + i * 4 + 3, none⟩ = some v ∧ IntsM mem v l[i].2.2.2
  | n :: r, b, o, hl, 0, _ => by unfold ListsAt at hl; exact hl.1
  | n :: r, b, o, hl, i + 1, h => by
    unfold ListsAt at hl
    have := ListsAt.get hl.2 i (by simpa using h)
    rwa [show o + 4 + i * 4 = o + (i + 1) * 4 by omega] at this
abbrev iv (n : Int) : Value := .int .i64 n
/-- what the recorder's List finds among the first k -/
def lstAt (d : Dat) (id : Int) (name arg : ByteArray) (n : Int) (k : Nat) : Option (List Int) := ((d.lists.take k).find? fun f => decide (f.1 = id) && decide (f.2.1 = name) && decide (f.2.2.1 = arg)).map fun f => (f.2.2.2.take 10).take n.toNat
theorem lstAt_succ (d : Dat) (id : Int) (name arg : ByteArray) (n : Int) (k : Nat) (h : k < d.lists.length) : lstAt d id name arg n (k + 1) = (lstAt d id name arg n k).or (if d.lists[k].1 = id ∧ d.lists[k].2.1 = name ∧ d.lists[k].2.2.1 = arg then some ((d.lists[k].2.2.2.take 10).take n.toNat) else none) := by
  unfold lstAt
  rw [find_take _ _ _ h]
  cases (d.lists.take k).find? _ with
  | some x => simp
  | none =>
    by_cases h1 : d.lists[k].1 = id <;> by_cases h2 : d.lists[k].2.1 = name <;> by_cases h3 : d.lists[k].2.2.1 = arg <;> simp [h1, h2, h3]
theorem take_end {l : List Int} {n : Int} {j : Nat} (h1 : j ≤ l.length) (h2 : j ≤ 10) (h3 : (j : Int) ≤ n ∨ j = 0) (h4 : ¬ (j < l.length ∧ j < 10 ∧ (j : Int) < n)) : l.take j = (l.take 10).take n.toNat := by
  rw [List.take_take]
  by_cases hl : j = l.length
  · rw [List.take_of_length_le (by omega), List.take_of_length_le (by omega)]
  · congr 1; omega
theorem ownsRow_base {w : World} {B B' : Nat} {e : TypeId} {size n : Nat} {v : Value} {xs : List Value} (h : w.ownsRow B e size v n xs) (hB : B' ≤ B) : w.ownsRow B' e size v n xs := by
  refine ⟨h.1, ?_⟩
  rcases h.2 with hn | ⟨g, cap, cur, rfl, hb, rest⟩
  · exact .inl hn
  · exact .inr ⟨g, cap, cur, rfl, by omega, rest⟩
theorem take_snoc_int (l : List Int) (j : Nat) (h : j < l.length) : (l.take (j + 1)).map iv = (l.take j).map iv ++ [iv l[j]] := by
  rw [List.take_succ_eq_append_getElem h, List.map_append]; rfl
def LRow (w : World) (B : Nat) (v : Value) (l : List Int) : Prop := w.ownsRow B 3 1 v l.length (l.map iv)
theorem ints_of_row {w : World} {B : Nat} {v : Value} {l : List Int} (h : w.ownsRow B 3 1 v l.length (l.map iv)) (hl : l.length ≤ big) : IntsAt w v l := by
  rcases h.2 with ⟨rfl, h0⟩ | ⟨g, cap, cur, rfl, hb, hg, hn, _, _, ht⟩
  · have : l = [] := List.length_eq_zero_iff.1 h0
    subst this
    exact ⟨0, 0, SliceOf.nil 0 0, fun j hj => absurd hj (by simp)⟩
  · refine ⟨g, 0, ⟨hl, some ⟨g, 0, none⟩, cap, rfl, hn, fun _ => rfl⟩, fun j hj => ?_⟩
    have := World.ownsRow.cells h (g := g) rfl j (iv l[j]) (by simp [hj])
    rwa [Addr.add_lit] at this
theorem reads_of_ints {w : World} {A : Option Addr} {n c : Nat} {l : List Int} (h : IntsAt w (.slice A n c) l) : Reads w w.heap.size 1 A l.length (l.map iv) := by
  refine ⟨by simp, fun hn => ?_⟩
  obtain ⟨b, o, ⟨_, ao, cap, e, _, h3⟩, hc⟩ := h
  injection e with e1 _ _
  subst e1
  have := h3 hn
  subst this
  refine ⟨_, rfl, World.block_lt_of_cell? w _ (hc 0 hn), fun j u hj => ?_⟩
  obtain ⟨hj1, rfl⟩ := List.getElem?_eq_some_iff.1 hj
  rw [Addr.add_lit]
  simpa using hc j (by simpa using hj1)
set_option maxRecDepth 100000 in
set_option maxHeartbeats 4000000 in
theorem rec_list {base : Nat} {mem : Addr → Option Value} {R : Nat} {dF dL dS : Value} {F : Nat → Prop} {w : World} {s : List ACall} {d : Dat} (hd : DatAt mem d dF dL dS) (h : RecI base mem R dF dL dS F w s)
    (hB : base ≤ w.heap.size) (hs : s.length ≤ 4000) (id : Int) (name arg : ByteArray) (n : Int) (_hn : name.size ≤ big) (_ha : arg.size ≤ big) :
    Calls Tryd.prog 72 #[.pointer (some ⟨R, 0, none⟩), .int .i64 id, .string name, .string arg, .int .i64 n] w (SrcPost (fun F w s => RecI base mem R dF dL dS F w s) F w
      (fun w' v => IntsAt w' v ((recOps d).list s id name arg n).1) ((recOps d).list s id name arg n).2) := by
  obtain ⟨b, o, hsl, hsn⟩ := hd.l
  obtain ⟨c0, c1, c2, f3⟩ := h.cells
  have hlR := h.lt
  obtain ⟨hbig, ao, cap, rfl, hcap, hao⟩ := hsl
  have hbig2 : d.lists.length ≤ 1099511627776 := hbig
  obtain ⟨i3, hi3, hz30, hz31, hz32⟩ := info_parts info3
  have HH := Lib.hid h
  have HSN := Lib.hid hsn
  have HAO := Lib.hid hao
  have hsees := h.sees
  clear h hsn hao hbig
  go_enter Tryd.func72, Tryd.ntmps72
  go_wp2_with fail
  go_loopw [13, 11, 12] (fun i v fv wr => ∃ (k : Nat) (ia : Option Addr) (ln ic : Nat), k ≤ d.lists.length ∧ k ≤ 40 ∧ i = .int .i64 k ∧ fv = .bool (lstAt d id name arg n k).isSome ∧ v = .slice ia ln ic ∧ Upd (fun _ => False) w wr ∧
      Hid (ln = ((lstAt d id name arg n k).getD []).length ∧ (lstAt d id name arg n k = none → ia = none ∧ ic = 0)) ∧ Hid (LRow wr w.heap.size v ((lstAt d id name arg n k).getD []))) (fun i _ _ _ => d.lists.length - (intOf i).toNat)
  case atStart => exact ⟨0, none, 0, 0, Nat.zero_le _, by omega, rfl, rfl, rfl, Upd.refl _ _, Lib.hid ⟨rfl, fun _ => ⟨rfl, rfl⟩⟩, Lib.hid (World.ownsRow_nil _ _ _ _)⟩
  case round =>
    obtain ⟨k, ia, ln, ic, hk, hk40, rfl, rfl, rfl, hu, HL, HB⟩ := hrel
    have r0 := hu.cell_some c1 (fun f => f)
    by_cases hlt : k < d.lists.length ∧ k < 40
    · obtain ⟨m0, m1, m2, v3, m3, gi⟩ := HSN.out.get k hlt.1
      have hao2 := HAO.out (by omega)
      subst hao2
      obtain ⟨ib, io, gs, gc⟩ := gi
      obtain ⟨va, vc, rfl, gao, gbig, gcap⟩ := gs.shape
      have p0 := hu.cell_some (hsees _ _ m0) (fun f => f)
      have p1 := hu.cell_some (hsees _ _ m1) (fun f => f)
      have p2 := hu.cell_some (hsees _ _ m2) (fun f => f)
      have p3 := hu.cell_some (hsees _ _ m3) (fun f => f)
      have hsu := lstAt_succ d id name arg n k hlt.1
      clear m0 m1 m2 m3 gs
      generalize d.lists[k] = f at *
      obtain ⟨fi, fn, fa, fl⟩ := f
      simp only at p0 p1 p2 p3 hsu gc gao gbig gcap
      have hkl := hlt.1
      have hk2 := hlt.2
      have mb2 : fl.length ≤ 1099511627776 := gbig
      have hB2 : ∀ o, Hid (LRow (wr.alloc o) w.heap.size (.slice ia ln ic) ((lstAt d id name arg n k).getD [])) := fun o => Lib.hid (World.ownsRow.alloc HB.out o)
      have HGC := Lib.hid gc
      have HGA := Lib.hid gao
      clear gc gao gbig
      cases hfd : lstAt d id name arg n k with
      | some g =>
        rw [hfd] at hsu hB2 HL
        have HL2 : Hid (ln = ((some g).getD []).length ∧ (some g = none → ia = none ∧ ic = 0)) := Lib.hid ⟨HL.out.1, fun h => by cases h⟩
        have hs2 : lstAt d id name arg n (k + 1) = some g := by rw [hsu]; simp
        simp only [Option.isSome_some]
        clear hsu HB hfd
        go_wp2_with fail
        go_roundw
        case rel => exact ⟨k + 1, _, _, _, by omega, by omega, by go_num, by rw [hs2]; rfl, rfl, hu.alloc _, by rw [hs2]; exact HL2, by rw [hs2]; exact hB2 _⟩
        case measure => simp [intOf]; omega
      | none =>
        rw [hfd] at hsu hB2 HL
        rw [Option.none_or] at hsu
        simp only [Option.isSome_none]
        by_cases hall : fi = id ∧ fn = name ∧ fa = arg
        · obtain ⟨h1, h2, h3⟩ := hall
          have e1 : ((fi : Int) == id) = true := by simpa using h1
          have e2 := str_eq h2
          have e3 := str_eq h3
          rw [if_pos ⟨h1, h2, h3⟩] at hsu
          have HSU := Lib.hid hsu
          obtain ⟨hl0, hnil⟩ := HL.out
          obtain ⟨rfl, rfl⟩ := hnil rfl
          obtain rfl : ln = 0 := hl0
          obtain ⟨wo, rfl⟩ : ∃ wo : World, wo = wr := ⟨_, rfl⟩
          have hup : Upd (fun _ => False) w (wo.alloc (.cells #[.int .i64 fi, .string fn, .string fa, .slice va fl.length vc] 50)) := hu.alloc _
          have HGS : Hid (∀ j (h : j < fl.length), w.cell? ⟨ib, io + j, none⟩ = some (.int .i64 fl[j])) := Lib.hid (fun j h => hsees _ _ (HGC.out j h))
          have HUP := Lib.hid hup
          clear hsu h1 h2 h3 hnil HL hB2 HB hfd hup
          go_wp2_with fail
          go_loopw [15, 11] (fun jv v wr => ∃ (j : Nat) (ja : Option Addr) (jc : Nat), j ≤ fl.length ∧ j ≤ 10 ∧ jv = .int .i64 j ∧ v = .slice ja j jc ∧ Hid ((j : Int) ≤ n ∨ j = 0) ∧
            Upd (fun _ => False) (wo.alloc (.cells #[.int .i64 fi, .string fn, .string fa, .slice va fl.length vc] 50)) wr ∧ Hid (wr.ownsRow (wo.heap.size + 1) 3 1 v j ((fl.take j).map iv))) (fun jv _ _ => fl.length - (intOf jv).toNat)
          case atStart => exact ⟨0, none, 0, Nat.zero_le _, by omega, rfl, rfl, Lib.hid (.inr rfl), Upd.refl _ _, Lib.hid (World.ownsRow_nil _ _ _ _)⟩
          case round =>
            obtain ⟨j, ja, jc, hj, hj10, rfl, rfl, HJ, hu2, HRO⟩ := hrel
            have hbx : wr.cell? ⟨wo.heap.size, 3, none⟩ = some (.slice va fl.length vc) := hu2.cell_some (World.cell?_alloc_at _ _ _ _ (by simp)) (fun f => f)
            have hsz : wo.heap.size + 1 ≤ wr.heap.size := by have := hu2.size; simpa using this
            by_cases hin : j < fl.length ∧ j < 10 ∧ (j : Int) < n
            · obtain ⟨i1, i2, i4⟩ := hin
              have hga := HGA.out (by omega)
              subst hga
              have qj := hu2.cell_some (HUP.out.cell_some (HGS.out j i1) (fun f => f)) (fun f => f)
              have HT := Lib.hid (take_snoc_int fl j i1)
              generalize fl[j] = z at *
              have hro : ∀ o, (wr.alloc o).ownsRow (wo.heap.size + 1) 3 1 (.slice ja j jc) j ((fl.take j).map iv) := fun o => World.ownsRow.alloc HRO.out o
              have HROA := Lib.hid hro
              have HNZ : Hid ((∀ (j' : Nat) (u : Value), ([iv z] : List Value)[j']? = some u → (wr.alloc (.cells #[.int .i64 z] 3)).cell? ((⟨wr.heap.size, 0, none⟩ : Addr).add j') = some u) ∧ ∀ u ∈ ([iv z] : List Value), u.oneCell' = true) := Lib.hid ⟨fun j' u hj => by
                rw [Addr.add_lit, Nat.zero_add, World.cell?_alloc_at _ _ _ _ (by simp)]
                simpa using hj, by simp [Value.oneCell']⟩
              have HUG : Hid (∀ w3 o, (wr.alloc o).grownBy w3 (Value.slice ja j jc).ownBlock → Upd (fun _ => False) (wo.alloc (.cells #[.int .i64 fi, .string fn, .string fa, .slice (some ⟨ib, io, none⟩) fl.length vc] 50)) w3) := Lib.hid (fun w3 o hg =>
                (hu2.alloc o).grown hg (fun g hg2 => .inr (by have := (World.ownsRow.lt HRO.out g hg2).1; simpa using this)))
              have hb1 : ∀ o, wo.heap.size + 1 ≤ (wr.alloc o).heap.size := fun o => by simp; omega
              have HB1 := Lib.hid hb1
              clear hro hb1
              go_wp2_with (at_builtin; refine wpList_app_own rfl _ _ 39 rfl (wo.heap.size + 1) 3 i3 _ 1 8 Tryd.underlying39 hi3 hz30 hz31 hz32 rfl (by decide) _ j _ rfl (HROA.out _) ⟨wr.heap.size, 0, none⟩ 1 1 [iv z] rfl rfl HNZ.out.1 HNZ.out.2 (by unfold maxLen; omega) (by omega) (HB1.out _) ?_; intro v' w3 g1 g2 g3; have HU3 := Lib.hid (HUG.out w3 _ g2); obtain ⟨g', cap', rfl⟩ := ownsRow_succ g1; have HG1 := Lib.hid g1; clear g1 g2 g3)
              go_roundw
              case rel => exact ⟨j + 1, some ⟨g', 0, none⟩, cap', by omega, by omega, by go_num, rfl, Lib.hid (.inl (by omega)), HU3.out, Lib.hid (by rw [HT.out]; exact HG1.out)⟩
              case measure => simp [intOf]; omega
            · have hfin : lstAt d id name arg n (k + 1) = some (fl.take j) := by rw [HSU.out, ← take_end hj hj10 HJ.out hin]
              have hpost : ∃ (k' : Nat) (ia' : Option Addr) (ln' ic' : Nat), k' ≤ d.lists.length ∧ k' ≤ 40 ∧ Value.int .i64 ((k : Int) + 1) = .int .i64 k' ∧ Value.bool true = .bool (lstAt d id name arg n k').isSome ∧ Value.slice ja j jc = .slice ia' ln' ic' ∧ Upd (fun _ => False) w wr ∧
                  Hid (ln' = ((lstAt d id name arg n k').getD []).length ∧ (lstAt d id name arg n k' = none → ia' = none ∧ ic' = 0)) ∧ Hid (LRow wr w.heap.size (.slice ja j jc) ((lstAt d id name arg n k').getD [])) := by
                have hlen : (fl.take j).length = j := by simp; omega
                refine ⟨k + 1, ja, j, jc, by omega, by omega, by go_num, by rw [hfin]; rfl, rfl, HUP.out.trans hu2 (fun _ f => f.elim), Lib.hid ⟨by rw [hfin]; exact hlen.symm, fun h => by rw [hfin] at h; cases h⟩, Lib.hid ?_⟩
                rw [hfin]
                show wr.ownsRow _ 3 1 _ (fl.take j).length ((fl.take j).map iv)
                rw [hlen]
                exact ownsRow_base HRO.out (by have := hu.size; omega)
              have HPO := Lib.hid hpost
              have hc3 : ¬ j < fl.length ∨ (j < fl.length ∧ ¬ j < 10) ∨ (j < fl.length ∧ j < 10 ∧ ¬ (j : Int) < n) := by omega
              clear hfin hpost hin
              rcases hc3 with e4 | ⟨e4, e5⟩ | ⟨e4, e5, e6⟩
              all_goals
                go_wp2_with fail
                go_roundw
                case rel => exact HPO.out
                case measure => simp [intOf]; omega
        · have hs2 : lstAt d id name arg n (k + 1) = none := by rw [hsu, if_neg hall]
          have hpost : ∀ o, ∃ (k' : Nat) (ia' : Option Addr) (ln' ic' : Nat), k' ≤ d.lists.length ∧ k' ≤ 40 ∧ Value.int .i64 ((k : Int) + 1) = .int .i64 k' ∧ Value.bool false = .bool (lstAt d id name arg n k').isSome ∧ Value.slice ia ln ic = .slice ia' ln' ic' ∧ Upd (fun _ => False) w (wr.alloc o) ∧
              Hid (ln' = ((lstAt d id name arg n k').getD []).length ∧ (lstAt d id name arg n k' = none → ia' = none ∧ ic' = 0)) ∧ Hid (LRow (wr.alloc o) w.heap.size (.slice ia ln ic) ((lstAt d id name arg n k').getD [])) := fun o =>
            ⟨k + 1, ia, ln, ic, by omega, by omega, by go_num, by rw [hs2]; rfl, rfl, hu.alloc _, by rw [hs2]; exact HL, by rw [hs2]; exact hB2 _⟩
          have HPO := Lib.hid hpost
          clear hsu HB hfd hpost hs2 hB2 HL
          have hc3 : ((fi : Int) == id) = false ∨ (((fi : Int) == id) = true ∧ (fn.toList == name.toList) = false) ∨ (((fi : Int) == id) = true ∧ (fn.toList == name.toList) = true ∧ (fa.toList == arg.toList) = false) := by
            by_cases h1 : fi = id
            · by_cases h2 : fn = name
              · exact .inr (.inr ⟨by simpa using h1, str_eq h2, str_ne fun h3 => hall ⟨h1, h2, h3⟩⟩)
              · exact .inr (.inl ⟨by simpa using h1, str_ne h2⟩)
            · exact .inl (by simpa using h1)
          clear hall
          rcases hc3 with e1 | ⟨e1, e2⟩ | ⟨e1, e2, e3⟩
          all_goals
            go_wp2_with fail
            go_roundw
            case rel => exact HPO.out _
            case measure => simp [intOf]; omega
    · have hfin : (lstAt d id name arg n k).getD [] = listA d id name arg n := by
        unfold lstAt listA
        rcases Nat.lt_or_ge k 40 with h | h
        · rw [List.take_of_length_le (by omega), List.take_of_length_le (by omega)]
        · rw [show k = 40 by omega]
      have HFI := Lib.hid hfin
      clear hfin
      obtain ⟨cv, xs, p1, p2, p3, p4⟩ := HH.out.push
      obtain ⟨ca, cc, rfl⟩ : ∃ ca cc, cv = .slice ca s.length cc := by
        rcases p2.2 with ⟨h1, h2⟩ | ⟨g, cap, cur, h1, _⟩
        · exact ⟨none, 0, by rw [h1, h2]⟩
        · exact ⟨_, cap, h1⟩
      obtain ⟨i0, hi, hz0, hz1, hz2⟩ := info_parts info41
      have hllen : ((lstAt d id name arg n k).getD []).length ≤ 10 := by
        unfold lstAt
        cases (d.lists.take k).find? _ with
        | none => simp
        | some f => simp; omega
      obtain ⟨lo, HLO⟩ := named ((lstAt d id name arg n k).getD [])
      rw [← HLO.out] at HFI HB HL hllen
      obtain ⟨rfl, _⟩ := HL.out
      have hltF := HH.out.ltF
      have hints : IntsAt wr (.slice ia lo.length ic) lo := ints_of_row HB.out (by unfold big; omega)
      have hib : ∀ k, (Value.slice ia lo.length ic).ownBlock = some k → w.heap.size ≤ k ∧ k < wr.heap.size := fun k hk => World.ownsRow.lt HB.out k hk
      obtain ⟨c, HC⟩ := named ({ a := { meth := 2, id := id, name := name, arg := arg, n := n, text := ⟨#[]⟩, ids := lo, nodes := [], ok := false }, idsV := .slice ia lo.length ic, nodesV := .slice none 0 0 } : RCall)
      have hcc : c.cells = [.int .i64 2, .int .i64 id, .string name, .string arg, .int .i64 n, .string ⟨#[]⟩, .slice ia lo.length ic, .slice none 0 0, .bool false] := by rw [HC.out]; rfl
      have HP := Lib.hid (And.intro p3 p4)
      have p1r := hu.cell_some p1 (fun f => f)
      have hua : ∀ o, Upd (fun _ => False) w (wr.alloc o) := fun o => hu.alloc o
      have hRr : R < wr.heap.size := by have := hu.size; omega
      have hcb : ∀ w3, (wr.alloc (.cells c.cells.toArray 41)).grownBy w3 (Value.slice ca s.length cc).ownBlock → (w3.cell? ⟨R, 3, none⟩ = some (.slice ca s.length cc) ∧ w3.frozen? ⟨R, 3, none⟩ = false) ∧ ∀ v', IntsAt (w3.setCell ⟨R, 3, none⟩ v') (.slice ia lo.length ic) lo := by
        intro w3 hg
        have hne : some R ≠ (Value.slice ca s.length cc).ownBlock := fun e => (p3 R e.symm).2 rfl
        have hu2 := hua (.cells c.cells.toArray 41)
        have hR : R < (wr.alloc (.cells c.cells.toArray 41)).heap.size := by have := hu2.size; omega
        refine ⟨⟨(World.cell?_of_block (hg.block _ hR hne)).trans (hu2.cell_some p1 (fun f => f)), ((World.frozen?_of_block (hg.block _ hR hne)).trans (hu2.frozen (by show R < _; omega) (fun f => f))).trans f3⟩, fun v' => ?_⟩
        have hu3 : Upd (fun k => k = R ∨ (Value.slice ca s.length cc).ownBlock = some k) wr (w3.setCell ⟨R, 3, none⟩ v') := (((Upd.refl _ wr).alloc _).grown hg (fun k e => .inl (.inr e))).setCell (.inl (.inl rfl)) v'
        refine hints.upd hu3 (fun k hk e => ?_)
        have := hib k hk
        rcases e with e | e
        · omega
        · have := hltF _ (p3 _ e).1; omega
      have hrow : ∀ o, (wr.alloc o).ownsRow base 41 9 (.slice ca s.length cc) s.length xs := fun o => ownsRow_upd p2 (hua o) (fun _ _ f => f)
      have hfin2 : ∀ v' w3, w3.ownsRow base 41 9 v' (s.length + 1) (xs ++ c.cells) → (wr.alloc (.cells c.cells.toArray 41)).grownBy w3 (Value.slice ca s.length cc).ownBlock →
          (∀ k, v'.ownBlock = some k → (Value.slice ca s.length cc).ownBlock = some k ∨ (wr.alloc (.cells c.cells.toArray 41)).heap.size ≤ k) →
          ∀ v2 w5, w5.ownsRow w3.heap.size 3 1 v2 (0 + lo.length) ([] ++ lo.map iv) → ((w3.setCell ⟨R, 3, none⟩ v').alloc (.cells #[] 3)).grownBy w5 (some w3.heap.size) →
          SrcPost (fun F w s => RecI base mem R dF (Value.slice ao d.lists.length cap) dS F w s) F w (fun w' v => IntsAt w' v ((recOps d).list s id name arg n).1) ((recOps d).list s id name arg n).snd (.returned v2) w5 := by
        intro v' w3 h1 h2 h3 v2 w5 h5 h6
        obtain ⟨q3, q4⟩ := HP.out
        obtain ⟨F', r1, r2, r3⟩ := q4 (fun _ => False) _ c v' w3 (hua _) (fun _ f => f.elim) h1 h2 h3 (by rw [HC.out]; exact hints.upd (upd_box1 wr _) (fun _ _ f => f)) (fun k hk => by rw [HC.out] at hk; have := hib k hk; simp; omega) (by rw [HC.out]; exact ⟨0, 0, SliceOf.nil _ _, by unfold NodesAt; trivial⟩)
        have hfi := HFI.out
        have hst : ((recOps d).list s id name arg n).2 = s ++ [c.a] := by
          rw [HC.out, hfi]; rfl
        have hu5 : Upd (fun _ => False) (w3.setCell ⟨R, 3, none⟩ v') w5 := (upd_box1 _ _).grown h6 (fun k e => .inr (by injection e with e; subst e; simp [World.setCell]))
        refine ⟨_, F', rfl, ?_, ?_, ?_, r3⟩
        · show IntsAt w5 v2 (listA d id name arg n)
          rw [← hfi]
          rw [Nat.zero_add, List.nil_append] at h5
          exact ints_of_row h5 (by unfold big; omega)
        · rw [hst]; exact r1.keep hu5 (fun _ f => f.elim)
        · exact (r2.mono (fun k f => .inl (f.elim (fun f => f) (fun f => f.elim)))).trans hu5 (fun _ f => f.elim)
      have hnc : ∀ j u, c.cells[j]? = some u → (wr.alloc (.cells c.cells.toArray 41)).cell? ((⟨wr.heap.size, 0, none⟩ : Addr).add j) = some u := fun j u hj => by
        rw [Addr.add_lit, Nat.zero_add, World.cell?_alloc_at _ _ _ _ (by simp)]
        simpa using hj
      have h1c : ∀ u ∈ c.cells, u.oneCell' = true := by rw [hcc]; simp [Value.oneCell']
      have hB1 : base ≤ (wr.alloc (.cells c.cells.toArray 41)).heap.size := by have := (hua (.cells c.cells.toArray 41)).size; omega
      have hcl : c.cells.length = 9 := by rw [hcc]; rfl
      rw [hcc] at hfin2 hcb hnc h1c hcl hB1
      have HCB := Lib.hid hcb
      have HF2 := Lib.hid hfin2
      have HRW := Lib.hid hrow
      have HNC := Lib.hid (And.intro hnc h1c)
      have HB1 := Lib.hid (And.intro hB1 hcl)
      have HMK : Hid (∀ (W : World) (u : Value), ((W.setCell ⟨R, 3, none⟩ u).alloc (.cells #[] 3)).ownsRow W.heap.size 3 1 (.slice (some ⟨W.heap.size, 0, none⟩) 0 0) 0 []) := Lib.hid (fun W u => ⟨rfl, .inr ⟨W.heap.size, 0, #[], rfl, Nat.le_refl _, by have := World.alloc_heap_new (W.setCell ⟨R, 3, none⟩ u) (.cells #[] 3); rwa [show (W.setCell ⟨R, 3, none⟩ u).heap.size = W.heap.size from by simp [World.setCell]] at this, Nat.le_refl _, Nat.zero_le _, rfl, rfl⟩⟩)
      clear hnc h1c hfin2 hrow hsees hcb p3 p4 p1 p2 hua hcc hB1 hcl hltF HB HL hints hib
      have hcases : (k < d.lists.length ∧ ¬ k < 40) ∨ ¬ k < d.lists.length := by omega
      rcases hcases with ⟨hk1, hk2⟩ | hk1
      all_goals
        go_wp2_with (first
          | (at_builtin; refine wpList_app_own rfl (.tmp 86) (.tmp 93) 35 rfl base 41 i0 _ 9 128 Tryd.underlying35 hi hz0 hz1 hz2 rfl (by decide) _ s.length xs rfl (HRW.out _) ⟨wr.heap.size, 0, none⟩ 1 1 _ rfl HB1.out.2 HNC.out.1 HNC.out.2 (by unfold maxLen; omega) (by omega) HB1.out.1 ?_; intro v' w3 g1 g2 g3; have HS := Lib.hid (HF2.out v' w3 g1 g2 g3); obtain ⟨⟨k1, k2⟩, k3⟩ := HCB.out w3 g2; obtain ⟨g', cap', rfl⟩ := ownsRow_succ g1; have HK3 := Lib.hid k3; clear g1 g2 g3 k3)
          | (at_builtin; go_must (refine wpList_append_any _ rfl (.tmp 97) (.tmp 98) 39 rfl _ 3 i3 _ 1 8 Tryd.underlying39 hi3 hz30 hz31 hz32 rfl (by decide) _ 0 [] rfl (HMK.out _ _) _ _ _ _ _ rfl (reads_of_ints ((HK3.out _).upd (upd_box1 _ _) (fun _ _ f => f))) ?_ ?_ ?_ ?_ ?_); (intro u hu2; obtain ⟨z, _, rfl⟩ := List.mem_map.1 hu2; rfl); (unfold maxLen; omega); omega; (simp); intro v2 w5 g1 g2 g3; have HE := Lib.hid (HS.out v2 w5 g1 g2); clear g1 g2 g3))
        go_ret
        exact HE.out
end Go.Proofs.YtlkaikopjjmneaaDoor

/-
  WHAT IS PROVED HERE: the walk of the recording source's Field. Conditions: the sizes that it keeps.
-/
import Derived.Test.YtlkaikopjjmneaaDoorRec2
import Derived.Deep.RegionLaw
import Derived.Deep.QuietTactic
import Derived.BigQuiet
namespace Go.Proofs.YtlkaikopjjmneaaDoor
open Go.RowKit

theorem FieldsAt.get {mem : Addr → Option Value} : ∀ {l : List (Int × ByteArray × ByteArray)} {b o : Nat}, FieldsAt mem l b o → ∀ i (h : i < l.length), mem ⟨b, o + i * 3, none⟩ = some (.int .i64 l[i].1) ∧ mem ⟨b, o + i * 3 + 1, none⟩ = some (.string l[i].2.1) ∧ mem ⟨b, o + i * 3 + 2, none⟩ = some (.string l[i].2.2) ∧ l[i].2.2.size ≤ big
  | n :: r, b, o, hl, 0, _ => by unfold FieldsAt at hl; exact hl.1
  | n :: r, b, o, hl, i + 1, h => by
    unfold FieldsAt at hl
    have := FieldsAt.get hl.2 i (by simpa using h)
    rwa [show o + 3 + i * 3 = o + (i + 1) * 3 by omega] at this
/-- what the recorder's Field finds among the first k -/
def fldAt (d : Dat) (id : Int) (name : ByteArray) (k : Nat) : Option ByteArray := ((d.fields.take k).find? fun f => decide (f.1 = id) && decide (f.2.1 = name)).map fun f => f.2.2.extract 0 (min f.2.2.size 500)
theorem fldAt_succ (d : Dat) (id : Int) (name : ByteArray) (k : Nat) (h : k < d.fields.length) : fldAt d id name (k + 1) = (fldAt d id name k).or (if d.fields[k].1 = id ∧ d.fields[k].2.1 = name then some (d.fields[k].2.2.extract 0 (min d.fields[k].2.2.size 500)) else none) := by
  unfold fldAt
  rw [find_take _ _ _ h]
  cases (d.fields.take k).find? _ with
  | some x => simp
  | none =>
    by_cases h1 : d.fields[k].1 = id <;> by_cases h2 : d.fields[k].2.1 = name <;> simp [h1, h2]
theorem blk_cell {w : World} {B : Nat} {cs : Array Value} {t : TypeId} {fz : Nat × Nat} (h : w.heap[B]? = some (.cells cs t fz)) (j : Nat) : w.cell? ⟨B, j, none⟩ = cs[j]? := by
  unfold World.cell?; simp only [h]; rfl
theorem blk_free {w : World} {B : Nat} {cs : Array Value} {t : TypeId} (h : w.heap[B]? = some (.cells cs t (0, 0))) (j : Nat) : w.frozen? ⟨B, j, none⟩ = false := by
  unfold World.frozen?; simp only [h]; simp
theorem blk_lt {w : World} {B : Nat} {o : Obj} (h : w.heap[B]? = some o) : B < w.heap.size := (Array.getElem?_eq_some_iff.1 h).1
theorem blk_alloc {w : World} {B : Nat} {o o2 : Obj} (h : w.heap[B]? = some o) : (w.alloc o2).heap[B]? = some o := (Below.heap_alloc _ _ _ (blk_lt h)).trans h
/-- append as one step of a region that draws its order -/
theorem step_app_own {ops : Array Oper} {o : Oper} {a : Act} {w : World} {K : Act → World → Prop} {Q : Exit → Act → World → Prop} {E : Prop} (hgd : o.guard = none) (s x : Operand) (t : TypeId)
    (ho : o.op = .call { callee := .builtin .append, args := #[s, x], argTypes := #[t, t] })
    (B e : Nat) (i : TypeInfo) (z : Value) (size bytes : Nat) (ht : Tryd.prog.underlying t = some (.slice e)) (hi : Tryd.prog.info? e = some i) (hz : i.zero = some z)
    (hsize : i.size = size) (hby : i.bytes = bytes) (hzs : z.cells.size = size) (hsz : 0 < size)
    (v : Value) (n : Nat) (xs : List Value) (hs : a.eval s = v) (hown : w.ownsRow B e size v n xs)
    (ad : Addr) (m c : Nat) (news : List Value) (hx : a.eval x = .slice (some ad) m c) (hl : news.length = m * size) (hnews : ∀ j u, news[j]? = some u → w.cell? (ad.add j) = some u) (h1 : ∀ u ∈ news, u.oneCell' = true)
    (h63 : n + m ≤ maxLen) (hbytes : (n + m) * bytes ≤ 140737488355328) (hB : B ≤ w.heap.size)
    (h : ∀ v' w', w'.ownsRow B e size v' (n + m) (xs ++ news) → w.grownBy w' v.ownBlock → (∀ k, v'.ownBlock = some k → v.ownBlock = some k ∨ w.heap.size ≤ k) → K (a.put o.dst v') w') :
    if Region.wanted o (yielded ops a.tmps) = true then Oper.wp Tryd.prog o a w K Q else E := by
  have hw : Region.wanted o (yielded ops a.tmps) = true := by simp [Region.wanted, hgd]
  rw [if_pos hw]
  obtain ⟨v', w', hr, h2, h3, h4⟩ := run_app_own w B t o.type e i z size bytes ht hi hz hsize hby hzs hsz v n xs hown ad m c news hl hnews h1 h63 hbytes hB
  unfold Oper.wp execOp
  simp only [ho, resolve, invoke, builtin, Sem.run_bind, Sem.run_pure, Result.andThen_ok, List.map_toArray, List.map_cons, List.map_nil, hs, hx, hr]
  exact h v' w' h2 h3 h4
def callCells (id : Int) (name : ByteArray) (r : Option ByteArray) : Array Value := #[.int .i64 1, .int .i64 id, .string name, .string ⟨#[]⟩, .int .i64 0, .string (r.getD ⟨#[]⟩), .slice none 0 0, .slice none 0 0, .bool r.isSome]
set_option maxRecDepth 100000 in
set_option maxHeartbeats 2000000 in
theorem rec_field {base : Nat} {mem : Addr → Option Value} {R : Nat} {dF dL dS : Value} {F : Nat → Prop} {w : World} {s : List ACall} {d : Dat} (hd : DatAt mem d dF dL dS) (h : RecI base mem R dF dL dS F w s)
    (hB : base ≤ w.heap.size) (hs : s.length ≤ 4000) (id : Int) (name : ByteArray) (_hn : name.size ≤ big) :
    Calls Tryd.prog 73 #[.pointer (some ⟨R, 0, none⟩), .int .i64 id, .string name] w (SrcPost (fun F w s => RecI base mem R dF dL dS F w s) F w
      (fun _ v => v = .tuple #[.string ((recOps d).field s id name).1.1, .bool ((recOps d).field s id name).1.2]) ((recOps d).field s id name).2) := by
  obtain ⟨b, o, hsl, hsn⟩ := hd.f
  obtain ⟨c0, c1, c2, f3⟩ := h.cells
  have hlR := h.lt
  obtain ⟨hbig, ao, cap, rfl, hcap, hao⟩ := hsl
  have hbig2 : d.fields.length ≤ 1099511627776 := hbig
  have HH := Lib.hid h
  have HSN := Lib.hid hsn
  have HAO := Lib.hid hao
  have hsees := h.sees
  clear h hsn hao hbig
  go_enter Tryd.func73, Tryd.ntmps73
  go_wp2_with fail
  go_loopw [9] (fun i wr => ∃ (k : Nat), k ≤ d.fields.length ∧ k ≤ 40 ∧ i = .int .i64 k ∧ Upd (fun _ => False) w wr ∧ Hid (wr.heap[w.heap.size]? = some (.cells (callCells id name (fldAt d id name k)) 41 (0, 0)))) (fun i _ => d.fields.length - (intOf i).toNat)
  case atStart => exact ⟨0, Nat.zero_le _, by omega, rfl, upd_box1 _ _, Lib.hid (World.alloc_heap_new _ _)⟩
  case round =>
    obtain ⟨k, hk, hk40, rfl, hu, HB⟩ := hrel
    have hlB := blk_lt HB.out
    have q5 : wr.cell? ⟨w.heap.size, 5, none⟩ = some (.string ((fldAt d id name k).getD ⟨#[]⟩)) := blk_cell HB.out 5
    have q8 : wr.cell? ⟨w.heap.size, 8, none⟩ = some (.bool (fldAt d id name k).isSome) := blk_cell HB.out 8
    have g5 : wr.frozen? ⟨w.heap.size, 5, none⟩ = false := blk_free HB.out 5
    have g8 : wr.frozen? ⟨w.heap.size, 8, none⟩ = false := blk_free HB.out 8
    have r0 := hu.cell_some c0 (fun f => f)
    by_cases hlt : k < d.fields.length ∧ k < 40
    · obtain ⟨m0, m1, m2, mb⟩ := HSN.out.get k hlt.1
      have hao2 := HAO.out (by omega)
      subst hao2
      have p0 := hu.cell_some (hsees _ _ m0) (fun f => f)
      have p1 := hu.cell_some (hsees _ _ m1) (fun f => f)
      have p2 := hu.cell_some (hsees _ _ m2) (fun f => f)
      have hsu := fldAt_succ d id name k hlt.1
      clear m0 m1 m2
      generalize d.fields[k] = f at *
      obtain ⟨fi, fn, ft⟩ := f
      simp only at p0 p1 p2 hsu mb
      have hkl := hlt.1
      have hk2 := hlt.2
      have mb2 : ft.size ≤ 1099511627776 := mb
      have hB2 : ∀ o, Hid ((wr.alloc o).heap[w.heap.size]? = some (.cells (callCells id name (fldAt d id name k)) 41 (0, 0))) := fun o => Lib.hid (blk_alloc HB.out)
      cases hfd : fldAt d id name k with
      | some g =>
        rw [hfd] at hsu q5 q8 hB2
        simp only [Option.isSome_some, Option.getD_some] at q5 q8
        have hs2 : fldAt d id name (k + 1) = some g := by rw [hsu]; simp
        clear hsu HB hfd
        go_wp2_with fail
        go_roundw
        case rel => exact ⟨k + 1, by omega, by omega, by go_num, hu.alloc _, by rw [hs2]; exact hB2 _⟩
        case measure => simp [intOf]; omega
      | none =>
        rw [hfd] at hsu q5 q8 hB2
        simp only [Option.isSome_none, Option.getD_none] at q5 q8
        rw [Option.none_or] at hsu
        by_cases hid : fi = id
        · have hidb : ((fi : Int) == id) = true := by simpa using hid
          by_cases hnm : fn = name
          · have hnb := str_eq hnm
            rw [if_pos ⟨hid, hnm⟩] at hsu
            have HSU := Lib.hid hsu
            have hfin : ∀ t o, Hid (fldAt d id name (k + 1) = some t) → Hid ((((wr.setCell ⟨w.heap.size, 5, none⟩ (.string t)).setCell ⟨w.heap.size, 8, none⟩ (.bool true)).alloc o).heap[w.heap.size]? = some (.cells (callCells id name (some t)) 41 (0, 0))) ∧
                Upd (fun _ => False) w (((wr.setCell ⟨w.heap.size, 5, none⟩ (.string t)).setCell ⟨w.heap.size, 8, none⟩ (.bool true)).alloc o) := fun t o _ => by
              have h1 := heap_setCell_same wr w.heap.size 5 _ _ (.string t) HB.out
              have h2 := heap_setCell_same _ w.heap.size 8 _ _ (.bool true) h1
              refine ⟨Lib.hid ((blk_alloc h2).trans ?_), ?_⟩
              · rw [hfd]; rfl
              · exact ((hu.setCell (.inr (Nat.le_refl _)) _).setCell (.inr (Nat.le_refl _)) _).alloc _
            have HFI := Lib.hid hfin
            have HFD := Lib.hid hfd
            clear hsu hB2 hfin hfd hnm hid
            have hs2 : fldAt d id name (k + 1) = some (ft.extract 0 (min (ft.size : Int) 500).toNat) := by rw [HSU.out, show (min (ft.size : Int) 500).toNat = min ft.size 500 from by omega]
            have HS2 := Lib.hid hs2
            clear hs2
            go_wp2_with fail
            go_roundw
            case rel => exact ⟨k + 1, by omega, by omega, by go_num, (HFI.out _ _ HS2).2, by rw [HS2.out]; exact (HFI.out _ _ HS2).1⟩
            case measure => simp [intOf]; omega
          · have hnb := str_ne hnm
            have hs2 : fldAt d id name (k + 1) = none := by rw [hsu, if_neg (fun h => hnm h.2)]
            clear hsu HB hfd hnm hid
            go_wp2_with fail
            go_roundw
            case rel => exact ⟨k + 1, by omega, by omega, by go_num, hu.alloc _, by rw [hs2]; exact hB2 _⟩
            case measure => simp [intOf]; omega
        · have hidb : ((fi : Int) == id) = false := by simpa using hid
          have hs2 : fldAt d id name (k + 1) = none := by rw [hsu, if_neg (fun h => hid h.1)]
          clear hsu HB hfd hid
          go_wp2_with fail
          go_roundw
          case rel => exact ⟨k + 1, by omega, by omega, by go_num, hu.alloc _, by rw [hs2]; exact hB2 _⟩
          case measure => simp [intOf]; omega
    · have hfin : fldAt d id name k = fieldA d id name := by
        unfold fldAt fieldA
        rcases Nat.lt_or_ge k 40 with h | h
        · rw [List.take_of_length_le (by omega), List.take_of_length_le (by omega)]
        · rw [show k = 40 by omega]
      have HFI := Lib.hid hfin
      clear hfin
      obtain ⟨cv, xs, p1, p2, p3, p4⟩ := HH.out.push
      obtain ⟨ca, cc, rfl⟩ : ∃ ca cc, cv = .slice ca s.length cc := by
        rcases p2.2 with ⟨h1, h2⟩ | ⟨g, cap, cur, h1, _⟩
        · exact ⟨none, 0, by rw [h1, h2]⟩
        · exact ⟨_, cap, h1⟩
      obtain ⟨i0, hi, hz0, hz1, hz2⟩ := info_parts info41
      obtain ⟨fo, HFO⟩ := named (fldAt d id name k)
      rw [← HFO.out] at HFI HB q5 q8
      have hltF := HH.out.ltF
      have q0 : wr.cell? ⟨w.heap.size, 0, none⟩ = some (.int .i64 1) := blk_cell HB.out 0
      have q1 : wr.cell? ⟨w.heap.size, 1, none⟩ = some (.int .i64 id) := blk_cell HB.out 1
      have q2 : wr.cell? ⟨w.heap.size, 2, none⟩ = some (.string name) := blk_cell HB.out 2
      have q3 : wr.cell? ⟨w.heap.size, 3, none⟩ = some (.string ⟨#[]⟩) := blk_cell HB.out 3
      have q4 : wr.cell? ⟨w.heap.size, 4, none⟩ = some (.int .i64 0) := blk_cell HB.out 4
      have q6 : wr.cell? ⟨w.heap.size, 6, none⟩ = some (.slice none 0 0) := blk_cell HB.out 6
      have q7 : wr.cell? ⟨w.heap.size, 7, none⟩ = some (.slice none 0 0) := blk_cell HB.out 7
      obtain ⟨c, HC⟩ := named ({ a := { meth := 1, id := id, name := name, arg := ⟨#[]⟩, n := 0, text := fo.getD ⟨#[]⟩, ids := [], nodes := [], ok := fo.isSome }, idsV := .slice none 0 0, nodesV := .slice none 0 0 } : RCall)
      have hcc : c.cells = [.int .i64 1, .int .i64 id, .string name, .string ⟨#[]⟩, .int .i64 0, .string (fo.getD ⟨#[]⟩), .slice none 0 0, .slice none 0 0, .bool fo.isSome] := by rw [HC.out]; rfl
      have HP := Lib.hid (And.intro p3 p4)
      have p1r := hu.cell_some p1 (fun f => f)
      have hua : ∀ o, Upd (fun _ => False) w (wr.alloc o).drew := fun o => hu.trans (upd_box wr o) (fun _ f => f.elim)
      have hcb : ∀ w3, (wr.alloc (.cells c.cells.toArray 41)).drew.grownBy w3 (Value.slice ca s.length cc).ownBlock → (w3.cell? ⟨R, 3, none⟩ = some (.slice ca s.length cc) ∧ w3.frozen? ⟨R, 3, none⟩ = false) ∧ w3.cell? ⟨w.heap.size, 5, none⟩ = some (.string (fo.getD ⟨#[]⟩)) ∧ w3.cell? ⟨w.heap.size, 8, none⟩ = some (.bool fo.isSome) := by
        intro w3 hg
        have hne : some R ≠ (Value.slice ca s.length cc).ownBlock := fun e => (p3 R e.symm).2 rfl
        have hne2 : some w.heap.size ≠ (Value.slice ca s.length cc).ownBlock := fun e => by have := hltF _ (p3 _ e.symm).1; omega
        have hu2 := hua (.cells c.cells.toArray 41)
        have hR : R < (wr.alloc (.cells c.cells.toArray 41)).drew.heap.size := by have := hu2.size; omega
        have hB3 : w.heap.size < (wr.alloc (.cells c.cells.toArray 41)).drew.heap.size := by have := (upd_box wr (.cells c.cells.toArray 41)).size; omega
        have hw : (wr.alloc (.cells c.cells.toArray 41)).drew.heap[w.heap.size]? = some (.cells (callCells id name fo) 41 (0, 0)) := blk_alloc HB.out
        refine ⟨⟨(World.cell?_of_block (hg.block _ hR hne)).trans (hu2.cell_some p1 (fun f => f)), ((World.frozen?_of_block (hg.block _ hR hne)).trans (hu2.frozen (by show R < _; omega) (fun f => f))).trans f3⟩, ?_, ?_⟩
        · exact (World.cell?_of_block (hg.block _ hB3 hne2)).trans (blk_cell hw 5)
        · exact (World.cell?_of_block (hg.block _ hB3 hne2)).trans (blk_cell hw 8)
      have hrow : ∀ o, (wr.alloc o).drew.ownsRow base 41 9 (.slice ca s.length cc) s.length xs := fun o => ownsRow_upd p2 (hua o) (fun _ _ f => f)
      have hfin2 : ∀ v' w3, w3.ownsRow base 41 9 v' (s.length + 1) (xs ++ c.cells) → (wr.alloc (.cells c.cells.toArray 41)).drew.grownBy w3 (Value.slice ca s.length cc).ownBlock →
          (∀ k, v'.ownBlock = some k → (Value.slice ca s.length cc).ownBlock = some k ∨ (wr.alloc (.cells c.cells.toArray 41)).drew.heap.size ≤ k) →
          ∀ n, SrcPost (fun F w s => RecI base mem R (Value.slice ao d.fields.length cap) dL dS F w s) F w (fun _ v => v = .tuple #[.string ((recOps d).field s id name).1.1, .bool ((recOps d).field s id name).1.2]) ((recOps d).field s id name).snd
            (.returned (.tuple #[.string (fo.getD ⟨#[]⟩), .bool fo.isSome])) ((w3.setCell ⟨R, 3, none⟩ v').drewN n) := by
        intro v' w3 h1 h2 h3 n
        obtain ⟨q3, q4⟩ := HP.out
        obtain ⟨F', r1, r2, r3⟩ := q4 (fun _ => False) _ c v' w3 (hua _) (fun _ f => f.elim) h1 h2 h3 (by rw [HC.out]; exact ⟨0, 0, SliceOf.nil _ _, fun j hj => absurd hj (by simp)⟩) (fun k hk => by rw [HC.out] at hk; cases hk) (by rw [HC.out]; exact ⟨0, 0, SliceOf.nil _ _, by unfold NodesAt; trivial⟩)
        have hfi := HFI.out
        have hst : ((recOps d).field s id name).2 = s ++ [c.a] := by
          rw [HC.out, hfi]; rfl
        refine ⟨_, F', rfl, ?_, ?_, ?_, r3⟩
        · rw [hfi]; rfl
        · rw [hst]; exact r1.keep (upd_drewN _ _) (fun _ f => f.elim)
        · exact (r2.mono (fun k f => .inl (f.elim (fun f => f) (fun f => f.elim)))).trans (upd_drewN _ _) (fun _ f => f.elim)
      have hnc : ∀ j u, c.cells[j]? = some u → (wr.alloc (.cells c.cells.toArray 41)).drew.cell? ((⟨wr.heap.size, 0, none⟩ : Addr).add j) = some u := fun j u hj => by
        rw [Addr.add_lit, Nat.zero_add]
        show (wr.alloc (.cells c.cells.toArray 41)).cell? _ = _
        rw [World.cell?_alloc_at _ _ _ _ (by simp)]
        simpa using hj
      have h1c : ∀ u ∈ c.cells, u.oneCell' = true := by rw [hcc]; simp [Value.oneCell']
      have hB1 : base ≤ (wr.alloc (.cells c.cells.toArray 41)).drew.heap.size := by have := (hua (.cells c.cells.toArray 41)).size; omega
      have hcl : c.cells.length = 9 := by rw [hcc]; rfl
      rw [hcc] at hfin2 hcb hnc h1c hcl hB1
      have HCB := Lib.hid hcb
      have HF2 := Lib.hid hfin2
      have HRW := Lib.hid hrow
      have HNC := Lib.hid (And.intro hnc h1c)
      have HB1 := Lib.hid (And.intro hB1 hcl)
      clear hnc h1c hfin2 hrow hsees hcb p3 p4 p1 p2 hua hcc hB1 hcl hltF HB
      have hRr : R < wr.heap.size := by have := hu.size; omega
      have hcases : (k < d.fields.length ∧ ¬ k < 40) ∨ ¬ k < d.fields.length := by omega
      rcases hcases with ⟨hk1, hk2⟩ | hk1
      all_goals
        go_wp2_with fail
        go_region_law (refine step_app_own rfl (.tmp 64) (.tmp 66) 35 rfl base 41 i0 _ 9 128 Tryd.underlying35 hi hz0 hz1 hz2 rfl (by decide) _ s.length xs (by first | rfl | simp [Act.eval, Act.put]) (HRW.out _) ⟨wr.heap.size, 0, none⟩ 1 1 _ (by first | rfl | simp [Act.eval, Act.put]) HB1.out.2 HNC.out.1 HNC.out.2 (by unfold maxLen; omega) (by omega) HB1.out.1 ?_; intro v' w3 g1 g2 g3; have HS := Lib.hid (HF2.out v' w3 g1 g2 g3); obtain ⟨⟨k1, k2⟩, k3, k4⟩ := HCB.out w3 g2; obtain ⟨g', cap', rfl⟩ := ownsRow_succ g1; clear g1 g2 g3)
        all_goals
          go_wp2_with fail
          go_quiet (fail)
          go_wp2_with fail
          go_ret2
          exact HS.out _
end Go.Proofs.YtlkaikopjjmneaaDoor

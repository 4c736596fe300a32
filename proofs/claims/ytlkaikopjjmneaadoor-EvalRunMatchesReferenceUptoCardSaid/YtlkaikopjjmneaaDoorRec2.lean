/-
  WHAT IS PROVED HERE: the walk of the recording source's Include. Conditions: the sizes that it keeps.
-/
import Derived.Test.YtlkaikopjjmneaaDoorRec1
namespace Go.Proofs.YtlkaikopjjmneaaDoor
open Go.RowKit

theorem SliceOf.nil (b o : Nat) : SliceOf (.slice none 0 0) 0 b o := ⟨Nat.zero_le _, none, 0, rfl, Nat.le_refl _, fun h => absurd h (by omega)⟩
theorem info41 : (Tryd.prog.info? 41).map (fun i => (i.zero, i.size, i.bytes)) = some (some (.agg #[.int .i64 0, .int .i64 0, .string ⟨#[]⟩, .string ⟨#[]⟩, .int .i64 0, .string ⟨#[]⟩, .slice none 0 0, .slice none 0 0, .bool false]), 9, 128) := by kernel_rfl
theorem SnipsAt.get {mem : Addr → Option Value} : ∀ {l : List (ByteArray × List Node)} {b o : Nat}, SnipsAt mem l b o → ∀ i (h : i < l.length), mem ⟨b, o + i * 2, none⟩ = some (.string l[i].1) ∧ ∃ v b' o', mem ⟨b, o + i * 2 + 1, none⟩ = some v ∧ SliceOf v l[i].2.length b' o' ∧ NodesAt mem l[i].2 b' o'
  | n :: r, b, o, hl, 0, _ => by unfold SnipsAt at hl; exact hl.1
  | n :: r, b, o, hl, i + 1, h => by
    unfold SnipsAt at hl
    have := SnipsAt.get hl.2 i (by simpa using h)
    rwa [show o + 2 + i * 2 = o + (i + 1) * 2 by omega] at this
theorem find_take {α : Type} (p : α → Bool) (l : List α) (k : Nat) (h : k < l.length) : (l.take (k + 1)).find? p = ((l.take k).find? p).or (if p l[k] then some l[k] else none) := by
  rw [List.take_succ_eq_append_getElem h, List.find?_append]
  congr 1
  simp [List.find?]
  cases p l[k] <;> rfl

theorem str_eq {a b : ByteArray} (h : a = b) : (a.toList == b.toList) = true := by subst h; simp
theorem str_ne {a b : ByteArray} (h : a ≠ b) : (a.toList == b.toList) = false := by
  rw [beq_eq_false_iff_ne]
  intro e
  rw [ByteArray.toList_eq, ByteArray.toList_eq] at e
  exact h (ByteArray.ext (Array.toList_inj.1 e))

/-- what the recorder's Include finds among the first k -/
def snipAt (d : Dat) (name : ByteArray) (k : Nat) : Option (ByteArray × List Node) := (d.snips.take k).find? fun f => decide (f.1 = name)
theorem snipAt_succ (d : Dat) (name : ByteArray) (k : Nat) (h : k < d.snips.length) : snipAt d name (k + 1) = (snipAt d name k).or (if d.snips[k].1 = name then some d.snips[k] else none) := by
  unfold snipAt
  rw [find_take _ _ _ h]
  simp
/-- what Include gives -/
def InclRes (mem : Addr → Option Value) (r : List Node × Bool) (v : Value) : Prop := ∃ lv b o, v = .tuple #[lv, .bool r.2] ∧ SliceOf lv r.1.length b o ∧ NodesAt mem r.1 b o
set_option maxRecDepth 100000 in
set_option maxHeartbeats 1000000 in
theorem rec_incl {base : Nat} {mem : Addr → Option Value} {R : Nat} {dF dL dS : Value} {F : Nat → Prop} {w : World} {s : List ACall} {d : Dat} (hd : DatAt mem d dF dL dS) (h : RecI base mem R dF dL dS F w s)
    (hB : base ≤ w.heap.size) (hs : s.length ≤ 4000) (name : ByteArray) (_hn : name.size ≤ big) :
    Calls Tryd.prog 80 #[.pointer (some ⟨R, 0, none⟩), .string name] w (SrcPost (fun F w s => RecI base mem R dF dL dS F w s) F w
      (fun _ v => InclRes mem ((recOps d).incl s name).1 v) ((recOps d).incl s name).2) := by
  obtain ⟨b, o, hsl, hsn⟩ := hd.s
  obtain ⟨c0, c1, c2, f3⟩ := h.cells
  have hlR := h.lt
  obtain ⟨hbig, ao, cap, rfl, hcap, hao⟩ := hsl
  have hbig2 : d.snips.length ≤ 1099511627776 := hbig
  have HH := Lib.hid h
  have HSN := Lib.hid hsn
  have HAO := Lib.hid hao
  have hsees := h.sees
  clear h hsn hao hbig
  go_enter Tryd.func80, Tryd.ntmps80
  go_wp2_with fail
  go_loopw [8, 6, 7] (fun i nv fv wr => ∃ (k : Nat) (ln : Nat) (na : Option Addr) (nc : Nat), k ≤ d.snips.length ∧ k ≤ 20 ∧ i = .int .i64 k ∧ wr = w ∧ fv = .bool (snipAt d name k).isSome ∧ nv = .slice na ln nc ∧
      Hid (∃ b' o', SliceOf nv (((snipAt d name k).map (·.2)).getD []).length b' o' ∧ NodesAt mem (((snipAt d name k).map (·.2)).getD []) b' o')) (fun i _ _ _ => d.snips.length - (intOf i).toNat)
  case atStart => exact ⟨0, 0, none, 0, Nat.zero_le _, by omega, rfl, rfl, rfl, rfl, Lib.hid ⟨0, 0, SliceOf.nil _ _, by unfold NodesAt; trivial⟩⟩
  case round =>
    obtain ⟨k, ln, na, nc, hk, hk20, rfl, rfl, rfl, rfl, hnv⟩ := hrel
    by_cases hlt : k < d.snips.length ∧ k < 20
    · obtain ⟨m0, v, b', o', m1, g1, g2⟩ := HSN.out.get k hlt.1
      have hao2 := HAO.out (by omega)
      subst hao2
      have q0 := hsees _ _ m0
      have q1 := hsees _ _ m1
      obtain ⟨va, vc, rfl, _⟩ := g1.2
      have hsu := snipAt_succ d name k hlt.1
      have HG := Lib.hid (And.intro g1 g2)
      clear g1 g2
      generalize d.snips[k] = f at *
      have hkl := hlt.1
      have hk2 := hlt.2
      cases hfd : snipAt d name k with
      | some g =>
        rw [hfd] at hnv hsu
        simp only [Option.isSome_some]
        have hs2 : snipAt d name (k + 1) = some g := by rw [hsu]; simp
        clear hsu
        go_wp2_with fail
        go_roundw
        case rel => exact ⟨k + 1, ln, na, nc, by omega, by omega, by go_num, by trivial, by rw [hs2]; first | rfl | trivial, rfl, by rw [hs2]; exact hnv⟩
        case measure => simp [intOf]; omega
      | none =>
        rw [hfd] at hnv hsu
        simp only [Option.isSome_none]
        by_cases hnm : f.1 = name
        · have hs2 : snipAt d name (k + 1) = some f := by rw [hsu]; simp [hnm]
          have hb := str_eq hnm
          clear hsu
          go_wp2_with fail
          go_roundw
          case rel => exact ⟨k + 1, _, _, _, by omega, by omega, by go_num, by trivial, by rw [hs2]; first | rfl | trivial, rfl, by rw [hs2]; exact Lib.hid ⟨_, _, HG.out⟩⟩
          case measure => simp [intOf]; omega
        · have hs2 : snipAt d name (k + 1) = none := by rw [hsu]; simp [hnm]
          have hb := str_ne hnm
          clear hsu
          go_wp2_with fail
          go_roundw
          case rel => exact ⟨k + 1, _, _, _, by omega, by omega, by go_num, by trivial, by rw [hs2]; first | rfl | trivial, rfl, by rw [hs2]; exact hnv⟩
          case measure => simp [intOf]; omega
    · have hfin : snipAt d name k = (d.snips.take 20).find? fun f => decide (f.1 = name) := by
        unfold snipAt
        rcases Nat.lt_or_ge k 20 with h | h
        · rw [List.take_of_length_le (by omega), List.take_of_length_le (by omega)]
        · rw [show k = 20 by omega]
      have HFI : Hid (inclA d name = (snipAt d name k).map (·.2)) := Lib.hid (by rw [hfin]; rfl)
      clear hfin
      obtain ⟨cv, xs, p1, p2, p3, p4⟩ := HH.out.push
      obtain ⟨ca, cc, rfl⟩ : ∃ ca cc, cv = .slice ca s.length cc := by
        rcases p2.2 with ⟨h1, h2⟩ | ⟨g, cap, cur, h1, _⟩
        · exact ⟨none, 0, by rw [h1, h2]⟩
        · exact ⟨_, cap, h1⟩
      obtain ⟨i0, hi, hz0, hz1, hz2⟩ := info_parts info41
      obtain ⟨fo, HFO⟩ := named (snipAt d name k)
      rw [← HFO.out] at hnv HFI
      rw [← HFO.out]
      obtain ⟨c, HC⟩ := named ({ a := { meth := 3, id := 0, name := name, arg := ⟨#[]⟩, n := 0, text := ⟨#[]⟩, ids := [], nodes := ((fo.map (·.2)).getD []), ok := fo.isSome }, idsV := .slice none 0 0, nodesV := .slice na ln nc } : RCall)
      have hcc : c.cells = [.int .i64 3, .int .i64 0, .string name, .string ⟨#[]⟩, .int .i64 0, .string ⟨#[]⟩, .slice none 0 0, .slice na ln nc, .bool fo.isSome] := by rw [HC.out]; rfl
      have HP := Lib.hid (And.intro p3 p4)
      have hcb : ∀ w3 o, (wr.alloc o).grownBy w3 (Value.slice ca s.length cc).ownBlock → w3.cell? ⟨R, 3, none⟩ = some (.slice ca s.length cc) ∧ w3.frozen? ⟨R, 3, none⟩ = false := by
        intro w3 o hg
        have hne : some R ≠ (Value.slice ca s.length cc).ownBlock := fun e => (p3 R e.symm).2 rfl
        have hR : R < (wr.alloc o).heap.size := by simp; omega
        have hu := upd_box1 wr o
        exact ⟨(World.cell?_of_block (hg.block _ hR hne)).trans (hu.cell_some p1 (fun f => f)), ((World.frozen?_of_block (hg.block _ hR hne)).trans (hu.frozen (by show R < _; omega) (fun f => f))).trans f3⟩
      have HCB := Lib.hid hcb
      clear hcb p3 p4
      have hrow := fun o => World.ownsRow.alloc p2 o
      have hfin2 : ∀ v' w3, w3.ownsRow base 41 9 v' (s.length + 1) (xs ++ c.cells) → (wr.alloc (.cells c.cells.toArray 41)).grownBy w3 (Value.slice ca s.length cc).ownBlock →
          (∀ k, v'.ownBlock = some k → (Value.slice ca s.length cc).ownBlock = some k ∨ (wr.alloc (.cells c.cells.toArray 41)).heap.size ≤ k) →
          SrcPost (fun F w s => RecI base mem R dF dL (Value.slice ao d.snips.length cap) F w s) F wr (fun _ v => InclRes mem ((recOps d).incl s name).1 v) ((recOps d).incl s name).snd
            (.returned (.tuple #[.slice na ln nc, .bool fo.isSome])) (w3.setCell ⟨R, 3, none⟩ v') := by
        intro v' w3 h1 h2 h3
        obtain ⟨q3, q4⟩ := HP.out
        obtain ⟨b', o', hv1, hv2⟩ := hnv.out
        obtain ⟨F', r1, r2, r3⟩ := q4 (fun _ => False) _ c v' w3 (upd_box1 wr _) (fun _ f => f.elim) h1 h2 h3 (by rw [HC.out]; exact ⟨0, 0, SliceOf.nil _ _, fun j hj => absurd hj (by simp)⟩) (fun k hk => by rw [HC.out] at hk; cases hk) (by rw [HC.out]; exact ⟨b', o', hv1, hv2⟩)
        have hfi := HFI.out
        refine ⟨_, F', rfl, ⟨.slice na ln nc, b', o', ?_, ?_, ?_⟩, ?_, r2.mono (fun k f => .inl (f.elim id (fun f => f.elim))), r3⟩
        · show _ = Value.tuple #[_, .bool (inclA d name).isSome]
          rw [hfi]
          cases fo <;> rfl
        · show SliceOf _ ((inclA d name).getD []).length b' o'
          rw [hfi]; exact hv1
        · show NodesAt mem ((inclA d name).getD []) b' o'
          rw [hfi]; exact hv2
        · have : ((recOps d).incl s name).2 = s ++ [c.a] := by
            rw [HC.out, ← hfi]
            show s ++ [_] = _
            rw [hfi]
            cases fo <;> rfl
          rw [this]; exact r1
      have HF2 := Lib.hid hfin2
      have HRW := Lib.hid hrow
      have hnc : ∀ j u, c.cells[j]? = some u → (wr.alloc (.cells c.cells.toArray 41)).cell? ((⟨wr.heap.size, 0, none⟩ : Addr).add j) = some u := fun j u hj => by
        rw [Addr.add_lit, Nat.zero_add, World.cell?_alloc_at _ _ _ _ (by simp)]
        simpa using hj
      have h1c : ∀ u ∈ c.cells, u.oneCell' = true := by rw [hcc]; simp [Value.oneCell']
      have HNC := Lib.hid (And.intro hnc h1c)
      rw [hcc] at hnc
      clear hnc h1c hfin2 hrow hsees
      have hcases : (k < d.snips.length ∧ ¬ k < 20) ∨ ¬ k < d.snips.length := by omega
      have hB1 : base ≤ (wr.alloc (.cells c.cells.toArray 41)).heap.size := by simp; omega
      have hcl : c.cells.length = 9 := by rw [hcc]; rfl
      rcases hcases with ⟨hk1, hk2⟩ | hk1
      all_goals go_wp2_with (at_builtin; simp only [← hcc]; refine wpList_app_own rfl _ _ 35 rfl base 41 i0 _ 9 128 Tryd.underlying35 hi hz0 hz1 hz2 rfl (by decide) _ s.length xs rfl (HRW.out _) ⟨wr.heap.size, 0, none⟩ 1 1 c.cells rfl hcl HNC.out.1 HNC.out.2 (by unfold maxLen; omega) (by omega) hB1 ?_; intro v' w3 g1 g2 g3; have HS := Lib.hid (HF2.out v' w3 g1 g2 g3); obtain ⟨k1, k2⟩ := HCB.out w3 _ g2; obtain ⟨g', cap', rfl⟩ := ownsRow_succ g1; clear g1 g2 g3)
      all_goals (go_ret2; exact HS.out)
end Go.Proofs.YtlkaikopjjmneaaDoor

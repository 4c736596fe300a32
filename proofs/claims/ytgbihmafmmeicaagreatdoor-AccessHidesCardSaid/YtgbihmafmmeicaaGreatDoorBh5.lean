/-
  WHAT IS PROVED HERE: 21 texts joined, each with its own head: what the walks of the program give. Conditions: each at its place.
-/
import Derived.Test.YtgbihmafmmeicaaGreatDoorBh4
import Derived.Laws.MakeOwn
namespace Go.Proofs.YtgbihmafmmeicaaGreatDoor
open Go.RowKit Mg Go.Shelf Go.Maps Go.Sort

def SeesN (D : List Fct) (cls t : Int) (n : Nat) : Prop := ∃ L, (0 ≤ cls → cls < 4 → OutIs (digF D) cls t L) ∧ (visOf D cls t L).length = n
def NoTie (D : List Fct) (cls : Int) (n : Nat) (E : List Int) : Prop := FSame ∨ ∀ t ∈ E, ¬ SeesN D cls t n
structure NextM (W : World) (sb db cb eb d B : Nat) (gs : List FctE) (cls : Int) (sv : Value) (ss : List FctE) (ev : Value) (E : List Int) : Prop where
  sb : W.heap[sb]? = some (.cells #[sv] 25 (0, 0))
  db : W.heap[db]? = some (.cells #[.pointer (some ⟨d, 0, none⟩)] 63 (0, 0))
  cb : W.heap[cb]? = some (.cells #[.int .i64 cls] 3 (0, 0))
  eb : W.heap[eb]? = some (.cells #[ev] 30 (0, 0))
  dig : DigAt W B d gs
  row : EsM (fun a => W.cell? a) sv ss
  ends : IntsM (fun a => W.cell? a) ev E
theorem NextM.bel {W W' : World} {sb db cb eb d B : Nat} {gs : List FctE} {cls : Int} {sv : Value} {ss : List FctE} {ev : Value} {E : List Int} (h : NextM W sb db cb eb d B gs cls sv ss ev E) (hb : Below W.heap.size W W') : NextM W' sb db cb eb d B gs cls sv ss ev E :=
  ⟨(hb.block _ (Go.Proofs.YtgbihmafmmeicaaGreatDoor.hlt h.sb)).trans h.sb, (hb.block _ (Go.Proofs.YtgbihmafmmeicaaGreatDoor.hlt h.db)).trans h.db, (hb.block _ (Go.Proofs.YtgbihmafmmeicaaGreatDoor.hlt h.cb)).trans h.cb, (hb.block _ (Go.Proofs.YtgbihmafmmeicaaGreatDoor.hlt h.eb)).trans h.eb, h.dig.bel hb, h.row.mono (sees_bel hb), h.ends.mono (sees_bel hb)⟩
set_option maxRecDepth 100000 in
set_option maxHeartbeats 2000000 in
theorem next1_any {mem : Addr → Option Value} {W : World} {sb db cb eb d B : Nat} {gs : List FctE} {cls : Int} {sv : Value} {ss : List FctE} {ev : Value} {E : List Int} (h : NextM W sb db cb eb d B gs cls sv ss ev E) (hok : ∀ e ∈ gs, e.ok mem ∧ validF e.f = true) (hs : Sees mem W) (hlen : gs.length ≤ 1000) (hT : NoTie (gs.map FctE.f) cls ss.length E) (i : Nat) (hi : i < E.length) :
    Calls Tryz.prog 48 #[.int .i64 i, .pointer (some ⟨sb, 0, none⟩), .pointer (some ⟨db, 0, none⟩), .pointer (some ⟨cb, 0, none⟩), .pointer (some ⟨eb, 0, none⟩)] W (RetB (fun b => b = false → SeesN (gs.map FctE.f) cls E[i] ss.length) W) := by
  obtain ⟨sa, sc, _, _, rfl, _, _, _⟩ := h.row.open_
  obtain ⟨ea, ec, eg, eo, rfl, hec, hem, hea, hei⟩ := h.ends.open_ (fun a u h => h)
  unfold maxLen at hem
  obtain rfl := hea (by omega)
  have H := Lib.hid h
  have HOK := Lib.hid hok
  have HS := Lib.hid hs
  have HT := Lib.hid hT
  have hii := hei i hi
  obtain ⟨t, ht⟩ : ∃ t, t = E[i] := ⟨_, rfl⟩
  rw [← ht] at hii ⊢
  have HTE : Hid (t ∈ E) := Lib.hid (by rw [ht]; exact List.getElem_mem hi)
  have k0 := blk_cell h.sb 0
  have k1 := blk_cell h.db 0
  have k2 := blk_cell h.cb 0
  have k3 := blk_cell h.eb 0
  simp only [List.getElem?_toArray, List.getElem?_cons_zero] at k0 k1 k2 k3
  have HSS : Hid (W.drew.cell? ⟨sb, 0, none⟩ = some (.slice sa ss.length sc) ∧ W.drew.cell? ⟨db, 0, none⟩ = some (.pointer (some ⟨d, 0, none⟩)) ∧ W.drew.cell? ⟨cb, 0, none⟩ = some (.int .i64 cls) ∧ W.drew.cell? ⟨eb, 0, none⟩ = some (.slice (some ⟨eg, eo, none⟩) E.length ec) ∧ W.drew.cell? ⟨eg, eo + i, none⟩ = some (.int .i64 t)) := Lib.hid ⟨k0, k1, k2, k3, hii⟩
  have hil : (i : Int) < E.length := by omega
  clear h hok hs hT ht hii k0 k1 k2 k3 hea hei
  go_enter Tryz.func48, Tryz.ntmps48
  go_wp2_with fail
  refine wp_mix [mT, mT, mT, mT, mT, mT, mT, mF, mF, mF, mF] 1000 (fun W2 => W2.cell? ⟨sb, 0, none⟩ = some (.slice sa ss.length sc) ∧ W2.cell? ⟨db, 0, none⟩ = some (.pointer (some ⟨d, 0, none⟩)) ∧ W2.cell? ⟨cb, 0, none⟩ = some (.int .i64 cls) ∧ W2.cell? ⟨eb, 0, none⟩ = some (.slice (some ⟨eg, eo, none⟩) E.length ec) ∧ W2.cell? ⟨eg, eo + i, none⟩ = some (.int .i64 t)) (by kernel_rfl) (by kernel_rfl) HSS.out ?_
  refine wpMix_take (.slice sa ss.length sc) (fun _ _ _ _ h => h) HSS.out (by rfl) (fun W2 hW => by have q0 := hW.1; go_simp) ?_
  simp only [Act.put, List.setIfInBounds_toArray, List.set_cons_zero, List.set_cons_succ]
  refine wpMix_take (.pointer (some ⟨d, 0, none⟩)) (fun _ _ _ _ h => h) HSS.out (by rfl) (fun W2 hW => by have q0 := hW.2.1; go_simp) ?_
  simp only [Act.put, List.setIfInBounds_toArray, List.set_cons_zero, List.set_cons_succ]
  refine wpMix_take (.int .i64 cls) (fun _ _ _ _ h => h) HSS.out (by rfl) (fun W2 hW => by have q0 := hW.2.2.1; go_simp) ?_
  simp only [Act.put, List.setIfInBounds_toArray, List.set_cons_zero, List.set_cons_succ]
  refine wpMix_take (.slice (some ⟨eg, eo, none⟩) E.length ec) (fun _ _ _ _ h => h) HSS.out (by rfl) (fun W2 hW => by have q0 := hW.2.2.2.1; go_simp) ?_
  simp only [Act.put, List.setIfInBounds_toArray, List.set_cons_zero, List.set_cons_succ]
  refine wpMix_take (.int .i64 i) (fun _ _ _ _ h => h) HSS.out (by rfl) (fun W2 hW => by go_simp) ?_
  simp only [Act.put, List.setIfInBounds_toArray, List.set_cons_zero, List.set_cons_succ]
  refine wpMix_take (.pointer (some ⟨eg, eo + i, none⟩)) (fun _ _ _ _ h => h) HSS.out (by rfl) (fun W2 hW => by go_simp) ?_
  simp only [Act.put, List.setIfInBounds_toArray, List.set_cons_zero, List.set_cons_succ]
  refine wpMix_take (.int .i64 t) (fun _ _ _ _ h => h) HSS.out (by rfl) (fun W2 hW => by have q0 := hW.2.2.2.2; go_simp) ?_
  simp only [Act.put, List.setIfInBounds_toArray, List.set_cons_zero, List.set_cons_succ]
  refine wpMix_step (fun K hK => ?_)
  go_simp
  refine (visible_any cls t W.drew (H.out.dig.bel ((Below.refl _ W).drew)) HOK.out (HS.out.bel ((Below.refl _ W).drew)) hlen).mono ?_
  rintro e w3 ⟨v3, ys, L, rfl, hL, hys, hrow, hyok, hb3⟩
  obtain ⟨ya, yn, yc, rfl⟩ := hrow.sl
  dsimp only
  have HSS3 : Hid (w3.cell? ⟨sb, 0, none⟩ = some (.slice sa ss.length sc) ∧ w3.cell? ⟨db, 0, none⟩ = some (.pointer (some ⟨d, 0, none⟩)) ∧ w3.cell? ⟨cb, 0, none⟩ = some (.int .i64 cls) ∧ w3.cell? ⟨eb, 0, none⟩ = some (.slice (some ⟨eg, eo, none⟩) E.length ec) ∧ w3.cell? ⟨eg, eo + i, none⟩ = some (.int .i64 t)) := Lib.hid (by
    obtain ⟨k0, k1, k2, k3, k4⟩ := HSS.out
    exact ⟨sees_bel hb3 _ _ k0, sees_bel hb3 _ _ k1, sees_bel hb3 _ _ k2, sees_bel hb3 _ _ k3, sees_bel hb3 _ _ k4⟩)
  have hyl : ys.length = (visOf (gs.map FctE.f) cls t L).length := by rw [← hys, List.length_map]
  have HY := Lib.hid (hrow.es (fun y hy => (hyok y hy).mono (memFr_sees _ _)))
  have HR := Lib.hid ((H.out.bel ((Below.refl _ W).drew)).bel hb3).row
  have HN : Hid (ss.length = ys.length → SeesN (gs.map FctE.f) cls t ss.length) := Lib.hid (fun h => ⟨L, hL, by rw [h, hyl]⟩)
  have HB3 : Hid (Below W.heap.size W w3) := Lib.hid (((Below.refl _ W).drew).trans hb3)
  refine hK _ _ HSS3.out ?_
  clear hK K hL hys hrow hyok hb3 hyl
  refine wpMix_step (fun K hK => ?_)
  go_simp
  refine (sameFacts_any (.slice sa ss.length sc) (.slice ya yn yc) ss ys HR.out HY.out w3 (fun a u h => h) (fun e => by
    rcases HT.out with h | h
    · exact h
    · exact absurd (HN.out e) (h t HTE.out))).mono ?_
  rintro e w4 ⟨b, rfl, hbr, hb4⟩
  dsimp only
  have HSS4 : Hid (w4.cell? ⟨sb, 0, none⟩ = some (.slice sa ss.length sc) ∧ w4.cell? ⟨db, 0, none⟩ = some (.pointer (some ⟨d, 0, none⟩)) ∧ w4.cell? ⟨cb, 0, none⟩ = some (.int .i64 cls) ∧ w4.cell? ⟨eb, 0, none⟩ = some (.slice (some ⟨eg, eo, none⟩) E.length ec) ∧ w4.cell? ⟨eg, eo + i, none⟩ = some (.int .i64 t)) := Lib.hid (by
    obtain ⟨k0, k1, k2, k3, k4⟩ := HSS3.out
    exact ⟨sees_bel hb4 _ _ k0, sees_bel hb4 _ _ k1, sees_bel hb4 _ _ k2, sees_bel hb4 _ _ k3, sees_bel hb4 _ _ k4⟩)
  have HB4 := Lib.hid (HB3.out.trans (hb4.mono HB3.out.size))
  have HBR := Lib.hid hbr
  refine hK _ _ HSS4.out ?_
  clear hK K hbr hb4
  refine wpMix_step (fun K hK => ?_); go_simp; refine hK _ _ HSS4.out ?_; clear hK K
  refine wpMix_step (fun K hK => ?_); go_simp; refine hK _ _ HSS4.out ?_; clear hK K
  refine wpMix_nil ?_
  go_wp2_with fail
  go_ret
  exact ⟨!b, rfl, fun e => HN.out (HBR.out (by simpa using e)), HB4.out⟩
end Go.Proofs.YtgbihmafmmeicaaGreatDoor
namespace Go.Proofs.YtgbihmafmmeicaaGreatDoor
open Go.RowKit Mg Go.Shelf Go.Maps Go.Sort

def endsOf (D : List Fct) (now : Int) : List Int := Lib.compact (sortL (endsF now D))
def NextPost (D : List Fct) (cls now : Int) (w : World) (e : Ending) (w' : World) : Prop :=
  ∃ (r : Nat) (n : Int) (k : Nat), e = .returned (.int .i64 n) ∧ SeesN D cls now k ∧ r ≤ (endsOf D now).length ∧ (r = (endsOf D now).length → n = -1) ∧ (∀ h : r < (endsOf D now).length, n = (endsOf D now)[r]) ∧ (0 < r → ∃ h : r - 1 < (endsOf D now).length, SeesN D cls (endsOf D now)[r - 1] k) ∧ Below w.heap.size w w'
set_option maxRecDepth 100000 in
set_option maxHeartbeats 2000000 in
theorem next_any {mem : Addr → Option Value} (v : Value) (es : List FctE) (hes : EsM mem v es) (ht : ∀ e ∈ es, Tidy e.f) (hlen : es.length ≤ 1000) (cls now : Int) (w : World) (hs : Sees mem w) (hmem : ∀ a u, mem a = some u → a.block < w.heap.size)
    (hT : ∀ k, SeesN ((es.map FctE.f).filter validF) cls now k → NoTie ((es.map FctE.f).filter validF) cls k (endsOf ((es.map FctE.f).filter validF) now)) :
    Calls Tryz.prog 29 #[v, .int .i64 cls, .int .i64 now] w (NextPost ((es.map FctE.f).filter validF) cls now w) := by
  have hsl : ∃ ao n cap, v = .slice ao n cap := by
    obtain ⟨_, _, ⟨_, ao, cap, rfl, _⟩, _⟩ := hes
    exact ⟨_, _, _, rfl⟩
  have hb0 : Below w.heap.size w (w.alloc (.cells #[.int .i64 cls] 3)) := (Below.refl _ w).alloc (Nat.le_refl _) _
  have c1 := Lib.hid (read_any v es hes ht hlen (w.alloc (.cells #[.int .i64 cls] 3)) (hs.bel hb0) (fun a u h => by have := hmem a u h; simp; omega))
  have HOK := Lib.hid (goodE_ok hes)
  have hgl : Hid ((goodE es).length ≤ 1000) := Lib.hid (by have := goodE_len es; omega)
  rw [← goodE_map] at hT ⊢
  generalize goodE es = gs at *
  have HT := Lib.hid hT
  have HS := Lib.hid (hs.bel hb0)
  have HB0 := Lib.hid hb0
  have HC := Lib.hid (World.alloc_heap_new w (.cells #[.int .i64 cls] 3))
  obtain ⟨ao, n, cap, rfl⟩ := hsl
  have hz0 : (w.alloc (.cells #[.int .i64 cls] 3)).heap.size = w.heap.size + 1 := by simp
  have HZ := Lib.hid hz0
  clear hes ht hs hmem hlen hb0 hT hz0
  go_enter Tryz.func29, Tryz.ntmps29
  go_upto_region 1 with fail
  generalize hW0 : w.alloc (.cells #[.int .i64 cls] 3) = W0 at *
  clear hW0
  go_wp2_with fail
  refine c1.out.mono ?_
  rintro e w1 ⟨d, rfl, _, hD, hb⟩
  have HD := Lib.hid hD
  have HB1 := Lib.hid hb
  clear hD hb c1
  -- the box of the digest
  have HB2 : Hid (Below w1.heap.size w1 (w1.alloc (.cells #[.pointer (some ⟨d, 0, none⟩)] 63))) := Lib.hid ((Below.refl _ w1).alloc (Nat.le_refl _) _)
  have HDB := Lib.hid (World.alloc_heap_new w1 (.cells #[.pointer (some ⟨d, 0, none⟩)] 63))
  go_upto_region 2 with fail
  generalize hW2 : w1.alloc (.cells #[.pointer (some ⟨d, 0, none⟩)] 63) = W2 at *
  generalize hdb : w1.heap.size = db at *
  clear hW2
  have HB12 : Hid (Below W0.heap.size W0 W2) := Lib.hid (HB1.out.trans (HB2.out.mono (by rw [← hdb]; exact HB1.out.size)))
  have k0 := blk_cell HDB.out 0
  have k1 := blk_cell ((HB12.out.block _ (Go.Proofs.YtgbihmafmmeicaaGreatDoor.hlt HC.out)).trans HC.out) 0
  simp only [List.getElem?_toArray, List.getElem?_cons_zero] at k0 k1
  have c2 := Lib.hid (visible_any cls now W2 (HD.out.bel (by rw [hdb]; exact HB2.out)) HOK.out (HS.out.bel HB12.out) hgl.out)
  go_wp2_with fail
  refine c2.out.mono ?_
  rintro e w3 ⟨v3, ss, L, rfl, hL, hss, hrow, hyok, hb3⟩
  obtain ⟨ya, yn, yc, rfl⟩ := hrow.sl
  have HSN : Hid (SeesN (gs.map FctE.f) cls now ss.length) := Lib.hid ⟨L, hL, by rw [← hss, List.length_map]⟩
  have HY := Lib.hid (hrow.es (fun y hy => (hyok y hy).mono (memFr_sees _ _)))
  have HB3 := Lib.hid hb3
  clear k0 k1 hL hss hrow hyok hb3 c2
  -- the box of what is seen
  have HB4 : Hid (Below w3.heap.size w3 (w3.alloc (.cells #[.slice ya yn yc] 25))) := Lib.hid ((Below.refl _ w3).alloc (Nat.le_refl _) _)
  have HSB := Lib.hid (World.alloc_heap_new w3 (.cells #[.slice ya yn yc] 25))
  go_upto_region 3 with fail
  generalize hW4 : w3.alloc (.cells #[.slice ya yn yc] 25) = W4 at *
  generalize hsb : w3.heap.size = sb at *
  clear hW4
  have HY4 : Hid (EsM (fun a => W4.cell? a) (.slice ya yn yc) ss) := Lib.hid (HY.out.mono (sees_bel (by rw [hsb]; exact HB4.out)))
  have HB24 : Hid (Below W2.heap.size W2 W4) := Lib.hid (HB3.out.trans (HB4.out.mono (by rw [← hsb]; exact HB3.out.size)))
  have HB04 : Hid (Below W0.heap.size W0 W4) := Lib.hid (HB12.out.trans (HB24.out.mono HB12.out.size))
  have HDB4 := Lib.hid ((HB24.out.block db (Go.Proofs.YtgbihmafmmeicaaGreatDoor.hlt HDB.out)).trans HDB.out)
  have k0 := blk_cell HDB4.out 0
  simp only [List.getElem?_toArray, List.getElem?_cons_zero] at k0
  have HD4 := Lib.hid ((HD.out.bel (by rw [hdb]; exact HB2.out)).bel HB24.out)
  have c3 := Lib.hid (times_any now W4 HD4.out HOK.out (HS.out.bel HB04.out) hgl.out)
  go_wp2_with fail
  refine c3.out.mono ?_
  rintro e w5 ⟨v5, rfl, hrow, hb5⟩
  obtain ⟨ea, ec, rfl⟩ := hrow.shape
  have HR5 := Lib.hid hrow
  have HB5 := Lib.hid hb5
  clear k0 hrow hb5 c3
  -- the box of the times
  have HB6 : Hid (Below w5.heap.size w5 (w5.alloc (.cells #[.slice ea (Lib.compact (sortL (endsF now (gs.map FctE.f)))).length ec] 30))) := Lib.hid ((Below.refl _ w5).alloc (Nat.le_refl _) _)
  have HEB := Lib.hid (World.alloc_heap_new w5 (.cells #[.slice ea (Lib.compact (sortL (endsF now (gs.map FctE.f)))).length ec] 30))
  have HEN : Hid (endsOf (gs.map FctE.f) now = Lib.compact (sortL (endsF now (gs.map FctE.f)))) := Lib.hid rfl
  have hEl : (Lib.compact (sortL (endsF now (gs.map FctE.f)))).length ≤ 25000 := by
    have h1 := compact_len (sortL (endsF now (gs.map FctE.f)))
    have h2 : (sortL (endsF now (gs.map FctE.f))).length = (endsF now (gs.map FctE.f)).length := List.length_mergeSort _
    have h3 := endsF_len now (gs.map FctE.f) (fun f hf => by obtain ⟨e, he, rfl⟩ := List.mem_map.1 hf; exact (HOK.out e he).2)
    have h4 := hgl.out
    rw [List.length_map] at h3
    omega
  generalize Lib.compact (sortL (endsF now (gs.map FctE.f))) = E at *
  go_upto_region 4 with fail
  generalize hW6 : w5.alloc (.cells #[.slice ea E.length ec] 30) = W6 at *
  generalize heb : w5.heap.size = eb at *
  clear hW6
  have HB46 : Hid (Below W4.heap.size W4 W6) := Lib.hid (HB5.out.trans (HB6.out.mono (by rw [← heb]; exact HB5.out.size)))
  have HB06 : Hid (Below W0.heap.size W0 W6) := Lib.hid (HB04.out.trans (HB46.out.mono HB04.out.size))
  have HR6 := Lib.hid (HR5.out.bel (by rw [heb]; exact HB6.out))
  have HNM : Hid (NextM W6 sb db w.heap.size eb d (W0.heap.size + 5) gs cls (.slice ya yn yc) ss (.slice ea E.length ec) E) := Lib.hid ⟨(HB46.out.block _ (Go.Proofs.YtgbihmafmmeicaaGreatDoor.hlt HSB.out)).trans HSB.out, (HB46.out.block _ (Go.Proofs.YtgbihmafmmeicaaGreatDoor.hlt HDB4.out)).trans HDB4.out, (HB06.out.block _ (Go.Proofs.YtgbihmafmmeicaaGreatDoor.hlt HC.out)).trans HC.out, HEB.out, HD4.out.bel HB46.out, HY4.out.mono (sees_bel HB46.out), HR6.out.ints⟩
  have c4 : Hid (Calls Tryz.prog 47 #[.int .i64 E.length, .func (.func 48) #[] #[.pointer (some ⟨sb, 0, none⟩), .pointer (some ⟨db, 0, none⟩), .pointer (some ⟨w.heap.size, 0, none⟩), .pointer (some ⟨eb, 0, none⟩)]] W6 (SearchPost E.length (fun i b => b = false → ∃ h : i < E.length, SeesN (gs.map FctE.f) cls E[i] ss.length) W6)) :=
    Lib.hid (search_any _ _ _ _ E.length _ W6 (by omega) (fun W' i hi hb => (next1_any (HNM.out.bel hb) HOK.out ((HS.out.bel HB06.out).bel hb) hgl.out (by have := HT.out _ HSN.out; rw [HEN.out] at this; exact this) i hi).mono (fun e w' ⟨b, h1, h2, h3⟩ => ⟨b, h1, fun e => ⟨hi, h2 e⟩, h3⟩)))
  have ke := blk_cell HEB.out 0
  simp only [List.getElem?_toArray, List.getElem?_cons_zero] at ke
  go_wp2_with fail
  refine c4.out.mono ?_
  rintro e w7 ⟨r, rfl, hr, hr1, hr2, hb7⟩
  have HB7 : Hid (Below w.heap.size w w7) := Lib.hid (HB0.out.trans ((HB06.out.trans (hb7.mono HB06.out.size)).mono HB0.out.size))
  have HR2 : Hid (0 < r → ∃ h : r - 1 < E.length, SeesN (gs.map FctE.f) cls E[r - 1] ss.length) := Lib.hid (fun h => hr2 h rfl)
  have HEB7 := Lib.hid ((hb7.block _ (Go.Proofs.YtgbihmafmmeicaaGreatDoor.hlt HEB.out)).trans HEB.out)
  have HI7 := Lib.hid (HR6.out.ints.mono (sees_bel hb7))
  clear ke c4 hr1 hr2 hb7
  have ke := blk_cell HEB7.out 0
  simp only [List.getElem?_toArray, List.getElem?_cons_zero] at ke
  by_cases hlt : r = E.length
  · subst hlt
    go_wp2_with fail
    go_ret
    exact ⟨E.length, -1, ss.length, rfl, HSN.out, by rw [HEN.out]; exact Nat.le_refl _, fun _ => rfl, fun h => absurd h (by rw [HEN.out]; omega), by simp only [HEN.out]; exact HR2.out, HB7.out⟩
  · obtain ⟨a2, c2, eg, eo, e0, _, _, hea, hei⟩ := HI7.out.open_ (fun a u h => h)
    injection e0 with e1 e2 e3
    subst e1 e3
    have hrl : r < E.length := by omega
    obtain rfl := hea (by omega)
    have hc := hei r hrl
    have bne : ((r : Int) == (E.length : Int)) = false := by simpa using (fun h => hlt (by omega))
    have hri : (r : Int) < E.length := by omega
    have HLT := Lib.hid hrl
    clear hea hei e2
    obtain ⟨t, ht⟩ : ∃ t, t = E[r]'HLT.out := ⟨_, rfl⟩
    rw [← ht] at hc
    have HTT := Lib.hid ht
    have HNEQ := Lib.hid hlt
    clear ht hlt hrl
    go_wp2_with fail
    go_ret
    exact ⟨r, t, ss.length, rfl, HSN.out, by rw [HEN.out]; exact Nat.le_of_lt HLT.out, fun h => absurd h (by rw [HEN.out]; have := HLT.out; omega), fun h => by simp only [HEN.out]; exact HTT.out, by simp only [HEN.out]; exact HR2.out, HB7.out⟩
end Go.Proofs.YtgbihmafmmeicaaGreatDoor
namespace Go.Proofs.YtgbihmafmmeicaaGreatDoor
open Go.RowKit Mg Go.Shelf

def sB1 : Blk := ⟨1, 1, ⟨#[65]⟩, 0, 0, ⟨0, [], 0, 0⟩⟩
def sB2 : Blk := ⟨2, 1, ⟨#[66]⟩, 0, 0, ⟨0, [], 1, 0⟩⟩
def sF1 : Fct := { fct0 with kind := 3, story := 1, lab := ⟨10, [], 0, 0⟩ }
def sF2 : Fct := { fct0 with kind := 3, story := 2, lab := ⟨0, [1], 0, 0⟩ }
def sF3 : Fct := { fct0 with kind := 1, story := 1, lang := ⟨#[101, 110]⟩, rev := 1, title := ⟨#[84]⟩, author := ⟨#[97, 110, 110]⟩, blocks := [sB1, sB2] }
def sF4 : Fct := { fct0 with kind := 1, story := 2, lang := ⟨#[101, 110]⟩, rev := 1, title := ⟨#[85]⟩, author := ⟨#[98, 111, 98]⟩ }
def sD : List Fct := [sF1, sF2, sF3, sF4]
def sR1 : Fct := { fct0 with kind := 3, story := 1, lab := ⟨0, [2], 0, 0⟩ }
def sR2 : Fct := { fct0 with kind := 3, story := 2, lab := ⟨0, [1], 0, 0⟩ }
def sRD : List Fct := [sR1, sR2]
def sV : List Fct := [stripF sF1, stripF sF2, { sF3 with blocks := [sB1] }, sF4]
theorem sD_valid : sD.filter validF = sD := by kernel_rfl
theorem sR_valid : sRD.filter validF = sRD := by kernel_rfl
theorem sVis10 : visC ⟨sD, 0, 10, [1, 2]⟩ = sV := by kernel_rfl
theorem sVis9 : visC ⟨sD, 0, 9, []⟩ = [] := by kernel_rfl
theorem sVis0 : visC ⟨sD, 0, 0, []⟩ = [] := by kernel_rfl
theorem sE0 : endsF 0 sD = [10] := by kernel_rfl
theorem sE10 : endsF 10 sD = [] := by kernel_rfl
theorem closed_by (D : Dig) (cls now : Int) (L : List Int) (h : (List.range 65).all (fun s => !D.goes cls now L (s : Nat) || L.contains ((s : Nat) : Int)) = true) : D.Closed cls now L := by
  intro s h1 h2 hg
  rw [List.all_eq_true] at h
  have := h s.toNat (List.mem_range.2 (by omega))
  rw [show ((s.toNat : Nat) : Int) = s by omega] at this
  simp only [hg, Bool.not_true, Bool.false_or] at this
  simpa using this
theorem sGo1 : (digF sD).goes 0 10 [] 1 = true := by kernel_rfl
theorem sGo2 : (digF sD).goes 0 10 ([] ++ [1]) 2 = true := by kernel_rfl
theorem sO10 : OutIs (digF sD) 0 10 [1, 2] :=
  (((Found.nil _ _ _).more (s := 1) (by omega) (by omega) (by simp) sGo1).more (s := 2) (by omega) (by omega) (by simp) sGo2).out (closed_by _ _ _ _ (by kernel_rfl)) (by simp) (fun s => Iff.rfl)
theorem sO9 : OutIs (digF sD) 0 9 [] := (Found.nil _ _ _).out (closed_by _ _ _ _ (by kernel_rfl)) List.Pairwise.nil (fun s => Iff.rfl)
theorem sO0 : OutIs (digF sD) 0 0 [] := (Found.nil _ _ _).out (closed_by _ _ _ _ (by kernel_rfl)) List.Pairwise.nil (fun s => Iff.rfl)
theorem sOR : OutIs (digF sRD) 0 100 [] := (Found.nil _ _ _).out (closed_by _ _ _ _ (by kernel_rfl)) List.Pairwise.nil (fun s => Iff.rfl)
theorem out_one {d : Dig} {cls now : Int} {L M : List Int} (h : OutIs d cls now L) (k : OutIs d cls now M) : L = M := sorted_ext h.sorted k.sorted fun s => ⟨h.least M k.closed s, k.least L h.closed s⟩
theorem tidy1 : Tidy sF1 := ⟨by decide, by kernel_rfl⟩
theorem tidy2 : Tidy sF2 := ⟨by decide, by kernel_rfl⟩
theorem tidy3 : Tidy sF3 := ⟨by decide, by kernel_rfl⟩
theorem tidy4 : Tidy sF4 := ⟨by decide, by kernel_rfl⟩
theorem tidyr1 : Tidy sR1 := ⟨by decide, by kernel_rfl⟩
theorem tidyr2 : Tidy sR2 := ⟨by decide, by kernel_rfl⟩
theorem sends0 : endsOf sD 0 = [10] := by
  unfold endsOf
  rw [sE0]
  rw [show sortL [10] = [10] by simp [sortL]]
  rfl
theorem sends10 : endsOf sD 10 = [] := by
  unfold endsOf
  rw [sE10]
  rw [show sortL [] = [] by simp [sortL]]
  rfl
theorem sees0 {k : Nat} (h : SeesN sD 0 0 k) : k = 0 := by
  obtain ⟨L, hL, rfl⟩ := h
  rw [out_one (hL (by omega) (by omega)) sO0]
  unfold visOf
  rw [if_pos (by omega), sVis0]; rfl
theorem sees10 {k : Nat} (h : SeesN sD 0 10 k) : k = 4 := by
  obtain ⟨L, hL, rfl⟩ := h
  rw [out_one (hL (by omega) (by omega)) sO10]
  unfold visOf
  rw [if_pos (by omega), sVis10]; rfl
theorem sTie0 : ∀ k, SeesN sD 0 0 k → NoTie sD 0 k (endsOf sD 0) := fun k h => .inr fun t ht hn => by
  rw [sends0, List.mem_singleton] at ht
  subst ht
  have h1 := sees0 h
  have h2 := sees10 hn
  omega
theorem sTie10 : ∀ k, SeesN sD 0 10 k → NoTie sD 0 k (endsOf sD 10) := fun k h => .inr fun t ht _ => by
  rw [sends10] at ht
  cases ht
theorem sNext0 {w w' : World} {e : Ending} (h : NextPost sD 0 0 w e w') : e = .returned (.int .i64 10) ∧ Below w.heap.size w w' := by
  obtain ⟨r, n, k, he, hk, hr, h1, h2, h3, hb⟩ := h
  refine ⟨?_, hb⟩
  rw [he]
  have hr0 : r = 0 := by
    rcases Nat.eq_zero_or_pos r with h | h
    · exact h
    · obtain ⟨hlt, hs⟩ := h3 h
      have hr1 : r = 1 := by
        have : (endsOf sD 0).length = 1 := by rw [sends0]; rfl
        omega
      subst hr1
      have e10 : (endsOf sD 0)[1 - 1] = 10 := by simp [sends0]
      rw [e10] at hs
      have := sees0 hk
      have := sees10 hs
      omega
  subst hr0
  have hl : (0 : Nat) < (endsOf sD 0).length := by rw [sends0]; exact Nat.zero_lt_one
  have := h2 hl
  rw [this]
  simp [sends0]
theorem sNext10 {w w' : World} {e : Ending} (h : NextPost sD 0 10 w e w') : e = .returned (.int .i64 (-1)) ∧ Below w.heap.size w w' := by
  obtain ⟨r, n, k, he, hk, hr, h1, h2, h3, hb⟩ := h
  refine ⟨?_, hb⟩
  have hl : (endsOf sD 10).length = 0 := by rw [sends10]; rfl
  rw [he, h1 (by omega)]
end Go.Proofs.YtgbihmafmmeicaaGreatDoor
namespace Go.Proofs.YtgbihmafmmeicaaGreatDoor
open Go.RowKit Mg Go.Shelf

abbrev zeroF : Value := .agg #[.int .i64 0, .int .i64 0, .int .i64 0, .int .i64 0, .string .empty, .int .i64 0, .int .i64 0, .string .empty, .string .empty, .slice none 0 0, .slice none 0 0, .int .i64 0, .slice none 0 0, .int .i64 0, .int .i64 0, .int .i64 0, .int .i64 0, .int .i64 0, .string .empty, .string .empty, .int .i64 0, .int .i64 0, .int .i64 0]
section
variable {ops : Array Oper} {rest : List Oper} {o : Oper} {a : Act} {w : World} {Q : Exit → Act → World → Prop}
theorem at_fslices (n : Nat) (parts : Array (Nat × Operand)) (_ : o.op = .buildSlice 25 n parts) (h : wpList Tryz.prog ops Q (o :: rest) a w) : wpList Tryz.prog ops Q (o :: rest) a w := h
theorem wpList_fct_slices (hgd : o.guard = none) (n : Nat) (parts : Array (Nat × Operand)) (ho : o.op = .buildSlice 25 n parts) (cells : Array Value) (h0 : 0 < n) (h1 : n ≤ 1000) (L : List (Nat × Value)) (hp : (parts.map fun (i, x) => (i, a.eval x)).toList = L)
    (hf : Instr.fill (fun i => some (i * 23, 23)) ((Array.range (n * 23)).map (zeroF.cells[· % zeroF.cells.size]!)) L = some cells)
    (h : wpList Tryz.prog ops Q rest (a.put o.dst (.slice (some ⟨w.heap.size, 0, none⟩) n n)) (w.alloc (.cells cells 45))) : wpList Tryz.prog ops Q (o :: rest) a w := by
  refine wpList_plain hgd fun K hK => ?_
  obtain ⟨i0, hi0, hz0, hz1, hz2⟩ := info_parts fct_info
  refine wp_buildSlice 25 45 n parts ho cells i0 _ Tryz.underlying25 hi0 hz0 (by rw [hz1]; omega) (by rw [hz1]; omega) ?_ (hK _ _ h)
  rw [hz1, hp]
  exact hf
end
theorem frow_lit {w : World} {B g : Nat} {es : List FctE} (hB : B ≤ g) (hh : w.heap[g]? = some (.cells (rowVals es).toArray 45 (0, 0))) (hl : es.length ≤ 1000) : FRow w B (.slice (some ⟨g, 0, none⟩) es.length es.length) es := by
  have hlen : (rowVals es).length = es.length * 23 := by
    unfold rowVals
    rw [List.length_flatMap]
    have : ∀ l : List FctE, (l.map fun e => e.cells.toList.length).sum = l.length * 23 := fun l => by
      induction l with
      | nil => rfl
      | cons e r ih => rw [List.map_cons, List.sum_cons, ih, Array.length_toList, FctE.size, List.length_cons]; omega
    exact this es
  refine ⟨hlen, .inr ⟨g, es.length, _, rfl, hB, hh, Nat.le_refl _, by unfold maxLen; omega, by simpa using hlen, ?_⟩⟩
  rw [List.toList_toArray, List.take_of_length_le (by omega)]
def sE2 (g : Nat) : FctE := ⟨sF2, none, 0, none, 0, some ⟨g, 0, none⟩, 1⟩
def sE3 (g : Nat) : FctE := ⟨sF3, none, 0, some ⟨g, 0, none⟩, 2, none, 0⟩
def sEs (g h : Nat) : List FctE := [plainE sF1, sE2 h, sE3 g, plainE sF4]
def sRs (g h : Nat) : List FctE := [⟨sR1, none, 0, none, 0, some ⟨g, 0, none⟩, 1⟩, ⟨sR2, none, 0, none, 0, some ⟨h, 0, none⟩, 1⟩]
theorem fill4 (g h : Nat) : Instr.fill (fun i => some (i * 23, 23)) ((Array.range (4 * 23)).map (zeroF.cells[· % zeroF.cells.size]!)) [(0, .agg (plainE sF1).cells), (1, .agg (sE2 h).cells), (2, .agg (sE3 g).cells), (3, .agg (plainE sF4).cells)] = some (rowVals (sEs g h)).toArray := by kernel_rfl
theorem fill2 (g h : Nat) : Instr.fill (fun i => some (i * 23, 23)) ((Array.range (2 * 23)).map (zeroF.cells[· % zeroF.cells.size]!)) [(0, .agg (⟨sR1, none, 0, none, 0, some ⟨g, 0, none⟩, 1⟩ : FctE).cells), (1, .agg (⟨sR2, none, 0, none, 0, some ⟨h, 0, none⟩, 1⟩ : FctE).cells)] = some (rowVals (sRs g h)).toArray := by kernel_rfl
theorem sb1 : Tryz.prog.built 45 [(2, .int .i64 3), (3, .int .i64 1), (11, .agg #[.int .i64 10, .slice none 0 0, .int .i64 0, .int .i64 0])] = some (plainE sF1).cells := by kernel_rfl
theorem sb2 (g : Nat) : Tryz.prog.built 45 [(2, .int .i64 3), (3, .int .i64 2), (11, .agg #[.int .i64 0, .slice (some ⟨g, 0, none⟩) 1 1, .int .i64 0, .int .i64 0])] = some (sE2 g).cells := by kernel_rfl
theorem sb3 (g : Nat) : Tryz.prog.built 45 [(2, .int .i64 1), (3, .int .i64 1), (4, .string ⟨#[101, 110]⟩), (5, .int .i64 1), (7, .string ⟨#[84]⟩), (8, .string ⟨#[97, 110, 110]⟩), (10, .slice (some ⟨g, 0, none⟩) 2 2)] = some (sE3 g).cells := by kernel_rfl
theorem sb4 : Tryz.prog.built 45 [(2, .int .i64 1), (3, .int .i64 2), (4, .string ⟨#[101, 110]⟩), (5, .int .i64 1), (7, .string ⟨#[85]⟩), (8, .string ⟨#[98, 111, 98]⟩)] = some (plainE sF4).cells := by kernel_rfl
theorem sbr1 (g : Nat) : Tryz.prog.built 45 [(2, .int .i64 3), (3, .int .i64 1), (11, .agg #[.int .i64 0, .slice (some ⟨g, 0, none⟩) 1 1, .int .i64 0, .int .i64 0])] = some (⟨sR1, none, 0, none, 0, some ⟨g, 0, none⟩, 1⟩ : FctE).cells := by kernel_rfl
theorem sbr2 (g : Nat) : Tryz.prog.built 45 [(2, .int .i64 3), (3, .int .i64 2), (11, .agg #[.int .i64 0, .slice (some ⟨g, 0, none⟩) 1 1, .int .i64 0, .int .i64 0])] = some (⟨sR2, none, 0, none, 0, some ⟨g, 0, none⟩, 1⟩ : FctE).cells := by kernel_rfl
abbrev sBlk : Array Value := #[.int .i64 1, .int .i64 1, .string ⟨#[65]⟩, .int .i64 0, .int .i64 0, .int .i64 0, .slice none 0 0, .int .i64 0, .int .i64 0, .int .i64 2, .int .i64 1, .string ⟨#[66]⟩, .int .i64 0, .int .i64 0, .int .i64 0, .slice none 0 0, .int .i64 1, .int .i64 0]
theorem ok_small {f : Fct} (h : okI f.kind ∧ okI f.story ∧ f.lang.size ≤ maxLen ∧ okI f.rev ∧ f.title.size ≤ maxLen ∧ f.author.size ≤ maxLen ∧ okI f.lab.till) (he : f = { fct0 with kind := f.kind, story := f.story, lang := f.lang, rev := f.rev, title := f.title, author := f.author, blocks := f.blocks, lab := { till := f.lab.till, after := f.lab.after, appr := 0, denied := 0 } }) (hb : ∀ x ∈ f.blocks, x.text.size ≤ maxLen ∧ okI x.kind ∧ okI x.id) : FOK f := by
  have z := fok_zero
  obtain ⟨h1, h2, h3, h4, h5, h6, h7⟩ := h
  rw [he]
  exact ⟨z.i0, z.i1, h1, h2, h3, h4, z.i6, h5, h6, h7, z.i13, z.i14, z.i15, z.i16, z.i17, z.s18, z.s19, z.i20, z.i21, z.i22, hb⟩
theorem ml (n : Nat) (h : n ≤ 100) : n ≤ maxLen := by unfold maxLen; omega
theorem ok1 : FOK sF1 := ok_small ⟨okS (by decide) (by decide), okS (by decide) (by decide), ml _ (by decide), okS (by decide) (by decide), ml _ (by decide), ml _ (by decide), okS (by decide) (by decide)⟩ rfl (fun x hx => by cases hx)
theorem ok2 : FOK sF2 := ok_small ⟨okS (by decide) (by decide), okS (by decide) (by decide), ml _ (by decide), okS (by decide) (by decide), ml _ (by decide), ml _ (by decide), okS (by decide) (by decide)⟩ rfl (fun x hx => by cases hx)
theorem ok3 : FOK sF3 := ok_small ⟨okS (by decide) (by decide), okS (by decide) (by decide), ml _ (by decide), okS (by decide) (by decide), ml _ (by decide), ml _ (by decide), okS (by decide) (by decide)⟩ rfl (fun x hx => by
  rcases List.mem_cons.1 hx with rfl | hx
  · exact ⟨ml _ (by decide), okS (by decide) (by decide), okS (by decide) (by decide)⟩
  · rcases List.mem_cons.1 hx with rfl | hx
    · exact ⟨ml _ (by decide), okS (by decide) (by decide), okS (by decide) (by decide)⟩
    · cases hx)
theorem ok4 : FOK sF4 := ok_small ⟨okS (by decide) (by decide), okS (by decide) (by decide), ml _ (by decide), okS (by decide) (by decide), ml _ (by decide), ml _ (by decide), okS (by decide) (by decide)⟩ rfl (fun x hx => by cases hx)
theorem okr1 : FOK sR1 := ok_small ⟨okS (by decide) (by decide), okS (by decide) (by decide), ml _ (by decide), okS (by decide) (by decide), ml _ (by decide), ml _ (by decide), okS (by decide) (by decide)⟩ rfl (fun x hx => by cases hx)
theorem okr2 : FOK sR2 := ok_small ⟨okS (by decide) (by decide), okS (by decide) (by decide), ml _ (by decide), okS (by decide) (by decide), ml _ (by decide), ml _ (by decide), okS (by decide) (by decide)⟩ rfl (fun x hx => by cases hx)
theorem blks_nil (mem : Addr → Option Value) : BlksM mem (.slice none 0 0) [] := ⟨0, 0, sliceNil, fun j hj => absurd hj (by simp)⟩
theorem sB1_ok : sB1.text.size ≤ maxLen ∧ okI sB1.kind ∧ okI sB1.id := ⟨ml _ (by decide), okS (by decide) (by decide), okS (by decide) (by decide)⟩
theorem sB2_ok : sB2.text.size ≤ maxLen ∧ okI sB2.kind ∧ okI sB2.id := ⟨ml _ (by decide), okS (by decide) (by decide), okS (by decide) (by decide)⟩
theorem sBlks {w : World} {g : Nat} (h : w.heap[g]? = some (.cells sBlk 56 (0, 0))) : BlksM (fun a => w.cell? a) (.slice (some ⟨g, 0, none⟩) 2 2) [sB1, sB2] := by
  have c : ∀ j, w.cell? ⟨g, j, none⟩ = sBlk[j]? := fun j => blk_cell h j
  refine ⟨g, 0, ⟨ml _ (by decide), some ⟨g, 0, none⟩, 2, rfl, by decide, ml _ (by decide), fun _ => rfl⟩, fun j hj => ?_⟩
  match j, hj with
  | 0, _ => exact ⟨⟨c 0, c 1, c 2, c 3, c 4⟩, ⟨c 5, c 7, c 8⟩, sB1_ok, _, c 6, IntsM.nil _⟩
  | 1, _ => exact ⟨⟨c 9, c 10, c 11, c 12, c 13⟩, ⟨c 14, c 16, c 17⟩, sB2_ok, _, c 15, IntsM.nil _⟩
theorem sList {w : World} {g : Nat} (h0 : w.heap[g]? = some (.cells sBlk 56 (0, 0))) (h1 : w.heap[g + 1]? = some (.cells (([1] : List Int).map encI).toArray 3 (0, 0))) (h2 : w.heap[g + 2]? = some (.cells (rowVals (sEs g (g + 1))).toArray 45 (0, 0))) : EsM (fun a => w.cell? a) (.slice (some ⟨g + 2, 0, none⟩) 4 4) (sEs g (g + 1)) := by
  refine FRow.es (B := g) (frow_lit (by omega) h2 (by show _ ≤ 1000; first | (simp [sEs]; done) | (simp [sRs]; done))) (fun e he => ?_)
  have hi := (irow_lit (B := g) (by omega) h1 (by decide)).ints
  rcases List.mem_cons.1 he with rfl | he
  · exact plain_ok ok1 rfl rfl rfl
  rcases List.mem_cons.1 he with rfl | he
  · exact ⟨ok2, StrsM.nil _, blks_nil _, hi⟩
  rcases List.mem_cons.1 he with rfl | he
  · exact ⟨ok3, StrsM.nil _, sBlks h0, IntsM.nil _⟩
  rcases List.mem_cons.1 he with rfl | he
  · exact plain_ok ok4 rfl rfl rfl
  cases he
theorem sRing {w : World} {g : Nat} (h0 : w.heap[g]? = some (.cells (([2] : List Int).map encI).toArray 3 (0, 0))) (h1 : w.heap[g + 1]? = some (.cells (([1] : List Int).map encI).toArray 3 (0, 0))) (h2 : w.heap[g + 2]? = some (.cells (rowVals (sRs g (g + 1))).toArray 45 (0, 0))) : EsM (fun a => w.cell? a) (.slice (some ⟨g + 2, 0, none⟩) 2 2) (sRs g (g + 1)) := by
  refine FRow.es (B := g) (frow_lit (by omega) h2 (by show _ ≤ 1000; first | (simp [sEs]; done) | (simp [sRs]; done))) (fun e he => ?_)
  have hi := (irow_lit (B := g) (by omega) h1 (by decide)).ints
  have hi2 := (irow_lit (B := g) (by omega) h0 (by decide)).ints
  rcases List.mem_cons.1 he with rfl | he
  · exact ⟨okr1, StrsM.nil _, blks_nil _, hi2⟩
  rcases List.mem_cons.1 he with rfl | he
  · exact ⟨okr2, StrsM.nil _, blks_nil _, hi⟩
  cases he
theorem sTidy {g h : Nat} : ∀ e ∈ sEs g h, Tidy e.f := fun e he => by
  rcases List.mem_cons.1 he with rfl | he
  · exact tidy1
  rcases List.mem_cons.1 he with rfl | he
  · exact tidy2
  rcases List.mem_cons.1 he with rfl | he
  · exact tidy3
  rcases List.mem_cons.1 he with rfl | he
  · exact tidy4
  cases he
theorem sTidyR {g h : Nat} : ∀ e ∈ sRs g h, Tidy e.f := fun e he => by
  rcases List.mem_cons.1 he with rfl | he
  · exact tidyr1
  rcases List.mem_cons.1 he with rfl | he
  · exact tidyr2
  cases he
theorem sMap (g h : Nat) : ((sEs g h).map FctE.f).filter validF = sD := by rw [show (sEs g h).map FctE.f = sD from rfl, sD_valid]
theorem sMapR (g h : Nat) : ((sRs g h).map FctE.f).filter validF = sRD := by rw [show (sRs g h).map FctE.f = sRD from rfl, sR_valid]
end Go.Proofs.YtgbihmafmmeicaaGreatDoor
namespace Go.Proofs.YtgbihmafmmeicaaGreatDoor
open Go.RowKit Mg Go.Shelf

theorem FRow.shape {w : World} {B : Nat} {v : Value} {es : List FctE} (h : FRow w B v es) : ∃ ao cap, v = .slice ao es.length cap := by
  rcases h.2 with ⟨rfl, hz⟩ | ⟨g, cap, cur, rfl, _⟩
  · exact ⟨none, 0, by rw [hz]⟩
  · exact ⟨_, _, rfl⟩
theorem cells_lt (W : World) : ∀ a u, (fun a => W.cell? a) a = some u → a.block < W.heap.size := fun _ _ h => World.block_lt_of_cell? W _ h
structure SanI (gl gr : Nat) (W : World) : Prop where
  b0 : W.heap[gl]? = some (.cells sBlk 56 (0, 0))
  i0 : W.heap[gl + 1]? = some (.cells (([1] : List Int).map encI).toArray 3 (0, 0))
  l0 : W.heap[gl + 2]? = some (.cells (rowVals (sEs gl (gl + 1))).toArray 45 (0, 0))
  r0 : W.heap[gr]? = some (.cells (([2] : List Int).map encI).toArray 3 (0, 0))
  r1 : W.heap[gr + 1]? = some (.cells (([1] : List Int).map encI).toArray 3 (0, 0))
  r2 : W.heap[gr + 2]? = some (.cells (rowVals (sRs gr (gr + 1))).toArray 45 (0, 0))
theorem SanI.bel {gl gr : Nat} {W W' : World} (h : SanI gl gr W) (hb : Below W.heap.size W W') : SanI gl gr W' :=
  ⟨(hb.block _ (Go.Proofs.YtgbihmafmmeicaaGreatDoor.hlt h.b0)).trans h.b0, (hb.block _ (Go.Proofs.YtgbihmafmmeicaaGreatDoor.hlt h.i0)).trans h.i0, (hb.block _ (Go.Proofs.YtgbihmafmmeicaaGreatDoor.hlt h.l0)).trans h.l0, (hb.block _ (Go.Proofs.YtgbihmafmmeicaaGreatDoor.hlt h.r0)).trans h.r0, (hb.block _ (Go.Proofs.YtgbihmafmmeicaaGreatDoor.hlt h.r1)).trans h.r1, (hb.block _ (Go.Proofs.YtgbihmafmmeicaaGreatDoor.hlt h.r2)).trans h.r2⟩
theorem san_vis {g : Nat} {W : World} (h : EsM (fun a => W.cell? a) (.slice (some ⟨g + 2, 0, none⟩) 4 4) (sEs g (g + 1))) (cls now : Int) : Calls Tryz.prog 24 #[.slice (some ⟨g + 2, 0, none⟩) 4 4, .int .i64 cls, .int .i64 now] W (VisPost sD cls now W) := by
  have := access_visible_any _ _ h sTidy (by show 4 ≤ 1000; omega) cls now W (fun a u h => h) (cells_lt W)
  rwa [sMap] at this
theorem san_out {g : Nat} {W : World} (h : EsM (fun a => W.cell? a) (.slice (some ⟨g + 2, 0, none⟩) 4 4) (sEs g (g + 1))) (cls now : Int) : Calls Tryz.prog 14 #[.slice (some ⟨g + 2, 0, none⟩) 4 4, .int .i64 cls, .int .i64 now] W (OutPost (digF sD) cls now W) := by
  have := access_out_any _ _ h sTidy (by show 4 ≤ 1000; omega) cls now W (fun a u h => h) (cells_lt W)
  rwa [sMap] at this
theorem san_outR {g : Nat} {W : World} (h : EsM (fun a => W.cell? a) (.slice (some ⟨g + 2, 0, none⟩) 2 2) (sRs g (g + 1))) (cls now : Int) : Calls Tryz.prog 14 #[.slice (some ⟨g + 2, 0, none⟩) 2 2, .int .i64 cls, .int .i64 now] W (OutPost (digF sRD) cls now W) := by
  have := access_out_any _ _ h sTidyR (by show 2 ≤ 1000; omega) cls now W (fun a u h => h) (cells_lt W)
  rwa [sMapR] at this
theorem san_next0 {g : Nat} {W : World} (h : EsM (fun a => W.cell? a) (.slice (some ⟨g + 2, 0, none⟩) 4 4) (sEs g (g + 1))) : Calls Tryz.prog 29 #[.slice (some ⟨g + 2, 0, none⟩) 4 4, .int .i64 0, .int .i64 0] W fun e w' => e = .returned (.int .i64 10) ∧ Below W.heap.size W w' := by
  have := next_any _ _ h sTidy (by show 4 ≤ 1000; omega) 0 0 W (fun a u h => h) (cells_lt W) (by rw [sMap]; exact sTie0)
  rw [sMap] at this
  exact this.mono (fun e w' h => sNext0 h)
theorem san_next10 {g : Nat} {W : World} (h : EsM (fun a => W.cell? a) (.slice (some ⟨g + 2, 0, none⟩) 4 4) (sEs g (g + 1))) : Calls Tryz.prog 29 #[.slice (some ⟨g + 2, 0, none⟩) 4 4, .int .i64 0, .int .i64 10] W fun e w' => e = .returned (.int .i64 (-1)) ∧ Below W.heap.size W w' := by
  have := next_any _ _ h sTidy (by show 4 ≤ 1000; omega) 0 10 W (fun a u h => h) (cells_lt W) (by rw [sMap]; exact sTie10)
  rw [sMap] at this
  exact this.mono (fun e w' h => sNext10 h)
theorem visNone {cls now : Int} {W w' : World} {e : Ending} (h : VisPost sD cls now W e w') (hc : (cls = 0 ∧ now = 9) ∨ cls = 4) : ∃ ao cap, e = .returned (.slice ao 0 cap) ∧ Below W.heap.size W w' := by
  obtain ⟨v, ys, L, he, hL, hys, hr, _, hb⟩ := h
  have hz : ys.length = 0 := by
    have h2 : (visOf sD cls now L).length = 0 := by
      rcases hc with ⟨rfl, rfl⟩ | rfl
      · rw [out_one (hL (by omega) (by omega)) sO9]
        unfold visOf
        rw [if_pos (by omega), sVis9]; rfl
      · unfold visOf
        rw [if_neg (by omega)]; rfl
    rw [← hys, List.length_map] at h2
    exact h2
  obtain ⟨ao, cap, rfl⟩ := hr.shape
  exact ⟨ao, cap, by rw [he, hz], hb⟩
theorem outLen {D : List Fct} {cls now : Int} {L0 : List Int} {W w' : World} {e : Ending} (h : OutPost (digF D) cls now W e w') (h0 : OutIs (digF D) cls now L0) : ∃ ao cap, e = .returned (.slice ao L0.length cap) ∧ Below W.heap.size W w' := by
  obtain ⟨v, L, he, hr, ho, hb⟩ := h
  rw [out_one ho h0] at hr
  obtain ⟨ao, cap, rfl⟩ := hr.shape
  exact ⟨ao, cap, he, hb⟩
theorem vis4 {W w' : World} {e : Ending} (h : VisPost sD 0 10 W e w') : ∃ yb yo yc bb bo bc, e = .returned (.slice (some ⟨yb, yo, none⟩) 4 yc) ∧ w'.cell? ⟨yb, yo + 46 + 10, none⟩ = some (.slice (some ⟨bb, bo, none⟩) 1 bc) ∧ w'.cell? ⟨yb, yo + 11, none⟩ = some (.int .i64 0) ∧ w'.cell? ⟨bb, bo, none⟩ = some (.int .i64 1) ∧ Below W.heap.size W w' := by
  obtain ⟨v, ys, L, he, hL, hys, hr, hok, hb⟩ := h
  rw [out_one (hL (by omega) (by omega)) sO10] at hys
  have hv : visOf sD 0 10 [1, 2] = sV := by unfold visOf; rw [if_pos (by omega), sVis10]
  rw [hv] at hys
  have hl : ys.length = 4 := by have := congrArg List.length hys; rw [List.length_map] at this; exact this
  obtain ⟨ao, cap, b, o, rfl, _, hao, hes⟩ := (hr.es (fun y hy => (hok y hy).mono (memFr_sees _ _))).open_
  rw [hl] at he
  obtain rfl := hao (by omega)
  obtain ⟨hok2, hat2⟩ := hes 2 (by omega)
  obtain ⟨_, hat0⟩ := hes 0 (by omega)
  have hf2 : ys[2].f = { sF3 with blocks := [sB1] } := by
    have : (ys.map FctE.f)[2]'(by rw [List.length_map]; omega) = ys[2].f := by rw [List.getElem_map]
    rw [← this]; simp only [hys]; rfl
  have hf0 : ys[0].f = stripF sF1 := by
    have : (ys.map FctE.f)[0]'(by rw [List.length_map]; omega) = ys[0].f := by rw [List.getElem_map]
    rw [← this]; simp only [hys]; rfl
  obtain ⟨a2, c2, b2, o2, e2, _, _, ha2, hb2⟩ := hok2.parts.2.1.open_
  have hbl : ys[2].f.blocks.length = 1 := by rw [hf2]; rfl
  have q10 := hat2 10 (.slice ys[2].ba ys[2].f.blocks.length ys[2].bc) rfl
  injection e2 with e3 e4 e5
  have hba : ys[2].ba = some ⟨b2, o2, none⟩ := by rw [e3]; exact ha2 (by omega)
  rw [hba, hbl] at q10
  have hid := (hb2 0 (by omega)).1.1
  have hb0 : ys[2].f.blocks[0].id = 1 := by simp only [hf2]; rfl
  rw [hb0] at hid
  have q11 := hat0 11 (.int .i64 ys[0].f.lab.till) rfl
  rw [hf0] at q11
  exact ⟨b, o, cap, b2, o2, _, he, by simpa using q10, by have h := q11; simp only [Nat.zero_mul, Nat.add_zero] at h; exact h, by simpa using hid, hb⟩
end Go.Proofs.YtgbihmafmmeicaaGreatDoor
namespace Go.Proofs.YtgbihmafmmeicaaGreatDoor
open Go.RowKit Mg Go.Shelf

set_option maxRecDepth 100000 in
set_option maxHeartbeats 8000000 in
theorem sane_any (w : World) : Calls Tryz.prog 10 #[] w fun e w' => e = .returned (.bool true) ∧ Below w.heap.size w w' := by
  have HB0 : Hid (∀ o1 o2 o3, Below w.heap.size w (((w.alloc o1).alloc o2).alloc o3)) := Lib.hid (fun o1 o2 o3 => (((Below.refl _ w).alloc (Nat.le_refl _) _).alloc (by simp) _).alloc (by simp; omega) _)
  go_enter Tryz.func10, Tryz.ntmps10
  go_upto_region 3 with (first
    | ((with_reducible refine at_fbuild _ rfl ?_); go_must (refine wpList_buildTo rfl 45 _ rfl _ rfl _ (by simp [Act.eval, Act.put]; with_reducible (first | exact sb1 | exact sb2 _ | exact sb3 _ | exact sb4)) ?_))
    | ((with_reducible refine at_fslices _ _ rfl ?_); go_must (refine wpList_fct_slices rfl _ _ rfl _ (by omega) (by omega) _ (by simp [Act.eval, Act.put]) (fill4 w.heap.size (w.heap.size + 1)) ?_)))
  have hH0 := World.alloc_heap_new w (.cells sBlk 56)
  have hb1 : Below (w.alloc (.cells sBlk 56)).heap.size (w.alloc (.cells sBlk 56)) ((w.alloc (.cells sBlk 56)).alloc (.cells (([1] : List Int).map encI).toArray 3)) := (Below.refl _ _).alloc (Nat.le_refl _) _
  have hH1 := World.alloc_heap_new (w.alloc (.cells sBlk 56)) (.cells (([1] : List Int).map encI).toArray 3)
  have hb2 : Below ((w.alloc (.cells sBlk 56)).alloc (.cells (([1] : List Int).map encI).toArray 3)).heap.size ((w.alloc (.cells sBlk 56)).alloc (.cells (([1] : List Int).map encI).toArray 3)) (((w.alloc (.cells sBlk 56)).alloc (.cells (([1] : List Int).map encI).toArray 3)).alloc (.cells (rowVals (sEs w.heap.size (w.heap.size + 1))).toArray 45)) := (Below.refl _ _).alloc (Nat.le_refl _) _
  have hH2 := World.alloc_heap_new ((w.alloc (.cells sBlk 56)).alloc (.cells (([1] : List Int).map encI).toArray 3)) (.cells (rowVals (sEs w.heap.size (w.heap.size + 1))).toArray 45)
  replace hH0 := (hb2.block _ (by simp; omega)).trans ((hb1.block _ (by simp)).trans hH0)
  replace hH1 := (hb2.block _ (by simp)).trans hH1
  have hBW := HB0.out (.cells sBlk 56) (.cells (([1] : List Int).map encI).toArray 3) (.cells (rowVals (sEs w.heap.size (w.heap.size + 1))).toArray 45)
  simp only [World.size_alloc] at hH1 hH2
  generalize hW3 : World.alloc (World.alloc (World.alloc w _) _) _ = W3
  rw [show ((w.alloc (.cells sBlk 56)).alloc (.cells (([1] : List Int).map encI).toArray 3)).alloc (.cells (rowVals (sEs w.heap.size (w.heap.size + 1))).toArray 45) = W3 from hW3] at hH0 hH1 hH2 hBW
  clear hW3 hb1 hb2
  have HW3 := Lib.hid hBW
  have HE3 := Lib.hid (And.intro hH0 (And.intro hH1 hH2))
  have HL3 := Lib.hid (sList hH0 hH1 hH2)
  clear hH0 hH1 hH2 hBW HB0
  go_wp2_with fail
  refine (san_vis (g := w.heap.size) HL3.out 0 10).mono ?_
  intro e W4 hv
  obtain ⟨yb, yo, yc, bb, bo, bc, rfl, q1, q2, q3, hb4⟩ := vis4 hv
  have HQ := Lib.hid (And.intro q1 (And.intro q2 q3))
  have HB4 := Lib.hid hb4
  clear hv q1 q2 q3 hb4
  go_upto_region 5 with (first
    | ((with_reducible refine at_fbuild _ rfl ?_); go_must (refine wpList_buildTo rfl 45 _ rfl _ rfl _ (by simp [Act.eval]; with_reducible (first | exact sbr1 _ | exact sbr2 _)) ?_))
    | ((with_reducible refine at_fslices _ _ rfl ?_); go_must (refine wpList_fct_slices rfl _ _ rfl _ (by omega) (by omega) _ (by simp [Act.eval, Act.put]) (fill2 W4.heap.size (W4.heap.size + 1)) ?_)))
  have hH0 := World.alloc_heap_new W4 (.cells (([2] : List Int).map encI).toArray 3)
  have hb1 : Below (W4.alloc (.cells (([2] : List Int).map encI).toArray 3)).heap.size (W4.alloc (.cells (([2] : List Int).map encI).toArray 3)) ((W4.alloc (.cells (([2] : List Int).map encI).toArray 3)).alloc (.cells (([1] : List Int).map encI).toArray 3)) := (Below.refl _ _).alloc (Nat.le_refl _) _
  have hH1 := World.alloc_heap_new (W4.alloc (.cells (([2] : List Int).map encI).toArray 3)) (.cells (([1] : List Int).map encI).toArray 3)
  have hb2 : Below ((W4.alloc (.cells (([2] : List Int).map encI).toArray 3)).alloc (.cells (([1] : List Int).map encI).toArray 3)).heap.size ((W4.alloc (.cells (([2] : List Int).map encI).toArray 3)).alloc (.cells (([1] : List Int).map encI).toArray 3)) (((W4.alloc (.cells (([2] : List Int).map encI).toArray 3)).alloc (.cells (([1] : List Int).map encI).toArray 3)).alloc (.cells (rowVals (sRs W4.heap.size (W4.heap.size + 1))).toArray 45)) := (Below.refl _ _).alloc (Nat.le_refl _) _
  have hH2 := World.alloc_heap_new ((W4.alloc (.cells (([2] : List Int).map encI).toArray 3)).alloc (.cells (([1] : List Int).map encI).toArray 3)) (.cells (rowVals (sRs W4.heap.size (W4.heap.size + 1))).toArray 45)
  replace hH0 := (hb2.block _ (by simp; omega)).trans ((hb1.block _ (by simp)).trans hH0)
  replace hH1 := (hb2.block _ (by simp)).trans hH1
  have hBW : Below W4.heap.size W4 (((W4.alloc (.cells (([2] : List Int).map encI).toArray 3)).alloc (.cells (([1] : List Int).map encI).toArray 3)).alloc (.cells (rowVals (sRs W4.heap.size (W4.heap.size + 1))).toArray 45)) := (((Below.refl _ W4).alloc (Nat.le_refl _) _).alloc (by simp) _).alloc (by simp; omega) _
  simp only [World.size_alloc] at hH1 hH2
  generalize hW5 : World.alloc (World.alloc (World.alloc W4 _) _) _ = W5
  rw [show ((W4.alloc (.cells (([2] : List Int).map encI).toArray 3)).alloc (.cells (([1] : List Int).map encI).toArray 3)).alloc (.cells (rowVals (sRs W4.heap.size (W4.heap.size + 1))).toArray 45) = W5 from hW5] at hH0 hH1 hH2 hBW
  clear hW5 hb1 hb2
  have HW5 : Hid (Below w.heap.size w W5) := Lib.hid (HW3.out.trans ((HB4.out.trans (hBW.mono HB4.out.size)).mono HW3.out.size))
  have HS5 : Hid (SanI w.heap.size W4.heap.size W5) := Lib.hid ⟨(hBW.block _ (by have := HB4.out.size; have := Go.Proofs.YtgbihmafmmeicaaGreatDoor.hlt HE3.out.1; omega)).trans ((HB4.out.block _ (Go.Proofs.YtgbihmafmmeicaaGreatDoor.hlt HE3.out.1)).trans HE3.out.1), (hBW.block _ (by have := HB4.out.size; have := Go.Proofs.YtgbihmafmmeicaaGreatDoor.hlt HE3.out.2.1; omega)).trans ((HB4.out.block _ (Go.Proofs.YtgbihmafmmeicaaGreatDoor.hlt HE3.out.2.1)).trans HE3.out.2.1), (hBW.block _ (by have := HB4.out.size; have := Go.Proofs.YtgbihmafmmeicaaGreatDoor.hlt HE3.out.2.2; omega)).trans ((HB4.out.block _ (Go.Proofs.YtgbihmafmmeicaaGreatDoor.hlt HE3.out.2.2)).trans HE3.out.2.2), hH0, hH1, hH2⟩
  have HQ5 : Hid (W5.cell? ⟨yb, yo + 46 + 10, none⟩ = some (.slice (some ⟨bb, bo, none⟩) 1 bc) ∧ W5.cell? ⟨yb, yo + 11, none⟩ = some (.int .i64 0) ∧ W5.cell? ⟨bb, bo, none⟩ = some (.int .i64 1)) := Lib.hid ⟨sees_bel hBW _ _ HQ.out.1, sees_bel hBW _ _ HQ.out.2.1, sees_bel hBW _ _ HQ.out.2.2⟩
  clear hH0 hH1 hH2 hBW
  go_wp2_with fail
  refine ((san_vis (g := w.heap.size) (sList HS5.out.b0 HS5.out.i0 HS5.out.l0) 0 9).mono (fun e w2 h => visNone h (.inl ⟨rfl, rfl⟩))).mono ?_
  intro e W6 hv
  obtain ⟨a6, c6, hv, hb⟩ := hv
  subst hv
  have HS6 := Lib.hid (HS5.out.bel hb)
  have HW6 := Lib.hid (HW5.out.trans (hb.mono HW5.out.size))
  have HQ6 : Hid (W6.cell? ⟨yb, yo + 46 + 10, none⟩ = some (.slice (some ⟨bb, bo, none⟩) 1 bc) ∧ W6.cell? ⟨yb, yo + 11, none⟩ = some (.int .i64 0) ∧ W6.cell? ⟨bb, bo, none⟩ = some (.int .i64 1)) := Lib.hid ⟨sees_bel hb _ _ HQ5.out.1, sees_bel hb _ _ HQ5.out.2.1, sees_bel hb _ _ HQ5.out.2.2⟩
  clear hb HS5 HW5 HQ5
  go_wp2_with fail
  refine ((san_vis (g := w.heap.size) (sList HS6.out.b0 HS6.out.i0 HS6.out.l0) 4 10).mono (fun e w2 h => visNone h (.inr rfl))).mono ?_
  intro e W7 hv
  obtain ⟨a7, c7, hv, hb⟩ := hv
  subst hv
  have HS7 := Lib.hid (HS6.out.bel hb)
  have HW7 := Lib.hid (HW6.out.trans (hb.mono HW6.out.size))
  have HQ7 : Hid (W7.cell? ⟨yb, yo + 46 + 10, none⟩ = some (.slice (some ⟨bb, bo, none⟩) 1 bc) ∧ W7.cell? ⟨yb, yo + 11, none⟩ = some (.int .i64 0) ∧ W7.cell? ⟨bb, bo, none⟩ = some (.int .i64 1)) := Lib.hid ⟨sees_bel hb _ _ HQ6.out.1, sees_bel hb _ _ HQ6.out.2.1, sees_bel hb _ _ HQ6.out.2.2⟩
  clear hb HS6 HW6 HQ6
  go_wp2_with fail
  refine ((san_out (g := w.heap.size) (sList HS7.out.b0 HS7.out.i0 HS7.out.l0) 0 9).mono (fun e w2 h => outLen h sO9)).mono ?_
  intro e W8 hv
  obtain ⟨a8, c8, hv, hb⟩ := hv
  subst hv
  have HS8 := Lib.hid (HS7.out.bel hb)
  have HW8 := Lib.hid (HW7.out.trans (hb.mono HW7.out.size))
  have HQ8 : Hid (W8.cell? ⟨yb, yo + 46 + 10, none⟩ = some (.slice (some ⟨bb, bo, none⟩) 1 bc) ∧ W8.cell? ⟨yb, yo + 11, none⟩ = some (.int .i64 0) ∧ W8.cell? ⟨bb, bo, none⟩ = some (.int .i64 1)) := Lib.hid ⟨sees_bel hb _ _ HQ7.out.1, sees_bel hb _ _ HQ7.out.2.1, sees_bel hb _ _ HQ7.out.2.2⟩
  clear hb HS7 HW7 HQ7
  go_wp2_with fail
  refine ((san_out (g := w.heap.size) (sList HS8.out.b0 HS8.out.i0 HS8.out.l0) 0 10).mono (fun e w2 h => outLen h sO10)).mono ?_
  intro e W9 hv
  obtain ⟨a9, c9, hv, hb⟩ := hv
  subst hv
  have HS9 := Lib.hid (HS8.out.bel hb)
  have HW9 := Lib.hid (HW8.out.trans (hb.mono HW8.out.size))
  have HQ9 : Hid (W9.cell? ⟨yb, yo + 46 + 10, none⟩ = some (.slice (some ⟨bb, bo, none⟩) 1 bc) ∧ W9.cell? ⟨yb, yo + 11, none⟩ = some (.int .i64 0) ∧ W9.cell? ⟨bb, bo, none⟩ = some (.int .i64 1)) := Lib.hid ⟨sees_bel hb _ _ HQ8.out.1, sees_bel hb _ _ HQ8.out.2.1, sees_bel hb _ _ HQ8.out.2.2⟩
  clear hb HS8 HW8 HQ8
  have k1 := HQ9.out.1
  have k2 := HQ9.out.2.1
  have k3 := HQ9.out.2.2
  go_wp2_with fail
  refine (san_next0 (g := w.heap.size) (sList HS9.out.b0 HS9.out.i0 HS9.out.l0)).mono ?_
  intro e W10 hv
  obtain ⟨hv, hb⟩ := hv
  subst hv
  clear k1 k2 k3
  have HS10 := Lib.hid (HS9.out.bel hb)
  have HW10 := Lib.hid (HW9.out.trans (hb.mono HW9.out.size))
  have HQ10 : Hid (W10.cell? ⟨yb, yo + 46 + 10, none⟩ = some (.slice (some ⟨bb, bo, none⟩) 1 bc) ∧ W10.cell? ⟨yb, yo + 11, none⟩ = some (.int .i64 0) ∧ W10.cell? ⟨bb, bo, none⟩ = some (.int .i64 1)) := Lib.hid ⟨sees_bel hb _ _ HQ9.out.1, sees_bel hb _ _ HQ9.out.2.1, sees_bel hb _ _ HQ9.out.2.2⟩
  clear hb HS9 HW9 HQ9
  go_wp2_with fail
  refine (san_next10 (g := w.heap.size) (sList HS10.out.b0 HS10.out.i0 HS10.out.l0)).mono ?_
  intro e W11 hv
  obtain ⟨hv, hb⟩ := hv
  subst hv
  have HS11 := Lib.hid (HS10.out.bel hb)
  have HW11 := Lib.hid (HW10.out.trans (hb.mono HW10.out.size))
  have HQ11 : Hid (W11.cell? ⟨yb, yo + 46 + 10, none⟩ = some (.slice (some ⟨bb, bo, none⟩) 1 bc) ∧ W11.cell? ⟨yb, yo + 11, none⟩ = some (.int .i64 0) ∧ W11.cell? ⟨bb, bo, none⟩ = some (.int .i64 1)) := Lib.hid ⟨sees_bel hb _ _ HQ10.out.1, sees_bel hb _ _ HQ10.out.2.1, sees_bel hb _ _ HQ10.out.2.2⟩
  clear hb HS10 HW10 HQ10
  go_wp2_with fail
  refine ((san_outR (g := W4.heap.size) (sRing HS11.out.r0 HS11.out.r1 HS11.out.r2) 0 100).mono (fun e w2 h => outLen h sOR)).mono ?_
  intro e W12 hv
  obtain ⟨a12, c12, hv, hb⟩ := hv
  subst hv
  have HS12 := Lib.hid (HS11.out.bel hb)
  have HW12 := Lib.hid (HW11.out.trans (hb.mono HW11.out.size))
  have HQ12 : Hid (W12.cell? ⟨yb, yo + 46 + 10, none⟩ = some (.slice (some ⟨bb, bo, none⟩) 1 bc) ∧ W12.cell? ⟨yb, yo + 11, none⟩ = some (.int .i64 0) ∧ W12.cell? ⟨bb, bo, none⟩ = some (.int .i64 1)) := Lib.hid ⟨sees_bel hb _ _ HQ11.out.1, sees_bel hb _ _ HQ11.out.2.1, sees_bel hb _ _ HQ11.out.2.2⟩
  clear hb HS11 HW11 HQ11
  go_wp2_with fail
  go_ret
  exact ⟨rfl, HW12.out⟩
end Go.Proofs.YtgbihmafmmeicaaGreatDoor
namespace Go.Proofs.YtgbihmafmmeicaaGreatDoor
open Go.RowKit Mg Go.Shelf

section
variable {ops : Array Oper} {rest : List Oper} {o : Oper} {a : Act} {w : World} {Q : Exit → Act → World → Prop} {K : Act → World → Prop}
end
set_option maxHeartbeats 400000 in
theorem at_any2 (a b : Int) (ha : okI a) (hb : okI b) (w : World) :
    Calls Tryz.prog 13 #[.agg #[.int .i64 a, .int .i64 b]] w fun r w' => r = .returned (.tuple #[.int .i64 (pickF a 4), .int .i64 (pickF b 25)]) ∧ Below w.heap.size w w' := by
  have c1 := fun W k => pick_quiet a 4 ha (by omega) (by omega) W k
  have c2 := fun W k => pick_quiet b 25 hb (by omega) (by omega) W k
  generalize pickF a 4 = pa at *
  generalize pickF b 25 = pb at *
  clear ha hb
  go_enter Tryz.func13, Tryz.ntmps13
  go_wp2_with fail
  generalize hW : w.alloc _ = W1
  have k0 : W1.cell? ⟨w.heap.size, 0, none⟩ = some (.int .i64 a) := by rw [← hW]; simp
  have k1 : W1.cell? ⟨w.heap.size, 1, none⟩ = some (.int .i64 b) := by rw [← hW]; simp
  have hB : Hid (Below w.heap.size w W1) := Lib.hid (by rw [← hW]; exact (Below.refl _ w).alloc (Nat.le_refl _) _)
  clear hW
  generalize hH : w.heap.size = H at k0 k1 ⊢
  replace c1 := c1 W1
  replace c2 := c2 W1
  go_quiet ((first | (go_at_call 15; with_reducible exact c1 _) | (go_at_call 15; with_reducible exact c2 _)))
  go_wp2_with fail
  refine bodyPost_ret (v := .tuple #[.int .i64 pa, .int .i64 pb]) (by simp [results, Tryz.results13, go_sem]) rfl ?_
  exact ⟨rfl, below_drewN hB.out nq⟩
end Go.Proofs.YtgbihmafmmeicaaGreatDoor
namespace Go.Proofs.YtgbihmafmmeicaaGreatDoor
open Go.RowKit Mg Go.Shelf

set_option maxRecDepth 100000 in
set_option maxHeartbeats 8000000 in
theorem rsame_any {mem : Addr → Option Value} (e1 e2 : FctE) (h1 : e1.ok mem) (h2 : e2.ok mem) (he : e1.f = e2.f) (w : World) (hs : Sees mem w) :
    Calls Tryz.prog 41 #[.agg e1.cells, .agg e2.cells] w fun e w' => e = .returned (.bool true) ∧ Below w.heap.size w w' := by
  obtain ⟨f, ta, tc, ba, bc, aa, ac⟩ := e1
  obtain ⟨f', ta2, tc2, ba2, bc2, aa2, ac2⟩ := e2
  obtain rfl : f = f' := he
  have hp : Parts mem f (.slice ta f.topics.length tc) (.slice ba f.blocks.length bc) (.slice aa f.lab.after.length ac) := h1.parts
  have hq : Parts mem f (.slice ta2 f.topics.length tc2) (.slice ba2 f.blocks.length bc2) (.slice aa2 f.lab.after.length ac2) := h2.parts
  have HS := Lib.hid hs
  obtain ⟨ta', tc', tb, tq, et, htc, htm, hta, hts, htt⟩ := hp.1.open_ (w := w) hs
  obtain ⟨ta2', tc2', tb2, tq2, et2, htc2, htm2, hta2, hts2, htt2⟩ := hq.1.open_ (w := w) hs
  injection et with et1 et2' et3
  subst et1 et3
  injection et2 with eu1 eu2 eu3
  subst eu1 eu3
  have H2 : Hid (∀ W, Sees mem W → Calls Tryz.prog 56 #[.slice ba f.blocks.length bc, .slice ba2 f.blocks.length bc2] W fun e w' => e = .returned (.bool true) ∧ Below W.heap.size W w') := Lib.hid fun W hW => by
    have h := sameListR_any hp.2.1 hq.2.1 W hW
    rwa [decide_eq_true rfl] at h
  have H3 : Hid (∀ W, Sees mem W → Calls Tryz.prog 26 #[.agg (labCells f.lab (.slice aa f.lab.after.length ac)), .agg (labCells f.lab (.slice aa2 f.lab.after.length ac2))] W fun e w' => e = .returned (.bool true) ∧ Below W.heap.size W w') := Lib.hid fun W hW => by
    have h := labSameR_any f.lab f.lab _ _ hp.2.2 hq.2.2 W hW
    rwa [decide_eq_true rfl] at h
  have HTA := Lib.hid (And.intro hta hta2)
  have HTT := Lib.hid (And.intro htt htt2)
  have htl : (f.topics.length : Int) ≤ 9223372036854775807 := by unfold maxLen at htm; omega
  have HN1 := Lib.hid (heap_new1 w (.cells (⟨f, ta, tc, ba, bc, aa, ac⟩ : FctE).cells 45) (.cells (⟨f, ta2, tc2, ba2, bc2, aa2, ac2⟩ : FctE).cells 45))
  have HN2 := Lib.hid (heap_new2 w (.cells (⟨f, ta, tc, ba, bc, aa, ac⟩ : FctE).cells 45) (.cells (⟨f, ta2, tc2, ba2, bc2, aa2, ac2⟩ : FctE).cells 45))
  have HB : Hid (Below w.heap.size w ((w.alloc (.cells (⟨f, ta, tc, ba, bc, aa, ac⟩ : FctE).cells 45)).alloc (.cells (⟨f, ta2, tc2, ba2, bc2, aa2, ac2⟩ : FctE).cells 45))) := Lib.hid (((Below.refl _ w).alloc (Nat.le_refl _) _).alloc (by simp) _)
  clear hp hq hs h1 h2 hta hta2 htt htt2 htc htm htc2 htm2 hts hts2 et2' eu2
  go_enter Tryz.func41, Tryz.ntmps41
  go_upto_region 1 with fail
  generalize hW1 : World.alloc (World.alloc w _) _ = W1 at *
  clear hW1
  have d9 : W1.cell? ⟨w.heap.size, 9, none⟩ = some (.slice ta f.topics.length tc) := blk_cell HN1.out 9
  have k9 : W1.cell? ⟨w.heap.size + 1, 9, none⟩ = some (.slice ta2 f.topics.length tc2) := blk_cell HN2.out 9
  go_wp2_with fail
  clear d9 k9
  go_loopw [5] (fun i wr => ∃ k : Nat, k ≤ f.topics.length ∧ i = .int .i64 k ∧ Below W1.heap.size W1 wr) (fun i _ => f.topics.length - (intOf i).toNat)
  case atStart => exact ⟨0, Nat.zero_le _, rfl, Below.refl _ _⟩
  case round =>
    obtain ⟨k, hk, rfl, hb⟩ := hrel
    obtain ⟨wo, rfl⟩ : ∃ wo, wo = wr := ⟨_, rfl⟩
    have hg1 := (hb.block _ (Go.Proofs.YtgbihmafmmeicaaGreatDoor.hlt HN1.out)).trans HN1.out
    have hg2 := (hb.block _ (Go.Proofs.YtgbihmafmmeicaaGreatDoor.hlt HN2.out)).trans HN2.out
    have HBW := Lib.hid hb
    have HG := Lib.hid (And.intro hg1 hg2)
    have d9 : wo.cell? ⟨w.heap.size, 9, none⟩ = some (.slice ta f.topics.length tc) := blk_cell hg1 9
    have k9 : wo.cell? ⟨w.heap.size + 1, 9, none⟩ = some (.slice ta2 f.topics.length tc2) := blk_cell hg2 9
    by_cases hlt : k < f.topics.length
    · obtain rfl := HTA.out.1 (by omega)
      obtain rfl := HTA.out.2 (by omega)
      have hbw := HB.out.trans (hb.mono HB.out.size)
      have c1 := (hbw.cell (World.block_lt_of_cell? _ _ (HTT.out.1 k hlt))).trans (HTT.out.1 k hlt)
      have c2 := (hbw.cell (World.block_lt_of_cell? _ _ (HTT.out.2 k hlt))).trans (HTT.out.2 k hlt)
      have hkl : (k : Int) < f.topics.length := by omega
      generalize f.topics[k] = s at c1 c2
      have HSS : Hid (wo.drew.cell? ⟨w.heap.size, 9, none⟩ = some (.slice (some ⟨tb, tq, none⟩) f.topics.length tc) ∧ wo.drew.cell? ⟨w.heap.size + 1, 9, none⟩ = some (.slice (some ⟨tb2, tq2, none⟩) f.topics.length tc2) ∧ wo.drew.cell? ⟨tb, tq + k, none⟩ = some (.string s) ∧ wo.drew.cell? ⟨tb2, tq2 + k, none⟩ = some (.string s)) := Lib.hid ⟨d9, k9, c1, c2⟩
      clear hb hg1 hg2 hbw c1 c2
      go_upto_region 6 with fail
      clear d9 k9
      refine wp_mix [mT, mT, mT, mT, mT, mT, mT, mT, mT, mT, mF] 1000 (fun W2 => W2.cell? ⟨w.heap.size, 9, none⟩ = some (.slice (some ⟨tb, tq, none⟩) f.topics.length tc) ∧ W2.cell? ⟨w.heap.size + 1, 9, none⟩ = some (.slice (some ⟨tb2, tq2, none⟩) f.topics.length tc2) ∧ W2.cell? ⟨tb, tq + k, none⟩ = some (.string s) ∧ W2.cell? ⟨tb2, tq2 + k, none⟩ = some (.string s)) (by kernel_rfl) (by kernel_rfl) HSS.out ?_
      refine wpMix_take (.pointer (some ⟨w.heap.size, 9, none⟩)) (fun _ _ _ _ h => h) HSS.out (by rfl) (fun W2 hW => by go_simp) ?_
      simp only [Act.put, List.setIfInBounds_toArray, List.set_cons_zero, List.set_cons_succ]
      refine wpMix_take (.slice (some ⟨tb, tq, none⟩) f.topics.length tc) (fun _ _ _ _ h => h) HSS.out (by rfl) (fun W2 hW => by have q0 := hW.1; go_simp) ?_
      simp only [Act.put, List.setIfInBounds_toArray, List.set_cons_zero, List.set_cons_succ]
      refine wpMix_take (.int .i64 k) (fun _ _ _ _ h => h) HSS.out (by rfl) (fun W2 hW => by go_simp) ?_
      simp only [Act.put, List.setIfInBounds_toArray, List.set_cons_zero, List.set_cons_succ]
      refine wpMix_take (.pointer (some ⟨tb, tq + k, none⟩)) (fun _ _ _ _ h => h) HSS.out (by rfl) (fun W2 hW => by go_simp) ?_
      simp only [Act.put, List.setIfInBounds_toArray, List.set_cons_zero, List.set_cons_succ]
      refine wpMix_take (.string s) (fun _ _ _ _ h => h) HSS.out (by rfl) (fun W2 hW => by have q0 := hW.2.2.1; go_simp) ?_
      simp only [Act.put, List.setIfInBounds_toArray, List.set_cons_zero, List.set_cons_succ]
      refine wpMix_take (.pointer (some ⟨w.heap.size + 1, 9, none⟩)) (fun _ _ _ _ h => h) HSS.out (by rfl) (fun W2 hW => by go_simp) ?_
      simp only [Act.put, List.setIfInBounds_toArray, List.set_cons_zero, List.set_cons_succ]
      refine wpMix_take (.slice (some ⟨tb2, tq2, none⟩) f.topics.length tc2) (fun _ _ _ _ h => h) HSS.out (by rfl) (fun W2 hW => by have q0 := hW.2.1; go_simp) ?_
      simp only [Act.put, List.setIfInBounds_toArray, List.set_cons_zero, List.set_cons_succ]
      refine wpMix_take (.int .i64 k) (fun _ _ _ _ h => h) HSS.out (by rfl) (fun W2 hW => by go_simp) ?_
      simp only [Act.put, List.setIfInBounds_toArray, List.set_cons_zero, List.set_cons_succ]
      refine wpMix_take (.pointer (some ⟨tb2, tq2 + k, none⟩)) (fun _ _ _ _ h => h) HSS.out (by rfl) (fun W2 hW => by go_simp) ?_
      simp only [Act.put, List.setIfInBounds_toArray, List.set_cons_zero, List.set_cons_succ]
      refine wpMix_take (.string s) (fun _ _ _ _ h => h) HSS.out (by rfl) (fun W2 hW => by have q0 := hW.2.2.2; go_simp) ?_
      simp only [Act.put, List.setIfInBounds_toArray, List.set_cons_zero, List.set_cons_succ]
      refine wpMix_step (fun K hK => ?_); go_simp; refine hK _ _ HSS.out ?_; clear hK K
      refine wpMix_nil ?_
      go_wp2_with fail
      go_roundw
      case rel => exact ⟨k + 1, by omega, by go_num, HBW.out.drew⟩
      case measure => simp [intOf]; omega
    · have HBw := Lib.hid (HB.out.trans (hb.mono HB.out.size))
      clear hb hg1 hg2
      go_upto_region 8 with fail
      have d10 : wo.cell? ⟨w.heap.size, 10, none⟩ = some (.slice ba f.blocks.length bc) := blk_cell HG.out.1 10
      have k10 : wo.cell? ⟨w.heap.size + 1, 10, none⟩ = some (.slice ba2 f.blocks.length bc2) := blk_cell HG.out.2 10
      clear d9 k9 hk hlt
      go_wp2_with fail
      refine (H2.out _ (HS.out.bel HBw.out)).mono ?_
      rintro e w2 ⟨rfl, hb⟩
      clear d10 k10
      have hg1 := (hb.block _ (Go.Proofs.YtgbihmafmmeicaaGreatDoor.hlt HG.out.1)).trans HG.out.1
      have hg2 := (hb.block _ (Go.Proofs.YtgbihmafmmeicaaGreatDoor.hlt HG.out.2)).trans HG.out.2
      have HG2 := Lib.hid (And.intro hg1 hg2)
      have HB2 := Lib.hid (HBw.out.trans (hb.mono HBw.out.size))
      have d11 : w2.cell? ⟨w.heap.size, 11, none⟩ = some (.int .i64 f.lab.till) := blk_cell hg1 11
      have d12 : w2.cell? ⟨w.heap.size, 12, none⟩ = some (.slice aa f.lab.after.length ac) := blk_cell hg1 12
      have d13 : w2.cell? ⟨w.heap.size, 13, none⟩ = some (.int .i64 f.lab.appr) := blk_cell hg1 13
      have d14 : w2.cell? ⟨w.heap.size, 14, none⟩ = some (.int .i64 f.lab.denied) := blk_cell hg1 14
      have k11 : w2.cell? ⟨w.heap.size + 1, 11, none⟩ = some (.int .i64 f.lab.till) := blk_cell hg2 11
      have k12 : w2.cell? ⟨w.heap.size + 1, 12, none⟩ = some (.slice aa2 f.lab.after.length ac2) := blk_cell hg2 12
      have k13 : w2.cell? ⟨w.heap.size + 1, 13, none⟩ = some (.int .i64 f.lab.appr) := blk_cell hg2 13
      have k14 : w2.cell? ⟨w.heap.size + 1, 14, none⟩ = some (.int .i64 f.lab.denied) := blk_cell hg2 14
      clear hb hg1 hg2 HG HBw
      go_wp2_with fail
      refine (H3.out _ (HS.out.bel HB2.out)).mono ?_
      rintro e w3 ⟨rfl, hb⟩
      clear d11 d12 d13 d14 k11 k12 k13 k14
      have hg1 := (hb.block _ (Go.Proofs.YtgbihmafmmeicaaGreatDoor.hlt HG2.out.1)).trans HG2.out.1
      have hg2 := (hb.block _ (Go.Proofs.YtgbihmafmmeicaaGreatDoor.hlt HG2.out.2)).trans HG2.out.2
      have HB3 := Lib.hid (HB2.out.trans (hb.mono HB2.out.size))
      have d0 : w3.cell? ⟨w.heap.size, 0, none⟩ = some (.int .i64 f.n) := blk_cell hg1 0
      have k0 : w3.cell? ⟨w.heap.size + 1, 0, none⟩ = some (.int .i64 f.n) := blk_cell hg2 0
      have d1 : w3.cell? ⟨w.heap.size, 1, none⟩ = some (.int .i64 f.time) := blk_cell hg1 1
      have k1 : w3.cell? ⟨w.heap.size + 1, 1, none⟩ = some (.int .i64 f.time) := blk_cell hg2 1
      have d2 : w3.cell? ⟨w.heap.size, 2, none⟩ = some (.int .i64 f.kind) := blk_cell hg1 2
      have k2 : w3.cell? ⟨w.heap.size + 1, 2, none⟩ = some (.int .i64 f.kind) := blk_cell hg2 2
      have d3 : w3.cell? ⟨w.heap.size, 3, none⟩ = some (.int .i64 f.story) := blk_cell hg1 3
      have k3 : w3.cell? ⟨w.heap.size + 1, 3, none⟩ = some (.int .i64 f.story) := blk_cell hg2 3
      have d4 : w3.cell? ⟨w.heap.size, 4, none⟩ = some (.string f.lang) := blk_cell hg1 4
      have k4 : w3.cell? ⟨w.heap.size + 1, 4, none⟩ = some (.string f.lang) := blk_cell hg2 4
      have d5 : w3.cell? ⟨w.heap.size, 5, none⟩ = some (.int .i64 f.rev) := blk_cell hg1 5
      have k5 : w3.cell? ⟨w.heap.size + 1, 5, none⟩ = some (.int .i64 f.rev) := blk_cell hg2 5
      have d6 : w3.cell? ⟨w.heap.size, 6, none⟩ = some (.int .i64 f.base) := blk_cell hg1 6
      have k6 : w3.cell? ⟨w.heap.size + 1, 6, none⟩ = some (.int .i64 f.base) := blk_cell hg2 6
      have d7 : w3.cell? ⟨w.heap.size, 7, none⟩ = some (.string f.title) := blk_cell hg1 7
      have k7 : w3.cell? ⟨w.heap.size + 1, 7, none⟩ = some (.string f.title) := blk_cell hg2 7
      have d8 : w3.cell? ⟨w.heap.size, 8, none⟩ = some (.string f.author) := blk_cell hg1 8
      have k8 : w3.cell? ⟨w.heap.size + 1, 8, none⟩ = some (.string f.author) := blk_cell hg2 8
      have d15 : w3.cell? ⟨w.heap.size, 15, none⟩ = some (.int .i64 f.editor) := blk_cell hg1 15
      have k15 : w3.cell? ⟨w.heap.size + 1, 15, none⟩ = some (.int .i64 f.editor) := blk_cell hg2 15
      have d16 : w3.cell? ⟨w.heap.size, 16, none⟩ = some (.int .i64 f.block) := blk_cell hg1 16
      have k16 : w3.cell? ⟨w.heap.size + 1, 16, none⟩ = some (.int .i64 f.block) := blk_cell hg2 16
      have d17 : w3.cell? ⟨w.heap.size, 17, none⟩ = some (.int .i64 f.sentence) := blk_cell hg1 17
      have k17 : w3.cell? ⟨w.heap.size + 1, 17, none⟩ = some (.int .i64 f.sentence) := blk_cell hg2 17
      have d18 : w3.cell? ⟨w.heap.size, 18, none⟩ = some (.string f.text) := blk_cell hg1 18
      have k18 : w3.cell? ⟨w.heap.size + 1, 18, none⟩ = some (.string f.text) := blk_cell hg2 18
      have d19 : w3.cell? ⟨w.heap.size, 19, none⟩ = some (.string f.name) := blk_cell hg1 19
      have k19 : w3.cell? ⟨w.heap.size + 1, 19, none⟩ = some (.string f.name) := blk_cell hg2 19
      have d20 : w3.cell? ⟨w.heap.size, 20, none⟩ = some (.int .i64 f.partner) := blk_cell hg1 20
      have k20 : w3.cell? ⟨w.heap.size + 1, 20, none⟩ = some (.int .i64 f.partner) := blk_cell hg2 20
      have d21 : w3.cell? ⟨w.heap.size, 21, none⟩ = some (.int .i64 f.cls) := blk_cell hg1 21
      have k21 : w3.cell? ⟨w.heap.size + 1, 21, none⟩ = some (.int .i64 f.cls) := blk_cell hg2 21
      have d22 : w3.cell? ⟨w.heap.size, 22, none⟩ = some (.int .i64 f.till) := blk_cell hg1 22
      have k22 : w3.cell? ⟨w.heap.size + 1, 22, none⟩ = some (.int .i64 f.till) := blk_cell hg2 22
      clear hb hg1 hg2 HG2 HB2 H2 H3 HS HB HTA HTT HN1 HN2
      go_wp2_with fail
      go_ret
      exact ⟨rfl, HB3.out⟩
set_option maxRecDepth 100000 in
set_option maxHeartbeats 2000000 in
theorem rsameList_any {mem : Addr → Option Value} (v1 v2 : Value) (es1 es2 : List FctE) (h1 : EsM mem v1 es1) (h2 : EsM mem v2 es2) (he : es1.map FctE.f = es2.map FctE.f) (w : World) (hs : Sees mem w) :
    Calls Tryz.prog 23 #[v1, v2] w fun e w' => e = .returned (.bool true) ∧ Below w.heap.size w w' := by
  obtain ⟨a1, c1, b1, o1, rfl, hm1, ha1, he1⟩ := h1.open_
  obtain ⟨a2, c2, b2, o2, rfl, hm2, ha2, he2⟩ := h2.open_
  unfold maxLen at hm1 hm2
  have hlen : es1.length = es2.length := by have := congrArg List.length he; rwa [List.length_map, List.length_map] at this
  have HLEN := Lib.hid hlen
  have HS := Lib.hid hs
  have HA1 := Lib.hid ha1
  have HA2 := Lib.hid ha2
  have HE1 := Lib.hid he1
  have HE2 := Lib.hid he2
  have HF : Hid (∀ k (h1 : k < es1.length) (h2 : k < es2.length), es1[k].f = es2[k].f) := Lib.hid (fun k h1 h2 => by
    have e1 : (es1.map FctE.f)[k]? = (es2.map FctE.f)[k]? := by rw [he]
    rw [List.getElem?_map, List.getElem?_map, List.getElem?_eq_getElem h1, List.getElem?_eq_getElem h2] at e1
    simpa using e1)
  have hl1 : (es1.length : Int) ≤ 9223372036854775807 := by omega
  rw [show (Value.slice a2 es2.length c2) = .slice a2 es1.length c2 by rw [hlen]]
  clear hs ha1 ha2 he1 he2 h1 h2 hm1 hm2 hlen he
  go_enter Tryz.func23, Tryz.ntmps23
  go_wp2_with fail
  go_loopw [5] (fun i wr => ∃ k : Nat, k ≤ es1.length ∧ i = .int .i64 k ∧ Below w.heap.size w wr) (fun i _ => es1.length - (intOf i).toNat)
  case atStart => exact ⟨0, Nat.zero_le _, rfl, Below.refl _ _⟩
  case round =>
    obtain ⟨k, hk, rfl, hb⟩ := hrel
    obtain ⟨wo, rfl⟩ : ∃ wo, wo = wr := ⟨_, rfl⟩
    by_cases hlt : k < es1.length
    · obtain rfl := HA1.out (by omega)
      obtain rfl := HA2.out (by have := HLEN.out; omega)
      have hlt2 : k < es2.length := by have := HLEN.out; omega
      obtain ⟨hok1, hat1⟩ := HE1.out k hlt
      obtain ⟨hok2, hat2⟩ := HE2.out k hlt2
      have hsw := HS.out.bel hb
      have HAT1 : Hid (es1[k].at (fun p => wo.cell? p) b1 (o1 + k * 23)) := Lib.hid (fun j u hj => hsw _ _ (hat1 j u hj))
      have HAT2 : Hid (es2[k].at (fun p => wo.cell? p) b2 (o2 + k * 23)) := Lib.hid (fun j u hj => hsw _ _ (hat2 j u hj))
      have HC := Lib.hid (rsame_any es1[k] es2[k] hok1 hok2 (HF.out k hlt hlt2) wo.drew hsw)
      have HB := Lib.hid hb
      clear hok1 hat1 hok2 hat2 hsw hb
      generalize es1[k] = x at *
      generalize es2[k] = y at *
      clear hlt2
      have HSS : Hid (x.at (fun p => wo.drew.cell? p) b1 (o1 + k * 23) ∧ y.at (fun p => wo.drew.cell? p) b2 (o2 + k * 23)) := Lib.hid ⟨HAT1.out, HAT2.out⟩
      go_upto_region 6 with fail
      refine wp_mix [mT, mT, mT, mT, mT, mT, mT, mT, mF, mF] 1000 (fun W2 => x.at (fun p => W2.cell? p) b1 (o1 + k * 23) ∧ y.at (fun p => W2.cell? p) b2 (o2 + k * 23)) (by kernel_rfl) (by kernel_rfl) HSS.out ?_
      refine wpMix_take (.slice (some ⟨b1, o1, none⟩) es1.length c1) (fun _ _ _ _ h => h) HSS.out (by rfl) (fun W2 hW => by go_simp) ?_
      simp only [Act.put, List.setIfInBounds_toArray, List.set_cons_zero, List.set_cons_succ]
      refine wpMix_take (.int .i64 k) (fun _ _ _ _ h => h) HSS.out (by rfl) (fun W2 hW => by go_simp) ?_
      simp only [Act.put, List.setIfInBounds_toArray, List.set_cons_zero, List.set_cons_succ]
      refine wpMix_take (.pointer (some ⟨b1, o1 + k * 23, none⟩)) (fun _ _ _ _ h => h) HSS.out (by rfl) (fun W2 hW => by go_simp) ?_
      simp only [Act.put, List.setIfInBounds_toArray, List.set_cons_zero, List.set_cons_succ]
      refine wpMix_take (.agg x.cells) (fun _ _ _ _ h => h) HSS.out (by rfl) (fun W2 hW => exec_fct_mid _ rfl (by simp [Act.eval]) hW.1) ?_
      simp only [Act.put, List.setIfInBounds_toArray, List.set_cons_zero, List.set_cons_succ]
      refine wpMix_take (.slice (some ⟨b2, o2, none⟩) es1.length c2) (fun _ _ _ _ h => h) HSS.out (by rfl) (fun W2 hW => by go_simp) ?_
      simp only [Act.put, List.setIfInBounds_toArray, List.set_cons_zero, List.set_cons_succ]
      refine wpMix_take (.int .i64 k) (fun _ _ _ _ h => h) HSS.out (by rfl) (fun W2 hW => by go_simp) ?_
      simp only [Act.put, List.setIfInBounds_toArray, List.set_cons_zero, List.set_cons_succ]
      refine wpMix_take (.pointer (some ⟨b2, o2 + k * 23, none⟩)) (fun _ _ _ _ h => h) HSS.out (by rfl) (fun W2 hW => by go_simp) ?_
      simp only [Act.put, List.setIfInBounds_toArray, List.set_cons_zero, List.set_cons_succ]
      refine wpMix_take (.agg y.cells) (fun _ _ _ _ h => h) HSS.out (by rfl) (fun W2 hW => exec_fct_mid _ rfl (by simp [Act.eval]) hW.2) ?_
      simp only [Act.put, List.setIfInBounds_toArray, List.set_cons_zero, List.set_cons_succ]
      refine wpMix_step (fun K hK => ?_)
      go_simp
      refine (HC.out.mono ?_)
      rintro e w3 ⟨rfl, hb3⟩
      dsimp only
      have HB3 : Hid (Below w.heap.size w w3) := Lib.hid (HB.out.drew.trans (hb3.mono HB.out.size))
      have HSS3 : Hid (x.at (fun p => w3.cell? p) b1 (o1 + k * 23) ∧ y.at (fun p => w3.cell? p) b2 (o2 + k * 23)) := Lib.hid ⟨fun j u hj => sees_bel hb3 _ _ (HSS.out.1 j u hj), fun j u hj => sees_bel hb3 _ _ (HSS.out.2 j u hj)⟩
      refine hK _ _ HSS3.out ?_
      clear hK K hb3
      refine wpMix_step (fun K hK => ?_); go_simp; refine hK _ _ HSS3.out ?_; clear hK K
      refine wpMix_nil ?_
      go_wp2_with fail
      go_roundw
      case rel => exact ⟨k + 1, by omega, by go_num, HB3.out⟩
      case measure => simp [intOf]; omega
    · obtain rfl : k = es1.length := by omega
      have HB := Lib.hid hb
      clear hb
      go_wp2_with fail
      go_ret
      exact ⟨rfl, HB.out⟩
end Go.Proofs.YtgbihmafmmeicaaGreatDoor
namespace Go.Proofs.YtgbihmafmmeicaaGreatDoor
open Go.RowKit Mg Go.Shelf

theorem isText5_any (s : ByteArray) (w : World) (hs : s.size ≤ maxLen) : Calls Tryz.prog 60 #[.string s] w fun e w' => e = .returned (.bool (fullOK s)) ∧ w = w' := by
  have c1 := Lib.hid (isTextR_any s w hs)
  by_cases hem : s.data.toList = []
  · have q1 := lang_t s hem
    have HZ : Hid (fullOK s = false) := Lib.hid (by
      unfold fullOK
      have : s.size = 0 := by
        have := congrArg List.length hem
        simpa using this
      rw [this]; rfl)
    clear hem hs
    go_enter Tryz.func60, Tryz.ntmps60
    go_wp2_with fail
    go_ret
    exact ⟨by rw [HZ.out]; rfl, rfl⟩
  · have q1 := lang_f s hem
    have q2 : (!s.toList.isEmpty) = true := by rw [q1]; rfl
    have HZ : Hid (fullOK s = textOK s) := Lib.hid (by
      unfold fullOK
      have : 1 ≤ s.size := by
        rcases Nat.eq_zero_or_pos s.size with h | h
        · exfalso
          apply hem
          apply List.eq_nil_of_length_eq_zero
          simpa using h
        · exact h
      rw [decide_eq_true this]; rfl)
    clear hem hs
    generalize textOK s = q at c1 HZ
    go_enter Tryz.func60, Tryz.ntmps60
    go_wp2_with fail
    refine c1.out.mono ?_
    rintro e w' ⟨rfl, rfl⟩
    cases q
    all_goals
      go_wp2_with fail
      go_ret
      exact ⟨by rw [HZ.out]; rfl, rfl⟩
theorem all_take5 {p : UInt8 → Bool} {l : List UInt8} {k : Nat} (hk : k < l.length) (h : (l.take k).all p = true) : (l.take (k + 1)).all p = p l[k] := by
  rw [List.take_succ_eq_append_getElem hk, List.all_append, h]; simp
theorem all_bad5 {p : UInt8 → Bool} {l : List UInt8} {k : Nat} (hk : k < l.length) (h : p l[k] = false) : l.all p = false := by
  rw [List.all_eq_false]
  exact ⟨l[k], List.getElem_mem hk, by rw [h]; decide⟩
set_option maxHeartbeats 1000000 in
theorem isSource5_any (s : ByteArray) (w : World) (hs : s.size ≤ maxLen) : Calls Tryz.prog 63 #[.string s] w fun e w' => e = .returned (.bool (srcOK s)) ∧ w = w' := by
  unfold maxLen at hs
  have hl : s.data.toList.length = s.size := by simp
  have HL := Lib.hid hl
  clear hl
  go_enter Tryz.func63, Tryz.ntmps63
  go_wp2_with fail
  go_loop [3] (fun i => ∃ k : Nat, k ≤ s.size ∧ i = .int .i64 k ∧ Hid ((s.data.toList.take k).all srcByte = true)) (fun i => s.size - (intOf i).toNat)
  case atStart => exact ⟨0, Nat.zero_le _, rfl, Lib.hid rfl⟩
  case round =>
    obtain ⟨k, hk, rfl, hu⟩ := hrel
    by_cases hlt : k < s.size
    · have hk2 : k < s.data.toList.length := by rw [HL.out]; exact hlt
      have HN := Lib.hid (all_take5 hk2 hu.out)
      have HF := Lib.hid (fun h => all_bad5 (p := srcByte) hk2 h)
      have HE : Hid (s.data.toList[k] = s[k]) := Lib.hid (by simp; rfl)
      have HB : Hid (srcByte s[k] = (decide (s[k].toNat = 10) || (decide (32 ≤ s[k].toNat) && decide (s[k].toNat ≤ 126)))) := Lib.hid rfl
      clear hu
      by_cases h10 : s[k].toNat = 10
      · have HT : Hid ((s.data.toList.take (k + 1)).all srcByte = true) := Lib.hid (by rw [HN.out, HE.out, HB.out, h10]; rfl)
        have b10 : ((s[k].toNat : Nat) : Int) = 10 := by omega
        clear h10
        go_wp2_with fail
        go_round
        case rel => exact ⟨k + 1, by omega, by go_num, HT⟩
        case measure => simp [intOf]; omega
      · have b10 : ((((s[k].toNat : Nat) : Int)) != 10) = true := by simpa using (fun h => h10 (by omega))
        by_cases h32 : s[k].toNat < 32
        · have HSF : Hid (srcOK s = false) := Lib.hid (by unfold srcOK; rw [HF.out (by rw [HE.out, HB.out]; simp; omega)]; simp)
          have b32 : ((s[k].toNat : Nat) : Int) < 32 := by omega
          clear h10 h32
          go_wp2_with fail
          go_ret
          exact ⟨by rw [HSF.out]; rfl, rfl⟩
        · have b32 : ¬ ((s[k].toNat : Nat) : Int) < 32 := by omega
          by_cases h126 : s[k].toNat ≤ 126
          · have HT : Hid ((s.data.toList.take (k + 1)).all srcByte = true) := Lib.hid (by rw [HN.out, HE.out, HB.out]; simp; omega)
            have b126 : ¬ 126 < ((s[k].toNat : Nat) : Int) := by omega
            clear h10 h32 h126
            go_wp2_with fail
            go_round
            case rel => exact ⟨k + 1, by omega, by go_num, HT⟩
            case measure => simp [intOf]; omega
          · have HSF : Hid (srcOK s = false) := Lib.hid (by unfold srcOK; rw [HF.out (by rw [HE.out, HB.out]; simp; omega)]; simp)
            have b126 : 126 < ((s[k].toNat : Nat) : Int) := by omega
            clear h10 h32 h126
            go_wp2_with fail
            go_ret
            exact ⟨by rw [HSF.out]; rfl, rfl⟩
    · obtain rfl : k = s.size := by omega
      have HU : Hid (srcOK s = decide ((s.size : Int) ≤ 1000)) := Lib.hid (by
        have h := hu.out
        rw [← HL.out, List.take_length] at h
        unfold srcOK
        rw [h, Bool.and_true]
        exact decide_eq_decide.2 (by omega))
      clear hu
      by_cases h1 : s.size ≤ 1000
      · have b1 : (s.size : Int) ≤ 1000 := by omega
        have HV : Hid (srcOK s = true) := Lib.hid (by rw [HU.out]; exact decide_eq_true b1)
        clear h1
        go_wp2_with fail
        go_ret
        exact ⟨by rw [HV.out]; rfl, rfl⟩
      · have b1 : ¬ (s.size : Int) ≤ 1000 := by omega
        have HV : Hid (srcOK s = false) := Lib.hid (by rw [HU.out]; exact decide_eq_false b1)
        clear h1
        go_wp2_with fail
        go_ret
        exact ⟨by rw [HV.out]; rfl, rfl⟩
set_option maxRecDepth 10000 in
set_option maxHeartbeats 2000000 in
theorem areTopics5_any {mem : Addr → Option Value} {v : Value} {l : List ByteArray} (h : StrsM mem v l) (w : World) (hs : Sees mem w) :
    Calls Tryz.prog 61 #[v] w fun e w' => e = .returned (.bool (topicsOK l)) ∧ Below w.heap.size w w' := by
  obtain ⟨ao, cap, b, o, rfl, hcap, hm, hao, hsz, hcells⟩ := h.open_ hs
  have HA := Lib.hid hao
  have HC := Lib.hid hcells
  have HZ := Lib.hid (fun j (hj : j < l.length) => hsz l[j] (List.getElem_mem hj))
  have hlen : (l.length : Int) ≤ 9223372036854775807 := by unfold maxLen at hm; omega
  have HSF : Hid (topicsUp l = false → topicsOK l = false) := Lib.hid (fun h => by unfold topicsOK; rw [h, Bool.and_false])
  clear hao hcells hs h hcap hm hsz
  go_enter Tryz.func61, Tryz.ntmps61
  go_wp2_with fail
  go_loopw [3] (fun i wr => ∃ k : Nat, k ≤ l.length ∧ i = .int .i64 k ∧ Hid (topicsUp (l.take k) = true) ∧ Below w.heap.size w wr) (fun i _ => l.length - (intOf i).toNat)
  case atStart => exact ⟨0, Nat.zero_le _, rfl, Lib.hid rfl, Below.refl _ _⟩
  case round =>
    obtain ⟨k, hk, rfl, hu, hb⟩ := hrel
    obtain ⟨wo, rfl⟩ : ∃ wo, wo = wr := ⟨_, rfl⟩
    have HB := Lib.hid hb
    by_cases hlt : k < l.length
    · have c0 := (hb.cell (World.block_lt_of_cell? _ _ (HC.out k hlt))).trans (HC.out k hlt)
      obtain rfl := HA.out (by omega)
      obtain ⟨s1, s2⟩ := topics_step hlt hu.out
      have S1 := Lib.hid s1
      have S2 := Lib.hid s2
      have cn := Lib.hid (isNameR_any l[k] wo (HZ.out k hlt))
      clear s1 s2 hu hb
      cases hq : nameOK l[k] with
      | false =>
        rw [hq] at cn
        have HF := Lib.hid (HSF.out (S2.out (by rw [hq]; rfl)))
        clear hq S1 S2
        generalize l[k] = t at *
        go_wp2_with fail
        refine cn.out.mono ?_
        rintro e w' ⟨rfl, rfl⟩
        go_upto_region 5 with fail
        refine wp_mix [mT, mT, mT, mT, mT, mT, mT, mT, mT, mT, mT, mT, mT, mT, mT, mT, mF, mF] 1000 (fun _ => True) (by kernel_rfl) (by kernel_rfl) trivial ?_
        refine wpMix_take (.bool false) (fun _ _ _ _ h => h) trivial (by rfl) (fun W2 hW => by go_simp) ?_
        simp only [Act.put, List.setIfInBounds_toArray, List.set_cons_zero, List.set_cons_succ]
        refine wpMix_take (.bool true) (fun _ _ _ _ h => h) trivial (by rfl) (fun W2 hW => by go_simp) ?_
        simp only [Act.put, List.setIfInBounds_toArray, List.set_cons_zero, List.set_cons_succ]
        refine wpMix_take (.bool true) (fun _ _ _ _ h => h) trivial (by rfl) (fun W2 hW => by go_simp) ?_
        simp only [Act.put, List.setIfInBounds_toArray, List.set_cons_zero, List.set_cons_succ]
        refine wpMix_skip (fun _ _ _ _ h => h) trivial (by rfl) ?_
        simp only [Act.put, List.setIfInBounds_toArray, List.set_cons_zero, List.set_cons_succ]
        refine wpMix_skip (fun _ _ _ _ h => h) trivial (by rfl) ?_
        simp only [Act.put, List.setIfInBounds_toArray, List.set_cons_zero, List.set_cons_succ]
        refine wpMix_skip (fun _ _ _ _ h => h) trivial (by rfl) ?_
        simp only [Act.put, List.setIfInBounds_toArray, List.set_cons_zero, List.set_cons_succ]
        refine wpMix_skip (fun _ _ _ _ h => h) trivial (by rfl) ?_
        simp only [Act.put, List.setIfInBounds_toArray, List.set_cons_zero, List.set_cons_succ]
        refine wpMix_skip (fun _ _ _ _ h => h) trivial (by rfl) ?_
        simp only [Act.put, List.setIfInBounds_toArray, List.set_cons_zero, List.set_cons_succ]
        refine wpMix_skip (fun _ _ _ _ h => h) trivial (by rfl) ?_
        simp only [Act.put, List.setIfInBounds_toArray, List.set_cons_zero, List.set_cons_succ]
        refine wpMix_skip (fun _ _ _ _ h => h) trivial (by rfl) ?_
        simp only [Act.put, List.setIfInBounds_toArray, List.set_cons_zero, List.set_cons_succ]
        refine wpMix_skip (fun _ _ _ _ h => h) trivial (by rfl) ?_
        simp only [Act.put, List.setIfInBounds_toArray, List.set_cons_zero, List.set_cons_succ]
        refine wpMix_skip (fun _ _ _ _ h => h) trivial (by rfl) ?_
        simp only [Act.put, List.setIfInBounds_toArray, List.set_cons_zero, List.set_cons_succ]
        refine wpMix_skip (fun _ _ _ _ h => h) trivial (by rfl) ?_
        simp only [Act.put, List.setIfInBounds_toArray, List.set_cons_zero, List.set_cons_succ]
        refine wpMix_skip (fun _ _ _ _ h => h) trivial (by rfl) ?_
        simp only [Act.put, List.setIfInBounds_toArray, List.set_cons_zero, List.set_cons_succ]
        refine wpMix_skip (fun _ _ _ _ h => h) trivial (by rfl) ?_
        simp only [Act.put, List.setIfInBounds_toArray, List.set_cons_zero, List.set_cons_succ]
        refine wpMix_skip (fun _ _ _ _ h => h) trivial (by rfl) ?_
        simp only [Act.put, List.setIfInBounds_toArray, List.set_cons_zero, List.set_cons_succ]
        refine wpMix_step (fun K hK => ?_); go_simp; refine hK _ _ trivial ?_; clear hK K
        refine wpMix_step (fun K hK => ?_); go_simp; refine hK _ _ trivial ?_; clear hK K
        refine wpMix_nil ?_
        go_wp2_with fail
        go_ret
        exact ⟨by rw [HF.out]; rfl, HB.out.drew⟩
      | true =>
        rw [hq] at cn
        have HQ := Lib.hid hq
        clear hq
        cases k with
        | zero =>
          have HE : Hid (topicsUp (l.take (0 + 1)) = true) := Lib.hid (by rw [S1.out, HQ.out, lastUp_zero]; rfl)
          clear HQ S1 S2
          simp only [Nat.add_zero] at c0
          generalize l[0] = t at *
          go_wp2_with fail
          refine cn.out.mono ?_
          rintro e w' ⟨rfl, rfl⟩
          go_upto_region 5 with fail
          refine wp_mix [mT, mT, mT, mT, mT, mT, mT, mT, mT, mT, mT, mT, mT, mT, mT, mT, mF, mF] 1000 (fun _ => True) (by kernel_rfl) (by kernel_rfl) trivial ?_
          refine wpMix_take (.bool true) (fun _ _ _ _ h => h) trivial (by rfl) (fun W2 hW => by go_simp) ?_
          simp only [Act.put, List.setIfInBounds_toArray, List.set_cons_zero, List.set_cons_succ]
          refine wpMix_take (.bool false) (fun _ _ _ _ h => h) trivial (by rfl) (fun W2 hW => by go_simp) ?_
          simp only [Act.put, List.setIfInBounds_toArray, List.set_cons_zero, List.set_cons_succ]
          refine wpMix_take (.bool false) (fun _ _ _ _ h => h) trivial (by rfl) (fun W2 hW => by go_simp) ?_
          simp only [Act.put, List.setIfInBounds_toArray, List.set_cons_zero, List.set_cons_succ]
          refine wpMix_take (.int .i64 0) (fun _ _ _ _ h => h) trivial (by rfl) (fun W2 hW => by go_simp) ?_
          simp only [Act.put, List.setIfInBounds_toArray, List.set_cons_zero, List.set_cons_succ]
          refine wpMix_take (.bool false) (fun _ _ _ _ h => h) trivial (by rfl) (fun W2 hW => by go_simp) ?_
          simp only [Act.put, List.setIfInBounds_toArray, List.set_cons_zero, List.set_cons_succ]
          refine wpMix_take (.bool false) (fun _ _ _ _ h => h) trivial (by rfl) (fun W2 hW => by go_simp) ?_
          simp only [Act.put, List.setIfInBounds_toArray, List.set_cons_zero, List.set_cons_succ]
          refine wpMix_skip (fun _ _ _ _ h => h) trivial (by rfl) ?_
          simp only [Act.put, List.setIfInBounds_toArray, List.set_cons_zero, List.set_cons_succ]
          refine wpMix_skip (fun _ _ _ _ h => h) trivial (by rfl) ?_
          simp only [Act.put, List.setIfInBounds_toArray, List.set_cons_zero, List.set_cons_succ]
          refine wpMix_skip (fun _ _ _ _ h => h) trivial (by rfl) ?_
          simp only [Act.put, List.setIfInBounds_toArray, List.set_cons_zero, List.set_cons_succ]
          refine wpMix_skip (fun _ _ _ _ h => h) trivial (by rfl) ?_
          simp only [Act.put, List.setIfInBounds_toArray, List.set_cons_zero, List.set_cons_succ]
          refine wpMix_skip (fun _ _ _ _ h => h) trivial (by rfl) ?_
          simp only [Act.put, List.setIfInBounds_toArray, List.set_cons_zero, List.set_cons_succ]
          refine wpMix_skip (fun _ _ _ _ h => h) trivial (by rfl) ?_
          simp only [Act.put, List.setIfInBounds_toArray, List.set_cons_zero, List.set_cons_succ]
          refine wpMix_skip (fun _ _ _ _ h => h) trivial (by rfl) ?_
          simp only [Act.put, List.setIfInBounds_toArray, List.set_cons_zero, List.set_cons_succ]
          refine wpMix_skip (fun _ _ _ _ h => h) trivial (by rfl) ?_
          simp only [Act.put, List.setIfInBounds_toArray, List.set_cons_zero, List.set_cons_succ]
          refine wpMix_skip (fun _ _ _ _ h => h) trivial (by rfl) ?_
          simp only [Act.put, List.setIfInBounds_toArray, List.set_cons_zero, List.set_cons_succ]
          refine wpMix_skip (fun _ _ _ _ h => h) trivial (by rfl) ?_
          simp only [Act.put, List.setIfInBounds_toArray, List.set_cons_zero, List.set_cons_succ]
          refine wpMix_step (fun K hK => ?_); go_simp; refine hK _ _ trivial ?_; clear hK K
          refine wpMix_step (fun K hK => ?_); go_simp; refine hK _ _ trivial ?_; clear hK K
          refine wpMix_nil ?_
          go_wp2_with fail
          go_roundw
          case rel => exact ⟨0 + 1, by omega, by go_num, HE, HB.out.drew⟩
          case measure => simp [intOf]; omega
        | succ k =>
          have hk' : k < l.length := by omega
          have c1 := (HB.out.cell (World.block_lt_of_cell? _ _ (HC.out k hk'))).trans (HC.out k hk')
          have L1 := Lib.hid (lastUp_succ hk' l[k + 1])
          have N1 := Lib.hid (less_not l[k + 1].toList l[k].toList)
          have HSS : Hid (wo.drew.cell? ⟨b, o + k, none⟩ = some (.string l[k]) ∧ wo.drew.cell? ⟨b, o + (k + 1), none⟩ = some (.string l[k + 1])) := Lib.hid ⟨c1, c0⟩
          have HG : Hid ((Op.bytesLess l[k].toList l[k + 1].toList = true → topicsUp (l.take (k + 1 + 1)) = true) ∧ (Op.bytesLess l[k].toList l[k + 1].toList = false → topicsOK l = false)) := Lib.hid ⟨fun h => by rw [S1.out, HQ.out, L1.out, h]; rfl, fun h => HSF.out (S2.out (by rw [HQ.out, L1.out, h]; rfl))⟩
          clear HQ S1 S2 L1 N1 c1
          generalize l[k + 1] = t at *
          generalize l[k] = p at *
          generalize hless : Op.bytesLess p.toList t.toList = q at HG
          have HLS := Lib.hid hless
          clear hless
          go_wp2_with fail
          refine cn.out.mono ?_
          rintro e w' ⟨rfl, rfl⟩
          go_upto_region 5 with fail
          clear c0
          have hkk : ((k + 1 : Nat) : Int) - 1 = (k : Nat) := by omega
          have hk3 : ((k + 1 : Nat) : Int) < l.length := by omega
          have hk4 : ((k : Nat) : Int) < l.length := by omega
          refine wp_mix [mT, mT, mT, mT, mT, mT, mT, mT, mT, mT, mT, mT, mT, mT, mT, mT, mF, mF] 1000 (fun W2 => W2.cell? ⟨b, o + k, none⟩ = some (.string p) ∧ W2.cell? ⟨b, o + (k + 1), none⟩ = some (.string t)) (by kernel_rfl) (by kernel_rfl) HSS.out ?_
          refine wpMix_take (.bool true) (fun _ _ _ _ h => h) HSS.out (by rfl) (fun W2 hW => by go_simp) ?_
          simp only [Act.put, List.setIfInBounds_toArray, List.set_cons_zero, List.set_cons_succ]
          refine wpMix_take (.bool false) (fun _ _ _ _ h => h) HSS.out (by rfl) (fun W2 hW => by go_simp) ?_
          simp only [Act.put, List.setIfInBounds_toArray, List.set_cons_zero, List.set_cons_succ]
          refine wpMix_take (.bool false) (fun _ _ _ _ h => h) HSS.out (by rfl) (fun W2 hW => by go_simp) ?_
          simp only [Act.put, List.setIfInBounds_toArray, List.set_cons_zero, List.set_cons_succ]
          refine wpMix_take (.int .i64 ((k + 1 : Nat) : Int)) (fun _ _ _ _ h => h) HSS.out (by rfl) (fun W2 hW => by go_simp) ?_
          simp only [Act.put, List.setIfInBounds_toArray, List.set_cons_zero, List.set_cons_succ]
          refine wpMix_take (.bool true) (fun _ _ _ _ h => h) HSS.out (by rfl) (fun W2 hW => by go_simp) ?_
          simp only [Act.put, List.setIfInBounds_toArray, List.set_cons_zero, List.set_cons_succ]
          refine wpMix_take (.bool true) (fun _ _ _ _ h => h) HSS.out (by rfl) (fun W2 hW => by go_simp) ?_
          simp only [Act.put, List.setIfInBounds_toArray, List.set_cons_zero, List.set_cons_succ]
          refine wpMix_take (.slice (some ⟨b, o, none⟩) l.length cap) (fun _ _ _ _ h => h) HSS.out (by rfl) (fun W2 hW => by go_simp) ?_
          simp only [Act.put, List.setIfInBounds_toArray, List.set_cons_zero, List.set_cons_succ]
          refine wpMix_take (.int .i64 ((k + 1 : Nat) : Int)) (fun _ _ _ _ h => h) HSS.out (by rfl) (fun W2 hW => by go_simp) ?_
          simp only [Act.put, List.setIfInBounds_toArray, List.set_cons_zero, List.set_cons_succ]
          refine wpMix_take (.int .i64 (k : Nat)) (fun _ _ _ _ h => h) HSS.out (by rfl) (fun W2 hW => by go_simp; rw [IntWalk.i64_in _ ⟨by omega, by omega⟩]; try omega) ?_
          simp only [Act.put, List.setIfInBounds_toArray, List.set_cons_zero, List.set_cons_succ]
          refine wpMix_take (.pointer (some ⟨b, o + k, none⟩)) (fun _ _ _ _ h => h) HSS.out (by rfl) (fun W2 hW => by go_simp) ?_
          simp only [Act.put, List.setIfInBounds_toArray, List.set_cons_zero, List.set_cons_succ]
          refine wpMix_take (.string p) (fun _ _ _ _ h => h) HSS.out (by rfl) (fun W2 hW => by have q0 := hW.1; go_simp) ?_
          simp only [Act.put, List.setIfInBounds_toArray, List.set_cons_zero, List.set_cons_succ]
          refine wpMix_take (.slice (some ⟨b, o, none⟩) l.length cap) (fun _ _ _ _ h => h) HSS.out (by rfl) (fun W2 hW => by go_simp) ?_
          simp only [Act.put, List.setIfInBounds_toArray, List.set_cons_zero, List.set_cons_succ]
          refine wpMix_take (.int .i64 ((k + 1 : Nat) : Int)) (fun _ _ _ _ h => h) HSS.out (by rfl) (fun W2 hW => by go_simp) ?_
          simp only [Act.put, List.setIfInBounds_toArray, List.set_cons_zero, List.set_cons_succ]
          refine wpMix_take (.pointer (some ⟨b, o + (k + 1), none⟩)) (fun _ _ _ _ h => h) HSS.out (by rfl) (fun W2 hW => by have q1 : ¬ ((k : Int) + 1 < 0) := (by omega); go_simp) ?_
          simp only [Act.put, List.setIfInBounds_toArray, List.set_cons_zero, List.set_cons_succ]
          refine wpMix_take (.string t) (fun _ _ _ _ h => h) HSS.out (by rfl) (fun W2 hW => by have q0 := hW.2; go_simp) ?_
          simp only [Act.put, List.setIfInBounds_toArray, List.set_cons_zero, List.set_cons_succ]
          refine wpMix_take (.bool !q) (fun _ _ _ _ h => h) HSS.out (by rfl) (fun W2 hW => by have q0 := HLS.out; go_simp; try simp [q0]) ?_
          simp only [Act.put, List.setIfInBounds_toArray, List.set_cons_zero, List.set_cons_succ]
          refine wpMix_step (fun K hK => ?_); go_simp; refine hK _ _ HSS.out ?_; clear hK K
          refine wpMix_step (fun K hK => ?_); go_simp; refine hK _ _ HSS.out ?_; clear hK K
          refine wpMix_nil ?_
          cases q
          · have HF := Lib.hid (HG.out.2 rfl)
            go_wp2_with fail
            go_ret
            exact ⟨by rw [HF.out]; rfl, HB.out.drew⟩
          · have HE := Lib.hid (HG.out.1 rfl)
            go_wp2_with fail
            go_roundw
            case rel => exact ⟨k + 1 + 1, by omega, by go_num, HE, HB.out.drew⟩
            case measure => simp [intOf]; omega
    · obtain rfl : k = l.length := by omega
      have HE : Hid (topicsOK l = decide ((l.length : Int) ≤ 4)) := Lib.hid (by
        have h := hu.out
        rw [List.take_length] at h
        unfold topicsOK
        rw [h, Bool.and_true]
        exact decide_eq_decide.2 (by omega))
      clear hu hb
      by_cases h4 : l.length ≤ 4
      · have b4 : (l.length : Int) ≤ 4 := by omega
        have HV : Hid (topicsOK l = true) := Lib.hid (by rw [HE.out]; exact decide_eq_true b4)
        clear h4
        go_wp2_with fail
        go_ret
        exact ⟨by rw [HV.out]; rfl, HB.out⟩
      · have b4 : ¬ (l.length : Int) ≤ 4 := by omega
        have HV : Hid (topicsOK l = false) := Lib.hid (by rw [HE.out]; exact decide_eq_false b4)
        clear h4
        go_wp2_with fail
        go_ret
        exact ⟨by rw [HV.out]; rfl, HB.out⟩
end Go.Proofs.YtgbihmafmmeicaaGreatDoor
namespace Go.Proofs.YtgbihmafmmeicaaGreatDoor
open Go.RowKit Mg Go.Shelf

theorem name_text {s : ByteArray} (h : nameOK s = true) : textOK s = true := by
  unfold nameOK at h
  simp only [Bool.and_eq_true, decide_eq_true_eq] at h
  obtain ⟨⟨_, h2⟩, h3⟩ := h
  rw [textOK_eq, decide_eq_true (by omega), Bool.true_and, List.all_eq_true]
  intro c hc
  have h4 := (nameB_iff c).1 (List.all_eq_true.1 h3 c hc)
  exact okT_yes (by omega)
structure KindF (kind : Int) (text : ByteArray) (story ref : Int) (r : Bool) : Prop where
  plain : kind = 1 ∨ kind = 2 ∨ kind = 4 → r = (decide (1 ≤ text.size) && decide (story = 0) && decide (ref = 0))
  count : kind = 5 → r = (nameOK text && decide (story = 0) && decide (ref = 0))
  quote : kind = 3 → r = (decide (1 ≤ story) && decide (story ≤ 64) && decide (1 ≤ ref) && decide (ref ≤ 1000))
  none_ : kind ≠ 1 → kind ≠ 2 → kind ≠ 4 → kind ≠ 5 → kind ≠ 3 → r = false
theorem kindF_of (x : Blk) (h1 : 1 ≤ x.id ∧ x.id ≤ 1000) (h2 : validLab x.lab = true) (h3 : textOK x.text = true) : KindF x.kind x.text x.story x.ref (validBlk x) := by
  have e : validBlk x = kindOK x := by unfold validBlk; rw [decide_eq_true h1.1, decide_eq_true h1.2, h2]; rfl
  refine ⟨fun h => ?_, fun h => ?_, fun h => ?_, fun n1 n2 n4 n5 n3 => ?_⟩
  · rw [e]; unfold kindOK; rw [if_pos h, h3, Bool.and_true]
  · rw [e]; unfold kindOK; rw [if_neg (by omega), if_pos h]
  · rw [e]; unfold kindOK; rw [if_neg (by omega), if_neg (by omega), if_pos h, h3, Bool.true_and]
  · rw [e]; unfold kindOK; rw [if_neg (by omega), if_neg n5, if_neg n3]
theorem valid_no1 {x : Blk} (h : ¬ (1 ≤ x.id ∧ x.id ≤ 1000)) : validBlk x = false := by
  rw [Bool.eq_false_iff]; intro e; unfold validBlk at e; simp only [Bool.and_eq_true, decide_eq_true_eq] at e; exact h e.1.1
theorem valid_no2 {x : Blk} (h : validLab x.lab = false) : validBlk x = false := by unfold validBlk; rw [h]; simp
theorem valid_no3 {x : Blk} (h : textOK x.text = false) : validBlk x = false := by
  have hn : nameOK x.text = false := by
    rw [Bool.eq_false_iff]; intro e; have := name_text e; rw [h] at this; cases this
  unfold validBlk kindOK
  rw [h, hn]
  simp

set_option maxRecDepth 10000 in
set_option maxHeartbeats 8000000 in
theorem validR_any {mem : Addr → Option Value} (x : Blk) (av : Value) (hi : IntsM mem av x.lab.after) (ht : x.text.size ≤ maxLen) (w : World) (hs : Sees mem w) :
    Calls Tryz.prog 80 #[.agg (blkCells x av)] w fun e w' => e = .returned (.bool (validBlk x)) ∧ Below w.heap.size w w' := by
  have HK := Lib.hid (kindF_of x)
  have HN1 := Lib.hid (@valid_no1 x)
  have HN2 := Lib.hid (@valid_no2 x)
  have HN3 := Lib.hid (@valid_no3 x)
  have HT := Lib.hid (fun W => isTextR_any x.text W ht)
  have HNM := Lib.hid (fun W => isNameR_any x.text W ht)
  have HL := Lib.hid (fun W hW => labValidR_any x.lab _ hi W hW)
  obtain ⟨ao, cap, rfl⟩ := hi.slice
  have HS := Lib.hid hs
  clear hi ht hs
  generalize validBlk x = R at *
  obtain ⟨id, kind, text, story, ref, lab⟩ := x
  dsimp only at *
  go_enter Tryz.func80, Tryz.ntmps80
  go_wp2_with fail
  refine (HT.out _).mono ?_
  rintro e w1 ⟨rfl, rfl⟩
  go_wp2_with fail
  refine (HL.out _ (HS.out.alloc _)).mono ?_
  rintro e w1 ⟨rfl, hb⟩
  have hB : Below w.heap.size w w1 := ((Below.refl _ w).alloc (Nat.le_refl _) _).trans (hb.mono (by simp))
  have hz : w.heap.size < w1.heap.size := by have := hb.size; simp at this; omega
  have hc : ∀ (j : Nat) (u : Value), (blkCells ⟨id, kind, text, story, ref, lab⟩ (.slice ao lab.after.length cap))[j]? = some u → w1.cell? ⟨w.heap.size, j, none⟩ = some u := fun j u hu => (hb.cell (p := ⟨w.heap.size, j, none⟩) (by simp)).trans (cell_new rfl hu)
  have c0 := hc 0 _ rfl
  have c1 := hc 1 _ rfl
  have c2 := hc 2 _ rfl
  have c3 := hc 3 _ rfl
  have c4 := hc 4 _ rfl
  clear hc hb HT HL HS
  generalize hTT : textOK text = T at *
  generalize hVV : validLab lab = V at *
  clear hTT hVV
  by_cases hid : 1 ≤ id ∧ id ≤ 1000
  · cases T with
    | false =>
      have HX := Lib.hid (HN3.out rfl)
      clear HK HN1 HN2 HN3
      obtain ⟨i1, i2⟩ := hid
      go_wp2_with fail
      go_ret
      exact ⟨ret_false HX.out, hB⟩
    | true =>
      cases V with
      | false =>
        have HX := Lib.hid (HN2.out rfl)
        clear HK HN1 HN2 HN3
        obtain ⟨i1, i2⟩ := hid
        go_wp2_with fail
        go_ret
        exact ⟨ret_false HX.out, hB⟩
      | true =>
        have HF := Lib.hid (HK.out hid rfl rfl)
        clear HK HN1 HN2 HN3
        obtain ⟨i1, i2⟩ := hid
        by_cases k1 : kind = 1
        · have hk := HF.out.plain (by omega)
          have HH := Lib.hid hk
          clear hk
          subst k1
          rcases size_pos text with ⟨z1, z2, z3⟩ | ⟨z1, z2, z3⟩
          · have HY : Hid (R = false) := Lib.hid (by rw [HH.out, z3, Bool.false_and, Bool.false_and])
            clear HF z3 HH
            go_wp2_with fail
            go_ret
            exact ⟨ret_false HY.out, hB⟩
          · have HG : Hid (R = (decide (story = 0) && decide (ref = 0))) := Lib.hid (by rw [HH.out, z3, Bool.true_and])
            clear z3 HH
            by_cases s0 : story = 0
            · subst s0
              by_cases r0 : ref = 0
              · subst r0
                have HY : Hid (R = true) := Lib.hid (by rw [HG.out]; rfl)
                clear HF
                go_wp2_with fail
                go_ret
                exact ⟨ret_true HY.out, hB⟩
              · have HY : Hid (R = false) := Lib.hid (by rw [HG.out, decide_eq_false r0, Bool.and_false])
                have n : (ref == 0) = false := by simpa using r0
                clear HF r0
                go_wp2_with fail
                go_ret
                exact ⟨ret_false HY.out, hB⟩
            · have HY : Hid (R = false) := Lib.hid (by rw [HG.out, decide_eq_false s0, Bool.false_and])
              have n : (story == 0) = false := by simpa using s0
              clear HF s0
              go_wp2_with fail
              go_ret
              exact ⟨ret_false HY.out, hB⟩
        by_cases k2 : kind = 2
        · have hk := HF.out.plain (by omega)
          have HH := Lib.hid hk
          clear hk
          subst k2
          rcases size_pos text with ⟨z1, z2, z3⟩ | ⟨z1, z2, z3⟩
          · have HY : Hid (R = false) := Lib.hid (by rw [HH.out, z3, Bool.false_and, Bool.false_and])
            clear HF z3 HH
            go_wp2_with fail
            go_ret
            exact ⟨ret_false HY.out, hB⟩
          · have HG : Hid (R = (decide (story = 0) && decide (ref = 0))) := Lib.hid (by rw [HH.out, z3, Bool.true_and])
            clear z3 HH
            by_cases s0 : story = 0
            · subst s0
              by_cases r0 : ref = 0
              · subst r0
                have HY : Hid (R = true) := Lib.hid (by rw [HG.out]; rfl)
                clear HF
                go_wp2_with fail
                go_ret
                exact ⟨ret_true HY.out, hB⟩
              · have HY : Hid (R = false) := Lib.hid (by rw [HG.out, decide_eq_false r0, Bool.and_false])
                have n : (ref == 0) = false := by simpa using r0
                clear HF r0
                go_wp2_with fail
                go_ret
                exact ⟨ret_false HY.out, hB⟩
            · have HY : Hid (R = false) := Lib.hid (by rw [HG.out, decide_eq_false s0, Bool.false_and])
              have n : (story == 0) = false := by simpa using s0
              clear HF s0
              go_wp2_with fail
              go_ret
              exact ⟨ret_false HY.out, hB⟩
        by_cases k4 : kind = 4
        · have hk := HF.out.plain (by omega)
          have HH := Lib.hid hk
          clear hk
          subst k4
          rcases size_pos text with ⟨z1, z2, z3⟩ | ⟨z1, z2, z3⟩
          · have HY : Hid (R = false) := Lib.hid (by rw [HH.out, z3, Bool.false_and, Bool.false_and])
            clear HF z3 HH
            go_wp2_with fail
            go_ret
            exact ⟨ret_false HY.out, hB⟩
          · have HG : Hid (R = (decide (story = 0) && decide (ref = 0))) := Lib.hid (by rw [HH.out, z3, Bool.true_and])
            clear z3 HH
            by_cases s0 : story = 0
            · subst s0
              by_cases r0 : ref = 0
              · subst r0
                have HY : Hid (R = true) := Lib.hid (by rw [HG.out]; rfl)
                clear HF
                go_wp2_with fail
                go_ret
                exact ⟨ret_true HY.out, hB⟩
              · have HY : Hid (R = false) := Lib.hid (by rw [HG.out, decide_eq_false r0, Bool.and_false])
                have n : (ref == 0) = false := by simpa using r0
                clear HF r0
                go_wp2_with fail
                go_ret
                exact ⟨ret_false HY.out, hB⟩
            · have HY : Hid (R = false) := Lib.hid (by rw [HG.out, decide_eq_false s0, Bool.false_and])
              have n : (story == 0) = false := by simpa using s0
              clear HF s0
              go_wp2_with fail
              go_ret
              exact ⟨ret_false HY.out, hB⟩
        by_cases k5 : kind = 5
        · have hk := HF.out.count k5
          have HH := Lib.hid hk
          clear hk
          subst k5
          go_wp2_with fail
          refine (HNM.out _).mono ?_
          rintro e w2 ⟨rfl, rfl⟩
          generalize nameOK text = N at *
          cases N with
          | false =>
            have HY : Hid (R = false) := Lib.hid (by rw [HH.out, Bool.false_and, Bool.false_and])
            clear HF HH
            go_wp2_with fail
            go_ret
            exact ⟨ret_false HY.out, hB⟩
          | true =>
            have HG : Hid (R = (decide (story = 0) && decide (ref = 0))) := Lib.hid (by rw [HH.out, Bool.true_and])
            clear HH
            by_cases s0 : story = 0
            · subst s0
              by_cases r0 : ref = 0
              · subst r0
                have HY : Hid (R = true) := Lib.hid (by rw [HG.out]; rfl)
                clear HF
                go_wp2_with fail
                go_ret
                exact ⟨ret_true HY.out, hB⟩
              · have HY : Hid (R = false) := Lib.hid (by rw [HG.out, decide_eq_false r0, Bool.and_false])
                have n : (ref == 0) = false := by simpa using r0
                clear HF r0
                go_wp2_with fail
                go_ret
                exact ⟨ret_false HY.out, hB⟩
            · have HY : Hid (R = false) := Lib.hid (by rw [HG.out, decide_eq_false s0, Bool.false_and])
              have n : (story == 0) = false := by simpa using s0
              clear HF s0
              go_wp2_with fail
              go_ret
              exact ⟨ret_false HY.out, hB⟩
        by_cases k3 : kind = 3
        · have hk := HF.out.quote k3
          have HH := Lib.hid hk
          clear hk HF
          subst k3
          by_cases q4 : 1 ≤ story
          · by_cases q3 : story ≤ 64
            · by_cases q2 : 1 ≤ ref
              · by_cases q1 : ref ≤ 1000
                · have HY : Hid (R = true) := Lib.hid (by rw [HH.out, decide_eq_true q4, decide_eq_true q3, decide_eq_true q2, decide_eq_true q1]; rfl)
                  clear HH
                  go_wp2_with fail
                  go_ret
                  exact ⟨ret_true HY.out, hB⟩
                · have HY : Hid (R = false) := Lib.hid (by rw [HH.out, decide_eq_false q1]; simp)
                  have nq1 : decide (ref ≤ 1000) = false := decide_eq_false q1
                  clear HH q1
                  go_wp2_with fail
                  go_ret
                  exact ⟨ret_false HY.out, hB⟩
              · have HY : Hid (R = false) := Lib.hid (by rw [HH.out, decide_eq_false q2]; simp)
                have nq2 : decide (1 ≤ ref) = false := decide_eq_false q2
                clear HH q2
                go_wp2_with fail
                go_ret
                exact ⟨ret_false HY.out, hB⟩
            · have HY : Hid (R = false) := Lib.hid (by rw [HH.out, decide_eq_false q3]; simp)
              have nq3 : decide (story ≤ 64) = false := decide_eq_false q3
              clear HH q3
              go_wp2_with fail
              go_ret
              exact ⟨ret_false HY.out, hB⟩
          · have HY : Hid (R = false) := Lib.hid (by rw [HH.out, decide_eq_false q4]; simp)
            have nq4 : decide (1 ≤ story) = false := decide_eq_false q4
            clear HH q4
            go_wp2_with fail
            go_ret
            exact ⟨ret_false HY.out, hB⟩
        have HY : Hid (R = false) := Lib.hid (HF.out.none_ k1 k2 k4 k5 k3)
        have n1 : (kind == 1) = false := by simpa using k1
        have n2 : (kind == 2) = false := by simpa using k2
        have n4 : (kind == 4) = false := by simpa using k4
        have n5 : (kind == 5) = false := by simpa using k5
        have n3 : (kind == 3) = false := by simpa using k3
        clear HF k1 k2 k4 k5 k3
        go_wp2_with fail
        go_ret
        exact ⟨ret_false HY.out, hB⟩
  · have HX := Lib.hid (HN1.out hid)
    have HI := Lib.hid hid
    clear HK HN1 HN2 HN3 hid
    go_wp2_with fail
    all_goals first
      | (go_ret
         exact ⟨ret_false HX.out, hB⟩)
      | (exfalso; exact HI.out ⟨by omega, by omega⟩)

set_option maxRecDepth 10000 in
set_option maxHeartbeats 4000000 in
theorem validListR_any {mem : Addr → Option Value} {v : Value} {l : List Blk} (h : BlksM mem v l) (w : World) (hs : Sees mem w) :
    Calls Tryz.prog 62 #[v] w fun e w' => e = .returned (.bool (decide (ValidL l))) ∧ Below w.heap.size w w' := by
  obtain ⟨ao, cap, b, o, rfl, hcap, hm, hao, hblks⟩ := h.open_
  have HAO := Lib.hid hao
  have HB := Lib.hid hblks
  have HS := Lib.hid hs
  have hlen : (l.length : Int) ≤ 9223372036854775807 := by unfold maxLen at hm; omega
  clear h hao hblks hs hm
  by_cases h24 : l.length ≤ 24
  · have HOK : Hid (PreOK l l.length → decide (ValidL l) = true) := Lib.hid (fun h => decide_eq_true (validL_all h24 h))
    go_enter Tryz.func62, Tryz.ntmps62
    go_wp2_with fail
    go_loopw [3, 4, 5] (fun i _ _ wr => ∃ k : Nat, k ≤ l.length ∧ i = .int .i64 k ∧ Below w.heap.size w wr ∧ Hid (PreOK l k)) (fun i _ _ _ => l.length - (intOf i).toNat)
    case atStart => exact ⟨0, Nat.zero_le _, rfl, Below.refl _ _, Lib.hid (PreOK.zero l)⟩
    case round =>
      obtain ⟨k, hk, rfl, hb, hp⟩ := hrel
      obtain ⟨wo, rfl⟩ : ∃ wo, wo = wr := ⟨_, rfl⟩
      by_cases hlt : k < l.length
      · obtain ⟨⟨t1, _, _⟩, lo, lc, hi, hc9⟩ := (HB.out k hlt).nine (HS.out.bel hb)
        obtain rfl := HAO.out (by omega)
        obtain ⟨c0, c1, c2, c3, c4, c5, c6, c7, c8⟩ := hc9
        have hbl : b < wo.heap.size := World.block_lt_of_cell? wo _ c0
        have HF : Hid (Calls Tryz.prog 80 #[.agg (blkCells l[k] (.slice lo l[k].lab.after.length lc))] wo fun e w' => e = .returned (.bool (validBlk l[k])) ∧ Below wo.heap.size wo w') :=
          Lib.hid (validR_any l[k] _ hi t1 wo (HS.out.bel hb))
        have HNB : Hid (validBlk l[k] = false → decide (ValidL l) = false) := Lib.hid (fun h => decide_eq_false (validL_bad hlt h))
        have HNT : Hid (∀ j (hj : j < k), l[j].id = l[k].id → decide (ValidL l) = false) := Lib.hid (fun j hj e => decide_eq_false (validL_twice hj hlt e))
        have HST : Hid (validBlk l[k] = true → (∀ j (hj : j < k), l[j].id ≠ l[k].id) → PreOK l (k + 1)) := Lib.hid (fun h1 h2 => PreOK.succ hlt hp.out h1 h2)
        have hkc : (k : Int) ≤ cap := by omega
        have hk0 : (0 : Int) ≤ k := by omega
        have hk1 : (k : Int) < l.length := by omega
        clear hi t1 hp
        generalize hx : l[k] = x at *
        obtain ⟨id, kind, text, story, ref, till, after, appr, denied⟩ := x
        clear hx
        dsimp only at *
        go_wp2_with fail
        refine HF.out.mono ?_
        rintro e w3 ⟨rfl, hb3⟩
        have hB3 : Below w.heap.size w w3 := hb.trans (hb3.mono hb.size)
        replace c0 := (hb3.cell (p := ⟨b, o + k * 9, none⟩) hbl).trans c0
        have hbl3 : b < w3.heap.size := Nat.lt_of_lt_of_le hbl hb3.size
        generalize hV : validBlk ⟨id, kind, text, story, ref, ⟨till, after, appr, denied⟩⟩ = V at *
        clear hV
        cases V with
        | false =>
          have HNB2 := Lib.hid (HNB.out rfl)
          clear HNB HST HNT HF
          go_wp2_with fail
          go_ret
          exact ⟨ret_false HNB2.out, hB3⟩
        | true =>
          have HST2 := Lib.hid (HST.out rfl)
          clear HNB HST HF hb3 c1 c2 c3 c4 c5 c6 c7 c8
          go_wp2_with fail
          go_loopw [5] (fun i wi => ∃ j : Nat, j ≤ k ∧ i = .int .i64 j ∧ Below w3.heap.size w3 wi ∧ Hid (∀ m (hm : m < j) (hm2 : m < l.length), l[m].id ≠ id)) (fun i _ => k - (intOf i).toNat)
          case atStart => exact ⟨0, Nat.zero_le _, rfl, Below.refl _ _, Lib.hid (fun m hm => absurd hm (by omega))⟩
          case round =>
            obtain ⟨j, hj, rfl, hbi, hne⟩ := hrel
            have hBi : Below w.heap.size w wr := hB3.trans (hbi.mono hB3.size)
            by_cases hjk : j < k
            · have hjl : j < l.length := by omega
              have hj0 : (0 : Int) ≤ j := by omega
              have hj1 : (j : Int) < l.length := by omega
              obtain ⟨_, lo2, lc2, _, d9⟩ := (HB.out j hjl).nine (HS.out.bel hBi)
              have d0 := d9.c0
              have c0' := (hbi.cell (p := ⟨b, o + k * 9, none⟩) hbl3).trans c0
              have HEQ : Hid (l[j].id = id → decide (ValidL l) = false) := Lib.hid (fun e => HNT.out j hjk e)
              have HNE : Hid (l[j].id ≠ id → ∀ m (hm : m < j + 1) (hm2 : m < l.length), l[m].id ≠ id) := Lib.hid (fun e m hm hm2 => by
                by_cases h : m = j
                · subst h; exact e
                · exact hne.out m (by omega) hm2)
              clear hne d9
              generalize l[j].id = id2 at *
              by_cases he : id2 = id
              · have e1 : (id2 == id) = true := by simpa using he
                have HF := Lib.hid (HEQ.out he)
                clear he HEQ HNE
                go_wp2_with fail
                go_quiet (fail)
                go_wp2_with fail
                go_ret
                exact ⟨ret_false HF.out, below_drewN hBi _⟩
              · have e1 : (id2 == id) = false := by simpa using he
                have HF := Lib.hid (HNE.out he)
                clear he HEQ HNE
                go_wp2_with fail
                go_quiet (fail)
                go_wp2_with fail
                go_roundw
                case rel => exact ⟨j + 1, by omega, by go_num, below_drewN hbi _, HF⟩
                case measure => simp [intOf]; omega
            · have e : j = k := by omega
              subst e
              have HP : Hid (PreOK l (j + 1)) := Lib.hid (HST2.out (fun m hm => hne.out m hm (by omega)))
              go_wp2_with fail
              go_roundw
              case rel => exact ⟨j + 1, by omega, by go_num, hBi, HP⟩
              case measure => simp [intOf]; omega
      · have e : k = l.length := by omega
        subst e
        have HF := Lib.hid (HOK.out hp.out)
        go_wp2_with fail
        go_ret
        exact ⟨ret_true HF.out, hb⟩
  · have HF : Hid (decide (ValidL l) = false) := Lib.hid (decide_eq_false (fun h => h24 h.1))
    go_enter Tryz.func62, Tryz.ntmps62
    go_wp2_with fail
    go_ret
    exact ⟨ret_false HF.out, Below.refl _ _⟩
end Go.Proofs.YtgbihmafmmeicaaGreatDoor
namespace Go.Proofs.YtgbihmafmmeicaaGreatDoor
open Go.RowKit Mg Go.Shelf

def fieldsB (k : Int) : ByteArray :=
  if k = 1 then ⟨#[115, 108, 114, 97, 116, 117, 111, 98, 76]⟩ else
  if k = 2 then ⟨#[115, 101]⟩ else
  if k = 3 then ⟨#[115, 76]⟩ else
  if k = 4 then ⟨#[115, 108, 107, 110, 120]⟩ else
  if k = 5 then ⟨#[115, 120]⟩ else
  if k = 6 then ⟨#[115]⟩ else
  if k = 7 then ⟨#[109, 120]⟩ else
  if k = 10 then ⟨#[115]⟩ else
  ⟨#[]⟩
set_option maxRecDepth 10000 in
theorem fields_1 (w : World) : Calls Tryz.prog 43 #[.int .i64 1] w fun e w' => e = .returned (.string ⟨#[115, 108, 114, 97, 116, 117, 111, 98, 76]⟩) ∧ w = w' := by
  go_enter Tryz.func43, Tryz.ntmps43
  go_wp2_with fail
  go_ret
  exact ⟨rfl, rfl⟩
set_option maxRecDepth 10000 in
theorem fields_2 (w : World) : Calls Tryz.prog 43 #[.int .i64 2] w fun e w' => e = .returned (.string ⟨#[115, 101]⟩) ∧ w = w' := by
  go_enter Tryz.func43, Tryz.ntmps43
  go_wp2_with fail
  go_ret
  exact ⟨rfl, rfl⟩
set_option maxRecDepth 10000 in
theorem fields_3 (w : World) : Calls Tryz.prog 43 #[.int .i64 3] w fun e w' => e = .returned (.string ⟨#[115, 76]⟩) ∧ w = w' := by
  go_enter Tryz.func43, Tryz.ntmps43
  go_wp2_with fail
  go_ret
  exact ⟨rfl, rfl⟩
set_option maxRecDepth 10000 in
theorem fields_4 (w : World) : Calls Tryz.prog 43 #[.int .i64 4] w fun e w' => e = .returned (.string ⟨#[115, 108, 107, 110, 120]⟩) ∧ w = w' := by
  go_enter Tryz.func43, Tryz.ntmps43
  go_wp2_with fail
  go_ret
  exact ⟨rfl, rfl⟩
set_option maxRecDepth 10000 in
theorem fields_5 (w : World) : Calls Tryz.prog 43 #[.int .i64 5] w fun e w' => e = .returned (.string ⟨#[115, 120]⟩) ∧ w = w' := by
  go_enter Tryz.func43, Tryz.ntmps43
  go_wp2_with fail
  go_ret
  exact ⟨rfl, rfl⟩
set_option maxRecDepth 10000 in
theorem fields_6 (w : World) : Calls Tryz.prog 43 #[.int .i64 6] w fun e w' => e = .returned (.string ⟨#[115]⟩) ∧ w = w' := by
  go_enter Tryz.func43, Tryz.ntmps43
  go_wp2_with fail
  go_ret
  exact ⟨rfl, rfl⟩
set_option maxRecDepth 10000 in
theorem fields_7 (w : World) : Calls Tryz.prog 43 #[.int .i64 7] w fun e w' => e = .returned (.string ⟨#[109, 120]⟩) ∧ w = w' := by
  go_enter Tryz.func43, Tryz.ntmps43
  go_wp2_with fail
  go_ret
  exact ⟨rfl, rfl⟩
set_option maxRecDepth 10000 in
theorem fields_10 (w : World) : Calls Tryz.prog 43 #[.int .i64 10] w fun e w' => e = .returned (.string ⟨#[115]⟩) ∧ w = w' := by
  go_enter Tryz.func43, Tryz.ntmps43
  go_wp2_with fail
  go_ret
  exact ⟨rfl, rfl⟩
theorem fields_any (k : Int) (hk : k = 1 ∨ k = 2 ∨ k = 3 ∨ k = 4 ∨ k = 5 ∨ k = 6 ∨ k = 7 ∨ k = 10) (w : World) : Calls Tryz.prog 43 #[.int .i64 k] w fun e w' => e = .returned (.string (fieldsB k)) ∧ w = w' := by
  rcases hk with rfl | rfl | rfl | rfl | rfl | rfl | rfl | rfl
  · exact fields_1 w
  · exact fields_2 w
  · exact fields_3 w
  · exact fields_4 w
  · exact fields_5 w
  · exact fields_6 w
  · exact fields_7 w
  · exact fields_10 w
set_option maxRecDepth 100000 in
set_option maxHeartbeats 2000000 in
theorem right_115 {mem : Addr → Option Value} (e : FctE) (h : e.ok mem) (w : World) (hs : Sees mem w) :
    Calls Tryz.prog 44 #[.agg e.cells, .int .u8 115] w fun r w' => r = .returned (.bool (inR e.f.story 1 64)) ∧ Below w.heap.size w w' := by
  obtain ⟨f, ta, tc, ba, bc, aa, ac⟩ := e
  have HN := Lib.hid (World.alloc_heap_new w (.cells (⟨f, ta, tc, ba, bc, aa, ac⟩ : FctE).cells 45))
  have HB := Lib.hid ((Below.refl w.heap.size w).alloc (Nat.le_refl _) (.cells (⟨f, ta, tc, ba, bc, aa, ac⟩ : FctE).cells 45))
  have HS := Lib.hid (hs.bel HB.out)
  have HE : Hid (inR f.story 1 64 = (decide (1 ≤ f.story) && decide (f.story ≤ 64))) := Lib.hid rfl
  clear hs h
  go_enter Tryz.func44, Tryz.ntmps44
  go_upto_region 1 with fail
  generalize hW1 : World.alloc w _ = W1 at *
  clear hW1
  have d3 : W1.cell? ⟨w.heap.size, 3, none⟩ = some (.int .i64 f.story) := blk_cell HN.out 3
  obtain ⟨x, hx⟩ : ∃ x, f.story = x := ⟨_, rfl⟩
  rw [hx] at d3 HE
  have HX := Lib.hid hx
  clear hx
  by_cases k1 : (1 : Int) ≤ x
  · by_cases k2 : x ≤ 64
    · have HV : Hid (inR x 1 64 = true) := Lib.hid (HE.out.trans (by rw [decide_eq_true k1, decide_eq_true k2]; rfl))
      have k3 : x ≤64 := by omega
      go_wp2_with fail
      go_ret
      exact ⟨by show _ = Ending.returned (.bool (inR f.story 1 64)); rw [HX.out, HV.out]; rfl, HB.out⟩
    · have HV : Hid (inR x 1 64 = false) := Lib.hid (HE.out.trans (by rw [decide_eq_false k2, Bool.and_false]))
      have k3 : ¬ x ≤64 := by omega
      go_wp2_with fail
      go_ret
      exact ⟨by show _ = Ending.returned (.bool (inR f.story 1 64)); rw [HX.out, HV.out]; rfl, HB.out⟩
  · have HV : Hid (inR x 1 64 = false) := Lib.hid (HE.out.trans (by rw [decide_eq_false k1, Bool.false_and]))
    go_wp2_with fail
    go_ret
    exact ⟨by show _ = Ending.returned (.bool (inR f.story 1 64)); rw [HX.out, HV.out]; rfl, HB.out⟩
set_option maxRecDepth 100000 in
set_option maxHeartbeats 2000000 in
theorem right_114 {mem : Addr → Option Value} (e : FctE) (h : e.ok mem) (w : World) (hs : Sees mem w) :
    Calls Tryz.prog 44 #[.agg e.cells, .int .u8 114] w fun r w' => r = .returned (.bool (inR e.f.rev 1 100)) ∧ Below w.heap.size w w' := by
  obtain ⟨f, ta, tc, ba, bc, aa, ac⟩ := e
  have HN := Lib.hid (World.alloc_heap_new w (.cells (⟨f, ta, tc, ba, bc, aa, ac⟩ : FctE).cells 45))
  have HB := Lib.hid ((Below.refl w.heap.size w).alloc (Nat.le_refl _) (.cells (⟨f, ta, tc, ba, bc, aa, ac⟩ : FctE).cells 45))
  have HS := Lib.hid (hs.bel HB.out)
  have HE : Hid (inR f.rev 1 100 = (decide (1 ≤ f.rev) && decide (f.rev ≤ 100))) := Lib.hid rfl
  clear hs h
  go_enter Tryz.func44, Tryz.ntmps44
  go_upto_region 1 with fail
  generalize hW1 : World.alloc w _ = W1 at *
  clear hW1
  have d5 : W1.cell? ⟨w.heap.size, 5, none⟩ = some (.int .i64 f.rev) := blk_cell HN.out 5
  obtain ⟨x, hx⟩ : ∃ x, f.rev = x := ⟨_, rfl⟩
  rw [hx] at d5 HE
  have HX := Lib.hid hx
  clear hx
  by_cases k1 : (1 : Int) ≤ x
  · by_cases k2 : x ≤ 100
    · have HV : Hid (inR x 1 100 = true) := Lib.hid (HE.out.trans (by rw [decide_eq_true k1, decide_eq_true k2]; rfl))
      have k3 : x ≤100 := by omega
      go_wp2_with fail
      go_ret
      exact ⟨by show _ = Ending.returned (.bool (inR f.rev 1 100)); rw [HX.out, HV.out]; rfl, HB.out⟩
    · have HV : Hid (inR x 1 100 = false) := Lib.hid (HE.out.trans (by rw [decide_eq_false k2, Bool.and_false]))
      have k3 : ¬ x ≤100 := by omega
      go_wp2_with fail
      go_ret
      exact ⟨by show _ = Ending.returned (.bool (inR f.rev 1 100)); rw [HX.out, HV.out]; rfl, HB.out⟩
  · have HV : Hid (inR x 1 100 = false) := Lib.hid (HE.out.trans (by rw [decide_eq_false k1, Bool.false_and]))
    go_wp2_with fail
    go_ret
    exact ⟨by show _ = Ending.returned (.bool (inR f.rev 1 100)); rw [HX.out, HV.out]; rfl, HB.out⟩
set_option maxRecDepth 100000 in
set_option maxHeartbeats 2000000 in
theorem right_101 {mem : Addr → Option Value} (e : FctE) (h : e.ok mem) (w : World) (hs : Sees mem w) :
    Calls Tryz.prog 44 #[.agg e.cells, .int .u8 101] w fun r w' => r = .returned (.bool (inR e.f.editor 1 5)) ∧ Below w.heap.size w w' := by
  obtain ⟨f, ta, tc, ba, bc, aa, ac⟩ := e
  have HN := Lib.hid (World.alloc_heap_new w (.cells (⟨f, ta, tc, ba, bc, aa, ac⟩ : FctE).cells 45))
  have HB := Lib.hid ((Below.refl w.heap.size w).alloc (Nat.le_refl _) (.cells (⟨f, ta, tc, ba, bc, aa, ac⟩ : FctE).cells 45))
  have HS := Lib.hid (hs.bel HB.out)
  have HE : Hid (inR f.editor 1 5 = (decide (1 ≤ f.editor) && decide (f.editor ≤ 5))) := Lib.hid rfl
  clear hs h
  go_enter Tryz.func44, Tryz.ntmps44
  go_upto_region 1 with fail
  generalize hW1 : World.alloc w _ = W1 at *
  clear hW1
  have d15 : W1.cell? ⟨w.heap.size, 15, none⟩ = some (.int .i64 f.editor) := blk_cell HN.out 15
  obtain ⟨x, hx⟩ : ∃ x, f.editor = x := ⟨_, rfl⟩
  rw [hx] at d15 HE
  have HX := Lib.hid hx
  clear hx
  by_cases k1 : (1 : Int) ≤ x
  · by_cases k2 : x ≤ 5
    · have HV : Hid (inR x 1 5 = true) := Lib.hid (HE.out.trans (by rw [decide_eq_true k1, decide_eq_true k2]; rfl))
      have k3 : x ≤5 := by omega
      go_wp2_with fail
      go_ret
      exact ⟨by show _ = Ending.returned (.bool (inR f.editor 1 5)); rw [HX.out, HV.out]; rfl, HB.out⟩
    · have HV : Hid (inR x 1 5 = false) := Lib.hid (HE.out.trans (by rw [decide_eq_false k2, Bool.and_false]))
      have k3 : ¬ x ≤5 := by omega
      go_wp2_with fail
      go_ret
      exact ⟨by show _ = Ending.returned (.bool (inR f.editor 1 5)); rw [HX.out, HV.out]; rfl, HB.out⟩
  · have HV : Hid (inR x 1 5 = false) := Lib.hid (HE.out.trans (by rw [decide_eq_false k1, Bool.false_and]))
    go_wp2_with fail
    go_ret
    exact ⟨by show _ = Ending.returned (.bool (inR f.editor 1 5)); rw [HX.out, HV.out]; rfl, HB.out⟩
set_option maxRecDepth 100000 in
set_option maxHeartbeats 2000000 in
theorem right_107 {mem : Addr → Option Value} (e : FctE) (h : e.ok mem) (w : World) (hs : Sees mem w) :
    Calls Tryz.prog 44 #[.agg e.cells, .int .u8 107] w fun r w' => r = .returned (.bool (inR e.f.block 1 1000)) ∧ Below w.heap.size w w' := by
  obtain ⟨f, ta, tc, ba, bc, aa, ac⟩ := e
  have HN := Lib.hid (World.alloc_heap_new w (.cells (⟨f, ta, tc, ba, bc, aa, ac⟩ : FctE).cells 45))
  have HB := Lib.hid ((Below.refl w.heap.size w).alloc (Nat.le_refl _) (.cells (⟨f, ta, tc, ba, bc, aa, ac⟩ : FctE).cells 45))
  have HS := Lib.hid (hs.bel HB.out)
  have HE : Hid (inR f.block 1 1000 = (decide (1 ≤ f.block) && decide (f.block ≤ 1000))) := Lib.hid rfl
  clear hs h
  go_enter Tryz.func44, Tryz.ntmps44
  go_upto_region 1 with fail
  generalize hW1 : World.alloc w _ = W1 at *
  clear hW1
  have d16 : W1.cell? ⟨w.heap.size, 16, none⟩ = some (.int .i64 f.block) := blk_cell HN.out 16
  obtain ⟨x, hx⟩ : ∃ x, f.block = x := ⟨_, rfl⟩
  rw [hx] at d16 HE
  have HX := Lib.hid hx
  clear hx
  by_cases k1 : (1 : Int) ≤ x
  · by_cases k2 : x ≤ 1000
    · have HV : Hid (inR x 1 1000 = true) := Lib.hid (HE.out.trans (by rw [decide_eq_true k1, decide_eq_true k2]; rfl))
      have k3 : x ≤1000 := by omega
      go_wp2_with fail
      go_ret
      exact ⟨by show _ = Ending.returned (.bool (inR f.block 1 1000)); rw [HX.out, HV.out]; rfl, HB.out⟩
    · have HV : Hid (inR x 1 1000 = false) := Lib.hid (HE.out.trans (by rw [decide_eq_false k2, Bool.and_false]))
      have k3 : ¬ x ≤1000 := by omega
      go_wp2_with fail
      go_ret
      exact ⟨by show _ = Ending.returned (.bool (inR f.block 1 1000)); rw [HX.out, HV.out]; rfl, HB.out⟩
  · have HV : Hid (inR x 1 1000 = false) := Lib.hid (HE.out.trans (by rw [decide_eq_false k1, Bool.false_and]))
    go_wp2_with fail
    go_ret
    exact ⟨by show _ = Ending.returned (.bool (inR f.block 1 1000)); rw [HX.out, HV.out]; rfl, HB.out⟩
set_option maxRecDepth 100000 in
set_option maxHeartbeats 2000000 in
theorem right_110 {mem : Addr → Option Value} (e : FctE) (h : e.ok mem) (w : World) (hs : Sees mem w) :
    Calls Tryz.prog 44 #[.agg e.cells, .int .u8 110] w fun r w' => r = .returned (.bool (inR e.f.sentence 0 299)) ∧ Below w.heap.size w w' := by
  obtain ⟨f, ta, tc, ba, bc, aa, ac⟩ := e
  have HN := Lib.hid (World.alloc_heap_new w (.cells (⟨f, ta, tc, ba, bc, aa, ac⟩ : FctE).cells 45))
  have HB := Lib.hid ((Below.refl w.heap.size w).alloc (Nat.le_refl _) (.cells (⟨f, ta, tc, ba, bc, aa, ac⟩ : FctE).cells 45))
  have HS := Lib.hid (hs.bel HB.out)
  have HE : Hid (inR f.sentence 0 299 = (decide (0 ≤ f.sentence) && decide (f.sentence ≤ 299))) := Lib.hid rfl
  clear hs h
  go_enter Tryz.func44, Tryz.ntmps44
  go_upto_region 1 with fail
  generalize hW1 : World.alloc w _ = W1 at *
  clear hW1
  have d17 : W1.cell? ⟨w.heap.size, 17, none⟩ = some (.int .i64 f.sentence) := blk_cell HN.out 17
  obtain ⟨x, hx⟩ : ∃ x, f.sentence = x := ⟨_, rfl⟩
  rw [hx] at d17 HE
  have HX := Lib.hid hx
  clear hx
  by_cases k1 : (0 : Int) ≤ x
  · by_cases k2 : x ≤ 299
    · have HV : Hid (inR x 0 299 = true) := Lib.hid (HE.out.trans (by rw [decide_eq_true k1, decide_eq_true k2]; rfl))
      have k3 : x <300 := by omega
      go_wp2_with fail
      go_ret
      exact ⟨by show _ = Ending.returned (.bool (inR f.sentence 0 299)); rw [HX.out, HV.out]; rfl, HB.out⟩
    · have HV : Hid (inR x 0 299 = false) := Lib.hid (HE.out.trans (by rw [decide_eq_false k2, Bool.and_false]))
      have k3 : ¬ x <300 := by omega
      go_wp2_with fail
      go_ret
      exact ⟨by show _ = Ending.returned (.bool (inR f.sentence 0 299)); rw [HX.out, HV.out]; rfl, HB.out⟩
  · have HV : Hid (inR x 0 299 = false) := Lib.hid (HE.out.trans (by rw [decide_eq_false k1, Bool.false_and]))
    go_wp2_with fail
    go_ret
    exact ⟨by show _ = Ending.returned (.bool (inR f.sentence 0 299)); rw [HX.out, HV.out]; rfl, HB.out⟩
set_option maxRecDepth 100000 in
set_option maxHeartbeats 2000000 in
theorem right_97 {mem : Addr → Option Value} (e : FctE) (h : e.ok mem) (w : World) (hs : Sees mem w) :
    Calls Tryz.prog 44 #[.agg e.cells, .int .u8 97] w fun r w' => r = .returned (.bool (inR e.f.base 0 (e.f.rev - 1))) ∧ Below w.heap.size w w' := by
  obtain ⟨f, ta, tc, ba, bc, aa, ac⟩ := e
  have HN := Lib.hid (World.alloc_heap_new w (.cells (⟨f, ta, tc, ba, bc, aa, ac⟩ : FctE).cells 45))
  have HB := Lib.hid ((Below.refl w.heap.size w).alloc (Nat.le_refl _) (.cells (⟨f, ta, tc, ba, bc, aa, ac⟩ : FctE).cells 45))
  have HS := Lib.hid (hs.bel HB.out)
  have HE : Hid (inR f.base 0 (f.rev - 1) = (decide (0 ≤ f.base) && decide (f.base ≤ f.rev - 1))) := Lib.hid rfl
  clear hs h
  go_enter Tryz.func44, Tryz.ntmps44
  go_upto_region 1 with fail
  generalize hW1 : World.alloc w _ = W1 at *
  clear hW1
  have d5 : W1.cell? ⟨w.heap.size, 5, none⟩ = some (.int .i64 f.rev) := blk_cell HN.out 5
  have d6 : W1.cell? ⟨w.heap.size, 6, none⟩ = some (.int .i64 f.base) := blk_cell HN.out 6
  obtain ⟨x, hx⟩ : ∃ x, f.base = x := ⟨_, rfl⟩
  obtain ⟨y, hy⟩ : ∃ y, f.rev = y := ⟨_, rfl⟩
  rw [hx] at d6 HE
  rw [hy] at d5 HE
  have HX := Lib.hid hx
  have HY := Lib.hid hy
  clear hx hy
  by_cases k1 : (0 : Int) ≤ x
  · by_cases k2 : x ≤ y - 1
    · have HV : Hid (inR x 0 (y - 1) = true) := Lib.hid (HE.out.trans (by rw [decide_eq_true k1, decide_eq_true k2]; rfl))
      have k3 : x < y := by omega
      go_wp2_with fail
      go_ret
      exact ⟨by show _ = Ending.returned (.bool (inR f.base 0 (f.rev - 1))); rw [HX.out, HY.out, HV.out]; rfl, HB.out⟩
    · have HV : Hid (inR x 0 (y - 1) = false) := Lib.hid (HE.out.trans (by rw [decide_eq_false k2, Bool.and_false]))
      have k3 : ¬ x < y := by omega
      go_wp2_with fail
      go_ret
      exact ⟨by show _ = Ending.returned (.bool (inR f.base 0 (f.rev - 1))); rw [HX.out, HY.out, HV.out]; rfl, HB.out⟩
  · have HV : Hid (inR x 0 (y - 1) = false) := Lib.hid (HE.out.trans (by rw [decide_eq_false k1, Bool.false_and]))
    go_wp2_with fail
    go_ret
    exact ⟨by show _ = Ending.returned (.bool (inR f.base 0 (f.rev - 1))); rw [HX.out, HY.out, HV.out]; rfl, HB.out⟩
set_option maxRecDepth 100000 in
set_option maxHeartbeats 2000000 in
theorem right_108 {mem : Addr → Option Value} (e : FctE) (h : e.ok mem) (w : World) (hs : Sees mem w) :
    Calls Tryz.prog 44 #[.agg e.cells, .int .u8 108] w fun r w' => r = .returned (.bool (nameOK e.f.lang)) ∧ Below w.heap.size w w' := by
  obtain ⟨f, ta, tc, ba, bc, aa, ac⟩ := e
  have HN := Lib.hid (World.alloc_heap_new w (.cells (⟨f, ta, tc, ba, bc, aa, ac⟩ : FctE).cells 45))
  have HB := Lib.hid ((Below.refl w.heap.size w).alloc (Nat.le_refl _) (.cells (⟨f, ta, tc, ba, bc, aa, ac⟩ : FctE).cells 45))
  have HS := Lib.hid (hs.bel HB.out)
  have c1 : Hid (∀ W, Sees mem W → Calls Tryz.prog _ #[.string f.lang] W fun e w' => e = .returned (.bool (nameOK f.lang)) ∧ Below W.heap.size W w') := Lib.hid fun W _ => (isNameR_any f.lang W h.fok.s4).mono (by rintro e w' ⟨rfl, rfl⟩; exact ⟨rfl, Below.refl _ _⟩)
  clear hs h
  go_enter Tryz.func44, Tryz.ntmps44
  go_upto_region 1 with fail
  generalize hW1 : World.alloc w _ = W1 at *
  clear hW1
  have d4 : W1.cell? ⟨w.heap.size, 4, none⟩ = some (.string f.lang) := blk_cell HN.out 4
  go_wp2_with fail
  refine (c1.out _ HS.out).mono ?_
  rintro e w2 ⟨rfl, hb⟩
  have HB2 := Lib.hid (HB.out.trans (hb.mono HB.out.size))
  clear hb
  go_wp2_with fail
  go_ret
  exact ⟨rfl, HB2.out⟩
set_option maxRecDepth 100000 in
set_option maxHeartbeats 2000000 in
theorem right_116 {mem : Addr → Option Value} (e : FctE) (h : e.ok mem) (w : World) (hs : Sees mem w) :
    Calls Tryz.prog 44 #[.agg e.cells, .int .u8 116] w fun r w' => r = .returned (.bool (fullOK e.f.title)) ∧ Below w.heap.size w w' := by
  obtain ⟨f, ta, tc, ba, bc, aa, ac⟩ := e
  have HN := Lib.hid (World.alloc_heap_new w (.cells (⟨f, ta, tc, ba, bc, aa, ac⟩ : FctE).cells 45))
  have HB := Lib.hid ((Below.refl w.heap.size w).alloc (Nat.le_refl _) (.cells (⟨f, ta, tc, ba, bc, aa, ac⟩ : FctE).cells 45))
  have HS := Lib.hid (hs.bel HB.out)
  have c1 : Hid (∀ W, Sees mem W → Calls Tryz.prog _ #[.string f.title] W fun e w' => e = .returned (.bool (fullOK f.title)) ∧ Below W.heap.size W w') := Lib.hid fun W _ => (isText5_any f.title W h.fok.s7).mono (by rintro e w' ⟨rfl, rfl⟩; exact ⟨rfl, Below.refl _ _⟩)
  clear hs h
  go_enter Tryz.func44, Tryz.ntmps44
  go_upto_region 1 with fail
  generalize hW1 : World.alloc w _ = W1 at *
  clear hW1
  have d7 : W1.cell? ⟨w.heap.size, 7, none⟩ = some (.string f.title) := blk_cell HN.out 7
  go_wp2_with fail
  refine (c1.out _ HS.out).mono ?_
  rintro e w2 ⟨rfl, hb⟩
  have HB2 := Lib.hid (HB.out.trans (hb.mono HB.out.size))
  clear hb
  go_wp2_with fail
  go_ret
  exact ⟨rfl, HB2.out⟩
set_option maxRecDepth 100000 in
set_option maxHeartbeats 2000000 in
theorem right_117 {mem : Addr → Option Value} (e : FctE) (h : e.ok mem) (w : World) (hs : Sees mem w) :
    Calls Tryz.prog 44 #[.agg e.cells, .int .u8 117] w fun r w' => r = .returned (.bool (nameOK e.f.author)) ∧ Below w.heap.size w w' := by
  obtain ⟨f, ta, tc, ba, bc, aa, ac⟩ := e
  have HN := Lib.hid (World.alloc_heap_new w (.cells (⟨f, ta, tc, ba, bc, aa, ac⟩ : FctE).cells 45))
  have HB := Lib.hid ((Below.refl w.heap.size w).alloc (Nat.le_refl _) (.cells (⟨f, ta, tc, ba, bc, aa, ac⟩ : FctE).cells 45))
  have HS := Lib.hid (hs.bel HB.out)
  have c1 : Hid (∀ W, Sees mem W → Calls Tryz.prog _ #[.string f.author] W fun e w' => e = .returned (.bool (nameOK f.author)) ∧ Below W.heap.size W w') := Lib.hid fun W _ => (isNameR_any f.author W h.fok.s8).mono (by rintro e w' ⟨rfl, rfl⟩; exact ⟨rfl, Below.refl _ _⟩)
  clear hs h
  go_enter Tryz.func44, Tryz.ntmps44
  go_upto_region 1 with fail
  generalize hW1 : World.alloc w _ = W1 at *
  clear hW1
  have d8 : W1.cell? ⟨w.heap.size, 8, none⟩ = some (.string f.author) := blk_cell HN.out 8
  go_wp2_with fail
  refine (c1.out _ HS.out).mono ?_
  rintro e w2 ⟨rfl, hb⟩
  have HB2 := Lib.hid (HB.out.trans (hb.mono HB.out.size))
  clear hb
  go_wp2_with fail
  go_ret
  exact ⟨rfl, HB2.out⟩
set_option maxRecDepth 100000 in
set_option maxHeartbeats 2000000 in
theorem right_109 {mem : Addr → Option Value} (e : FctE) (h : e.ok mem) (w : World) (hs : Sees mem w) :
    Calls Tryz.prog 44 #[.agg e.cells, .int .u8 109] w fun r w' => r = .returned (.bool (nameOK e.f.name)) ∧ Below w.heap.size w w' := by
  obtain ⟨f, ta, tc, ba, bc, aa, ac⟩ := e
  have HN := Lib.hid (World.alloc_heap_new w (.cells (⟨f, ta, tc, ba, bc, aa, ac⟩ : FctE).cells 45))
  have HB := Lib.hid ((Below.refl w.heap.size w).alloc (Nat.le_refl _) (.cells (⟨f, ta, tc, ba, bc, aa, ac⟩ : FctE).cells 45))
  have HS := Lib.hid (hs.bel HB.out)
  have c1 : Hid (∀ W, Sees mem W → Calls Tryz.prog _ #[.string f.name] W fun e w' => e = .returned (.bool (nameOK f.name)) ∧ Below W.heap.size W w') := Lib.hid fun W _ => (isNameR_any f.name W h.fok.s19).mono (by rintro e w' ⟨rfl, rfl⟩; exact ⟨rfl, Below.refl _ _⟩)
  clear hs h
  go_enter Tryz.func44, Tryz.ntmps44
  go_upto_region 1 with fail
  generalize hW1 : World.alloc w _ = W1 at *
  clear hW1
  have d19 : W1.cell? ⟨w.heap.size, 19, none⟩ = some (.string f.name) := blk_cell HN.out 19
  go_wp2_with fail
  refine (c1.out _ HS.out).mono ?_
  rintro e w2 ⟨rfl, hb⟩
  have HB2 := Lib.hid (HB.out.trans (hb.mono HB.out.size))
  clear hb
  go_wp2_with fail
  go_ret
  exact ⟨rfl, HB2.out⟩
set_option maxRecDepth 100000 in
set_option maxHeartbeats 2000000 in
theorem right_120s {mem : Addr → Option Value} (e : FctE) (h : e.ok mem) (hk : e.f.kind = 7) (w : World) (hs : Sees mem w) :
    Calls Tryz.prog 44 #[.agg e.cells, .int .u8 120] w fun r w' => r = .returned (.bool (srcOK e.f.text)) ∧ Below w.heap.size w w' := by
  obtain ⟨f, ta, tc, ba, bc, aa, ac⟩ := e
  have HN := Lib.hid (World.alloc_heap_new w (.cells (⟨f, ta, tc, ba, bc, aa, ac⟩ : FctE).cells 45))
  have HB := Lib.hid ((Below.refl w.heap.size w).alloc (Nat.le_refl _) (.cells (⟨f, ta, tc, ba, bc, aa, ac⟩ : FctE).cells 45))
  have HS := Lib.hid (hs.bel HB.out)
  have c1 : Hid (∀ W, Sees mem W → Calls Tryz.prog _ #[.string f.text] W fun e w' => e = .returned (.bool (srcOK f.text)) ∧ Below W.heap.size W w') := Lib.hid fun W _ => (isSource5_any f.text W h.fok.s18).mono (by rintro e w' ⟨rfl, rfl⟩; exact ⟨rfl, Below.refl _ _⟩)
  dsimp only at hk
  clear hs h
  go_enter Tryz.func44, Tryz.ntmps44
  go_upto_region 1 with fail
  generalize hW1 : World.alloc w _ = W1 at *
  clear hW1
  have d2 : W1.cell? ⟨w.heap.size, 2, none⟩ = some (.int .i64 f.kind) := blk_cell HN.out 2
  have d18 : W1.cell? ⟨w.heap.size, 18, none⟩ = some (.string f.text) := blk_cell HN.out 18
  generalize f.kind = x at *
  go_wp2_with fail
  refine (c1.out _ HS.out).mono ?_
  rintro e w2 ⟨rfl, hb⟩
  have HB2 := Lib.hid (HB.out.trans (hb.mono HB.out.size))
  clear hb
  go_wp2_with fail
  go_ret
  exact ⟨rfl, HB2.out⟩
set_option maxRecDepth 100000 in
set_option maxHeartbeats 2000000 in
theorem right_120t {mem : Addr → Option Value} (e : FctE) (h : e.ok mem) (hk : ¬ e.f.kind = 7) (w : World) (hs : Sees mem w) :
    Calls Tryz.prog 44 #[.agg e.cells, .int .u8 120] w fun r w' => r = .returned (.bool (fullOK e.f.text)) ∧ Below w.heap.size w w' := by
  obtain ⟨f, ta, tc, ba, bc, aa, ac⟩ := e
  have HN := Lib.hid (World.alloc_heap_new w (.cells (⟨f, ta, tc, ba, bc, aa, ac⟩ : FctE).cells 45))
  have HB := Lib.hid ((Below.refl w.heap.size w).alloc (Nat.le_refl _) (.cells (⟨f, ta, tc, ba, bc, aa, ac⟩ : FctE).cells 45))
  have HS := Lib.hid (hs.bel HB.out)
  have c1 : Hid (∀ W, Sees mem W → Calls Tryz.prog _ #[.string f.text] W fun e w' => e = .returned (.bool (fullOK f.text)) ∧ Below W.heap.size W w') := Lib.hid fun W _ => (isText5_any f.text W h.fok.s18).mono (by rintro e w' ⟨rfl, rfl⟩; exact ⟨rfl, Below.refl _ _⟩)
  dsimp only at hk
  clear hs h
  go_enter Tryz.func44, Tryz.ntmps44
  go_upto_region 1 with fail
  generalize hW1 : World.alloc w _ = W1 at *
  clear hW1
  have d2 : W1.cell? ⟨w.heap.size, 2, none⟩ = some (.int .i64 f.kind) := blk_cell HN.out 2
  have d18 : W1.cell? ⟨w.heap.size, 18, none⟩ = some (.string f.text) := blk_cell HN.out 18
  generalize f.kind = x at *
  go_wp2_with fail
  refine (c1.out _ HS.out).mono ?_
  rintro e w2 ⟨rfl, hb⟩
  have HB2 := Lib.hid (HB.out.trans (hb.mono HB.out.size))
  clear hb
  go_wp2_with fail
  go_ret
  exact ⟨rfl, HB2.out⟩
set_option maxRecDepth 100000 in
set_option maxHeartbeats 2000000 in
theorem right_111 {mem : Addr → Option Value} (e : FctE) (h : e.ok mem) (w : World) (hs : Sees mem w) :
    Calls Tryz.prog 44 #[.agg e.cells, .int .u8 111] w fun r w' => r = .returned (.bool (topicsOK e.f.topics)) ∧ Below w.heap.size w w' := by
  obtain ⟨f, ta, tc, ba, bc, aa, ac⟩ := e
  have HN := Lib.hid (World.alloc_heap_new w (.cells (⟨f, ta, tc, ba, bc, aa, ac⟩ : FctE).cells 45))
  have HB := Lib.hid ((Below.refl w.heap.size w).alloc (Nat.le_refl _) (.cells (⟨f, ta, tc, ba, bc, aa, ac⟩ : FctE).cells 45))
  have HS := Lib.hid (hs.bel HB.out)
  have hp : Parts mem f (.slice ta f.topics.length tc) (.slice ba f.blocks.length bc) (.slice aa f.lab.after.length ac) := h.parts
  have c1 : Hid (∀ W, Sees mem W → Calls Tryz.prog _ #[.slice ta f.topics.length tc] W fun e w' => e = .returned (.bool (topicsOK f.topics)) ∧ Below W.heap.size W w') := Lib.hid fun W hW => areTopics5_any hp.1 W hW
  clear hs h hp
  go_enter Tryz.func44, Tryz.ntmps44
  go_upto_region 1 with fail
  generalize hW1 : World.alloc w _ = W1 at *
  clear hW1
  have d9 : W1.cell? ⟨w.heap.size, 9, none⟩ = some (.slice ta f.topics.length tc) := blk_cell HN.out 9
  go_wp2_with fail
  refine (c1.out _ HS.out).mono ?_
  rintro e w2 ⟨rfl, hb⟩
  have HB2 := Lib.hid (HB.out.trans (hb.mono HB.out.size))
  clear hb
  go_wp2_with fail
  go_ret
  exact ⟨rfl, HB2.out⟩
set_option maxRecDepth 100000 in
set_option maxHeartbeats 2000000 in
theorem right_98 {mem : Addr → Option Value} (e : FctE) (h : e.ok mem) (w : World) (hs : Sees mem w) :
    Calls Tryz.prog 44 #[.agg e.cells, .int .u8 98] w fun r w' => r = .returned (.bool (decide (ValidL e.f.blocks))) ∧ Below w.heap.size w w' := by
  obtain ⟨f, ta, tc, ba, bc, aa, ac⟩ := e
  have HN := Lib.hid (World.alloc_heap_new w (.cells (⟨f, ta, tc, ba, bc, aa, ac⟩ : FctE).cells 45))
  have HB := Lib.hid ((Below.refl w.heap.size w).alloc (Nat.le_refl _) (.cells (⟨f, ta, tc, ba, bc, aa, ac⟩ : FctE).cells 45))
  have HS := Lib.hid (hs.bel HB.out)
  have hp : Parts mem f (.slice ta f.topics.length tc) (.slice ba f.blocks.length bc) (.slice aa f.lab.after.length ac) := h.parts
  have c1 : Hid (∀ W, Sees mem W → Calls Tryz.prog _ #[.slice ba f.blocks.length bc] W fun e w' => e = .returned (.bool (decide (ValidL f.blocks))) ∧ Below W.heap.size W w') := Lib.hid fun W hW => validListR_any hp.2.1 W hW
  clear hs h hp
  go_enter Tryz.func44, Tryz.ntmps44
  go_upto_region 1 with fail
  generalize hW1 : World.alloc w _ = W1 at *
  clear hW1
  have d10 : W1.cell? ⟨w.heap.size, 10, none⟩ = some (.slice ba f.blocks.length bc) := blk_cell HN.out 10
  go_wp2_with fail
  refine (c1.out _ HS.out).mono ?_
  rintro e w2 ⟨rfl, hb⟩
  have HB2 := Lib.hid (HB.out.trans (hb.mono HB.out.size))
  clear hb
  go_wp2_with fail
  go_ret
  exact ⟨rfl, HB2.out⟩
set_option maxRecDepth 100000 in
set_option maxHeartbeats 2000000 in
theorem right_76 {mem : Addr → Option Value} (e : FctE) (h : e.ok mem) (w : World) (hs : Sees mem w) :
    Calls Tryz.prog 44 #[.agg e.cells, .int .u8 76] w fun r w' => r = .returned (.bool (validLab e.f.lab)) ∧ Below w.heap.size w w' := by
  obtain ⟨f, ta, tc, ba, bc, aa, ac⟩ := e
  have HN := Lib.hid (World.alloc_heap_new w (.cells (⟨f, ta, tc, ba, bc, aa, ac⟩ : FctE).cells 45))
  have HB := Lib.hid ((Below.refl w.heap.size w).alloc (Nat.le_refl _) (.cells (⟨f, ta, tc, ba, bc, aa, ac⟩ : FctE).cells 45))
  have HS := Lib.hid (hs.bel HB.out)
  have hp : Parts mem f (.slice ta f.topics.length tc) (.slice ba f.blocks.length bc) (.slice aa f.lab.after.length ac) := h.parts
  have c1 : Hid (∀ W, Sees mem W → Calls Tryz.prog _ #[.agg (labCells f.lab (.slice aa f.lab.after.length ac))] W fun e w' => e = .returned (.bool (validLab f.lab)) ∧ Below W.heap.size W w') := Lib.hid fun W hW => labValidR_any f.lab _ hp.2.2 W hW
  clear hs h hp
  go_enter Tryz.func44, Tryz.ntmps44
  go_upto_region 1 with fail
  generalize hW1 : World.alloc w _ = W1 at *
  clear hW1
  have d11 : W1.cell? ⟨w.heap.size, 11, none⟩ = some (.int .i64 f.lab.till) := blk_cell HN.out 11
  have d12 : W1.cell? ⟨w.heap.size, 12, none⟩ = some (.slice aa f.lab.after.length ac) := blk_cell HN.out 12
  have d13 : W1.cell? ⟨w.heap.size, 13, none⟩ = some (.int .i64 f.lab.appr) := blk_cell HN.out 13
  have d14 : W1.cell? ⟨w.heap.size, 14, none⟩ = some (.int .i64 f.lab.denied) := blk_cell HN.out 14
  go_wp2_with fail
  refine (c1.out _ HS.out).mono ?_
  rintro e w2 ⟨rfl, hb⟩
  have HB2 := Lib.hid (HB.out.trans (hb.mono HB.out.size))
  clear hb
  go_wp2_with fail
  go_ret
  exact ⟨rfl, HB2.out⟩
end Go.Proofs.YtgbihmafmmeicaaGreatDoor
namespace Go.Proofs.YtgbihmafmmeicaaGreatDoor
open Go.RowKit Mg Go.Shelf

def lawC : List UInt8 := [115, 108, 114, 97, 116, 117, 111, 98, 76, 101, 107, 110, 120, 109]
def rightF (f : Fct) (c : UInt8) : Bool :=
  if c = 115 then (inR f.story 1 64) else
  if c = 108 then (nameOK f.lang) else
  if c = 114 then (inR f.rev 1 100) else
  if c = 97 then (inR f.base 0 (f.rev - 1)) else
  if c = 116 then (fullOK f.title) else
  if c = 117 then (nameOK f.author) else
  if c = 111 then (topicsOK f.topics) else
  if c = 98 then (decide (ValidL f.blocks)) else
  if c = 76 then (validLab f.lab) else
  if c = 101 then (inR f.editor 1 5) else
  if c = 107 then (inR f.block 1 1000) else
  if c = 110 then (inR f.sentence 0 299) else
  if c = 120 then (if f.kind = 7 then srcOK f.text else fullOK f.text) else
  if c = 109 then (nameOK f.name) else
  false
def dropE (e : FctE) (c : UInt8) : FctE :=
  if c = 115 then { e with f := { e.f with story := 0 } } else
  if c = 108 then { e with f := { e.f with lang := str0 } } else
  if c = 114 then { e with f := { e.f with rev := 0 } } else
  if c = 97 then { e with f := { e.f with base := 0 } } else
  if c = 116 then { e with f := { e.f with title := str0 } } else
  if c = 117 then { e with f := { e.f with author := str0 } } else
  if c = 111 then { e with f := { e.f with topics := [] }, ta := none, tc := 0 } else
  if c = 98 then { e with f := { e.f with blocks := [] }, ba := none, bc := 0 } else
  if c = 76 then { e with f := { e.f with lab := lab0 }, aa := none, ac := 0 } else
  if c = 101 then { e with f := { e.f with editor := 0 } } else
  if c = 107 then { e with f := { e.f with block := 0 } } else
  if c = 110 then { e with f := { e.f with sentence := 0 } } else
  if c = 120 then { e with f := { e.f with text := str0 } } else
  if c = 109 then { e with f := { e.f with name := str0 } } else
  e
theorem right_any {mem : Addr → Option Value} (e : FctE) (h : e.ok mem) (c : UInt8) (hc : c ∈ lawC) (w : World) (hs : Sees mem w) :
    Calls Tryz.prog 44 #[.agg e.cells, .int .u8 c.toNat] w fun r w' => r = .returned (.bool (rightF e.f c)) ∧ Below w.heap.size w w' := by
  unfold lawC at hc
  simp only [List.mem_cons, List.not_mem_nil, or_false] at hc
  rcases hc with rfl | rfl | rfl | rfl | rfl | rfl | rfl | rfl | rfl | rfl | rfl | rfl | rfl | rfl
  · exact right_115 e h w hs
  · exact right_108 e h w hs
  · exact right_114 e h w hs
  · exact right_97 e h w hs
  · exact right_116 e h w hs
  · exact right_117 e h w hs
  · exact right_111 e h w hs
  · exact right_98 e h w hs
  · exact right_76 e h w hs
  · exact right_101 e h w hs
  · exact right_107 e h w hs
  · exact right_110 e h w hs
  · have HR : rightF e.f 120 = if e.f.kind = 7 then srcOK e.f.text else fullOK e.f.text := rfl
    by_cases h7 : e.f.kind = 7
    · rw [HR, if_pos h7]
      exact right_120s e h h7 w hs
    · rw [HR, if_neg h7]
      exact right_120t e h h7 w hs
  · exact right_109 e h w hs
structure GW (w : World) (A Z : Array Value) (W : World) : Prop where
  a : W.heap[w.heap.size]? = some (.cells A 45 (0, 0))
  z : W.heap[w.heap.size + 1]? = some (.cells Z 45 (0, 0))
  b : Below w.heap.size w W
theorem GW.new (w : World) (A Z : Array Value) : GW w A Z ((w.alloc (.cells A 45)).alloc (.cells Z 45)) :=
  ⟨heap_new1 w _ _, heap_new2 w _ _, ((Below.refl _ w).alloc (Nat.le_refl _) _).alloc (by simp) _⟩
section
variable {w W W' : World} {A Z : Array Value}
theorem GW.setZ (h : GW w A Z W) (cs : Array Value) : GW w A cs (W.setRow (w.heap.size + 1) cs) :=
  ⟨(setRow_other _ _ _ _ (by omega)).trans h.a, setRow_heap _ _ _ _ _ _ h.z, below_setRow h.b (by omega) _⟩
theorem GW.setA (h : GW w A Z W) (j : Nat) (v : Value) : GW w (A.setIfInBounds j v) Z (W.setCell ⟨w.heap.size, j, none⟩ v) := by
  rw [setCell_eq_setRow W _ j A 45 (0, 0) v h.a]
  exact ⟨setRow_heap _ _ _ _ _ _ h.a, (setRow_other _ _ _ _ (by omega)).trans h.z, below_setRow h.b (by omega) _⟩
theorem without_results (h : GW w A Z W) (hz : Z.size = 23) {t : Array Value} (h4 : t[4]? = some (.pointer (some ⟨w.heap.size + 1, 0, none⟩))) :
    (results Tryz.f45 t).run Tryz.prog W = .ok (.agg Z) W := by
  obtain ⟨fs, hu⟩ := fct_under
  have hl := run_loadVar_row (P := Tryz.prog) W (w.heap.size + 1) 45 45 Z (0, 0) _ h.z hu rfl (by rw [fct_size, hz])
  simp [results, h4, hl, asAddr]
end
set_option maxRecDepth 100000 in
set_option maxHeartbeats 2000000 in
theorem without_115 (e : FctE) (w : World) :
    Calls Tryz.prog 45 #[.agg e.cells, .int .u8 115] w fun r w' => r = .returned (.agg (dropE e 115).cells) ∧ Below w.heap.size w w' := by
  obtain ⟨A, hA⟩ : ∃ A, e.cells = A := ⟨_, rfl⟩
  rw [hA]
  have hE : (dropE e 115).cells = (A.setIfInBounds 3 (.int .i64 0)) := by rw [← hA]; rfl
  have hz : Hid ((A.setIfInBounds 3 (.int .i64 0)).size = 23) := Lib.hid (by rw [← hE]; rfl)
  have hone : Hid ((A.setIfInBounds 3 (.int .i64 0)).all (·.oneCell') = true) := Lib.hid (by rw [← hE]; exact FctE.one _)
  rw [hE]
  obtain ⟨v3, hv3⟩ : ∃ v, A[3]? = some v := ⟨_, by rw [← hA]; rfl⟩
  clear hE hA
  go_enter Tryz.func45, Tryz.ntmps45
  go_upto_region 1 with fail
  generalize hW : World.alloc (World.alloc w _) _ = W1
  have h0 : Hid (GW w A zeroFct W1) := Lib.hid (by rw [← hW]; exact GW.new w _ _)
  clear hW
  have d3 := (blk_cell h0.out.a 3).trans hv3
  have g3 := blk_free h0.out.a 3
  go_upto_region 35 with fail
  generalize hW2 : (World.setCell W1 _ _) = W2
  have h1 : Hid (GW w (A.setIfInBounds 3 (.int .i64 0)) zeroFct W2) := Lib.hid (by rw [← hW2]; exact (h0.out).setA 3 (.int .i64 0))
  clear hW2
  go_wp2_with (first
    | ((with_reducible refine at_fload _ rfl ?_); go_must (refine wpList_fct_load rfl _ rfl w.heap.size (by simp [Act.eval]) _ h1.out.a hz.out ?_))
    | ((with_reducible refine at_fstore _ _ rfl ?_); go_must (refine wpList_store_rowTo rfl 45 _ _ rfl rfl (w.heap.size + 1) _ (by rfl) (by rfl) 45 _ h1.out.z (by rw [fct_size, hz.out]) (by rw [hz.out]; rfl) hone.out ?_)))
  refine bodyPost_ret (without_results (h1.out.setZ _) hz.out (by rfl)) rfl ?_
  exact ⟨rfl, (h1.out.setZ _).b⟩
set_option maxRecDepth 100000 in
set_option maxHeartbeats 2000000 in
theorem without_108 (e : FctE) (w : World) :
    Calls Tryz.prog 45 #[.agg e.cells, .int .u8 108] w fun r w' => r = .returned (.agg (dropE e 108).cells) ∧ Below w.heap.size w w' := by
  obtain ⟨A, hA⟩ : ∃ A, e.cells = A := ⟨_, rfl⟩
  rw [hA]
  have hE : (dropE e 108).cells = (A.setIfInBounds 4 (.string .empty)) := by rw [← hA]; rfl
  have hz : Hid ((A.setIfInBounds 4 (.string .empty)).size = 23) := Lib.hid (by rw [← hE]; rfl)
  have hone : Hid ((A.setIfInBounds 4 (.string .empty)).all (·.oneCell') = true) := Lib.hid (by rw [← hE]; exact FctE.one _)
  rw [hE]
  obtain ⟨v4, hv4⟩ : ∃ v, A[4]? = some v := ⟨_, by rw [← hA]; rfl⟩
  clear hE hA
  go_enter Tryz.func45, Tryz.ntmps45
  go_upto_region 1 with fail
  generalize hW : World.alloc (World.alloc w _) _ = W1
  have h0 : Hid (GW w A zeroFct W1) := Lib.hid (by rw [← hW]; exact GW.new w _ _)
  clear hW
  have d4 := (blk_cell h0.out.a 4).trans hv4
  have g4 := blk_free h0.out.a 4
  go_upto_region 35 with fail
  generalize hW2 : (World.setCell W1 _ _) = W2
  have h1 : Hid (GW w (A.setIfInBounds 4 (.string .empty)) zeroFct W2) := Lib.hid (by rw [← hW2]; exact (h0.out).setA 4 (.string .empty))
  clear hW2
  go_wp2_with (first
    | ((with_reducible refine at_fload _ rfl ?_); go_must (refine wpList_fct_load rfl _ rfl w.heap.size (by simp [Act.eval]) _ h1.out.a hz.out ?_))
    | ((with_reducible refine at_fstore _ _ rfl ?_); go_must (refine wpList_store_rowTo rfl 45 _ _ rfl rfl (w.heap.size + 1) _ (by rfl) (by rfl) 45 _ h1.out.z (by rw [fct_size, hz.out]) (by rw [hz.out]; rfl) hone.out ?_)))
  refine bodyPost_ret (without_results (h1.out.setZ _) hz.out (by rfl)) rfl ?_
  exact ⟨rfl, (h1.out.setZ _).b⟩
set_option maxRecDepth 100000 in
set_option maxHeartbeats 2000000 in
theorem without_114 (e : FctE) (w : World) :
    Calls Tryz.prog 45 #[.agg e.cells, .int .u8 114] w fun r w' => r = .returned (.agg (dropE e 114).cells) ∧ Below w.heap.size w w' := by
  obtain ⟨A, hA⟩ : ∃ A, e.cells = A := ⟨_, rfl⟩
  rw [hA]
  have hE : (dropE e 114).cells = (A.setIfInBounds 5 (.int .i64 0)) := by rw [← hA]; rfl
  have hz : Hid ((A.setIfInBounds 5 (.int .i64 0)).size = 23) := Lib.hid (by rw [← hE]; rfl)
  have hone : Hid ((A.setIfInBounds 5 (.int .i64 0)).all (·.oneCell') = true) := Lib.hid (by rw [← hE]; exact FctE.one _)
  rw [hE]
  obtain ⟨v5, hv5⟩ : ∃ v, A[5]? = some v := ⟨_, by rw [← hA]; rfl⟩
  clear hE hA
  go_enter Tryz.func45, Tryz.ntmps45
  go_upto_region 1 with fail
  generalize hW : World.alloc (World.alloc w _) _ = W1
  have h0 : Hid (GW w A zeroFct W1) := Lib.hid (by rw [← hW]; exact GW.new w _ _)
  clear hW
  have d5 := (blk_cell h0.out.a 5).trans hv5
  have g5 := blk_free h0.out.a 5
  go_upto_region 35 with fail
  generalize hW2 : (World.setCell W1 _ _) = W2
  have h1 : Hid (GW w (A.setIfInBounds 5 (.int .i64 0)) zeroFct W2) := Lib.hid (by rw [← hW2]; exact (h0.out).setA 5 (.int .i64 0))
  clear hW2
  go_wp2_with (first
    | ((with_reducible refine at_fload _ rfl ?_); go_must (refine wpList_fct_load rfl _ rfl w.heap.size (by simp [Act.eval]) _ h1.out.a hz.out ?_))
    | ((with_reducible refine at_fstore _ _ rfl ?_); go_must (refine wpList_store_rowTo rfl 45 _ _ rfl rfl (w.heap.size + 1) _ (by rfl) (by rfl) 45 _ h1.out.z (by rw [fct_size, hz.out]) (by rw [hz.out]; rfl) hone.out ?_)))
  refine bodyPost_ret (without_results (h1.out.setZ _) hz.out (by rfl)) rfl ?_
  exact ⟨rfl, (h1.out.setZ _).b⟩
set_option maxRecDepth 100000 in
set_option maxHeartbeats 2000000 in
theorem without_97 (e : FctE) (w : World) :
    Calls Tryz.prog 45 #[.agg e.cells, .int .u8 97] w fun r w' => r = .returned (.agg (dropE e 97).cells) ∧ Below w.heap.size w w' := by
  obtain ⟨A, hA⟩ : ∃ A, e.cells = A := ⟨_, rfl⟩
  rw [hA]
  have hE : (dropE e 97).cells = (A.setIfInBounds 6 (.int .i64 0)) := by rw [← hA]; rfl
  have hz : Hid ((A.setIfInBounds 6 (.int .i64 0)).size = 23) := Lib.hid (by rw [← hE]; rfl)
  have hone : Hid ((A.setIfInBounds 6 (.int .i64 0)).all (·.oneCell') = true) := Lib.hid (by rw [← hE]; exact FctE.one _)
  rw [hE]
  obtain ⟨v6, hv6⟩ : ∃ v, A[6]? = some v := ⟨_, by rw [← hA]; rfl⟩
  clear hE hA
  go_enter Tryz.func45, Tryz.ntmps45
  go_upto_region 1 with fail
  generalize hW : World.alloc (World.alloc w _) _ = W1
  have h0 : Hid (GW w A zeroFct W1) := Lib.hid (by rw [← hW]; exact GW.new w _ _)
  clear hW
  have d6 := (blk_cell h0.out.a 6).trans hv6
  have g6 := blk_free h0.out.a 6
  go_upto_region 35 with fail
  generalize hW2 : (World.setCell W1 _ _) = W2
  have h1 : Hid (GW w (A.setIfInBounds 6 (.int .i64 0)) zeroFct W2) := Lib.hid (by rw [← hW2]; exact (h0.out).setA 6 (.int .i64 0))
  clear hW2
  go_wp2_with (first
    | ((with_reducible refine at_fload _ rfl ?_); go_must (refine wpList_fct_load rfl _ rfl w.heap.size (by simp [Act.eval]) _ h1.out.a hz.out ?_))
    | ((with_reducible refine at_fstore _ _ rfl ?_); go_must (refine wpList_store_rowTo rfl 45 _ _ rfl rfl (w.heap.size + 1) _ (by rfl) (by rfl) 45 _ h1.out.z (by rw [fct_size, hz.out]) (by rw [hz.out]; rfl) hone.out ?_)))
  refine bodyPost_ret (without_results (h1.out.setZ _) hz.out (by rfl)) rfl ?_
  exact ⟨rfl, (h1.out.setZ _).b⟩
set_option maxRecDepth 100000 in
set_option maxHeartbeats 2000000 in
theorem without_116 (e : FctE) (w : World) :
    Calls Tryz.prog 45 #[.agg e.cells, .int .u8 116] w fun r w' => r = .returned (.agg (dropE e 116).cells) ∧ Below w.heap.size w w' := by
  obtain ⟨A, hA⟩ : ∃ A, e.cells = A := ⟨_, rfl⟩
  rw [hA]
  have hE : (dropE e 116).cells = (A.setIfInBounds 7 (.string .empty)) := by rw [← hA]; rfl
  have hz : Hid ((A.setIfInBounds 7 (.string .empty)).size = 23) := Lib.hid (by rw [← hE]; rfl)
  have hone : Hid ((A.setIfInBounds 7 (.string .empty)).all (·.oneCell') = true) := Lib.hid (by rw [← hE]; exact FctE.one _)
  rw [hE]
  obtain ⟨v7, hv7⟩ : ∃ v, A[7]? = some v := ⟨_, by rw [← hA]; rfl⟩
  clear hE hA
  go_enter Tryz.func45, Tryz.ntmps45
  go_upto_region 1 with fail
  generalize hW : World.alloc (World.alloc w _) _ = W1
  have h0 : Hid (GW w A zeroFct W1) := Lib.hid (by rw [← hW]; exact GW.new w _ _)
  clear hW
  have d7 := (blk_cell h0.out.a 7).trans hv7
  have g7 := blk_free h0.out.a 7
  go_upto_region 35 with fail
  generalize hW2 : (World.setCell W1 _ _) = W2
  have h1 : Hid (GW w (A.setIfInBounds 7 (.string .empty)) zeroFct W2) := Lib.hid (by rw [← hW2]; exact (h0.out).setA 7 (.string .empty))
  clear hW2
  go_wp2_with (first
    | ((with_reducible refine at_fload _ rfl ?_); go_must (refine wpList_fct_load rfl _ rfl w.heap.size (by simp [Act.eval]) _ h1.out.a hz.out ?_))
    | ((with_reducible refine at_fstore _ _ rfl ?_); go_must (refine wpList_store_rowTo rfl 45 _ _ rfl rfl (w.heap.size + 1) _ (by rfl) (by rfl) 45 _ h1.out.z (by rw [fct_size, hz.out]) (by rw [hz.out]; rfl) hone.out ?_)))
  refine bodyPost_ret (without_results (h1.out.setZ _) hz.out (by rfl)) rfl ?_
  exact ⟨rfl, (h1.out.setZ _).b⟩
set_option maxRecDepth 100000 in
set_option maxHeartbeats 2000000 in
theorem without_117 (e : FctE) (w : World) :
    Calls Tryz.prog 45 #[.agg e.cells, .int .u8 117] w fun r w' => r = .returned (.agg (dropE e 117).cells) ∧ Below w.heap.size w w' := by
  obtain ⟨A, hA⟩ : ∃ A, e.cells = A := ⟨_, rfl⟩
  rw [hA]
  have hE : (dropE e 117).cells = (A.setIfInBounds 8 (.string .empty)) := by rw [← hA]; rfl
  have hz : Hid ((A.setIfInBounds 8 (.string .empty)).size = 23) := Lib.hid (by rw [← hE]; rfl)
  have hone : Hid ((A.setIfInBounds 8 (.string .empty)).all (·.oneCell') = true) := Lib.hid (by rw [← hE]; exact FctE.one _)
  rw [hE]
  obtain ⟨v8, hv8⟩ : ∃ v, A[8]? = some v := ⟨_, by rw [← hA]; rfl⟩
  clear hE hA
  go_enter Tryz.func45, Tryz.ntmps45
  go_upto_region 1 with fail
  generalize hW : World.alloc (World.alloc w _) _ = W1
  have h0 : Hid (GW w A zeroFct W1) := Lib.hid (by rw [← hW]; exact GW.new w _ _)
  clear hW
  have d8 := (blk_cell h0.out.a 8).trans hv8
  have g8 := blk_free h0.out.a 8
  go_upto_region 35 with fail
  generalize hW2 : (World.setCell W1 _ _) = W2
  have h1 : Hid (GW w (A.setIfInBounds 8 (.string .empty)) zeroFct W2) := Lib.hid (by rw [← hW2]; exact (h0.out).setA 8 (.string .empty))
  clear hW2
  go_wp2_with (first
    | ((with_reducible refine at_fload _ rfl ?_); go_must (refine wpList_fct_load rfl _ rfl w.heap.size (by simp [Act.eval]) _ h1.out.a hz.out ?_))
    | ((with_reducible refine at_fstore _ _ rfl ?_); go_must (refine wpList_store_rowTo rfl 45 _ _ rfl rfl (w.heap.size + 1) _ (by rfl) (by rfl) 45 _ h1.out.z (by rw [fct_size, hz.out]) (by rw [hz.out]; rfl) hone.out ?_)))
  refine bodyPost_ret (without_results (h1.out.setZ _) hz.out (by rfl)) rfl ?_
  exact ⟨rfl, (h1.out.setZ _).b⟩
set_option maxRecDepth 100000 in
set_option maxHeartbeats 2000000 in
theorem without_111 (e : FctE) (w : World) :
    Calls Tryz.prog 45 #[.agg e.cells, .int .u8 111] w fun r w' => r = .returned (.agg (dropE e 111).cells) ∧ Below w.heap.size w w' := by
  obtain ⟨A, hA⟩ : ∃ A, e.cells = A := ⟨_, rfl⟩
  rw [hA]
  have hE : (dropE e 111).cells = (A.setIfInBounds 9 (.slice none 0 0)) := by rw [← hA]; rfl
  have hz : Hid ((A.setIfInBounds 9 (.slice none 0 0)).size = 23) := Lib.hid (by rw [← hE]; rfl)
  have hone : Hid ((A.setIfInBounds 9 (.slice none 0 0)).all (·.oneCell') = true) := Lib.hid (by rw [← hE]; exact FctE.one _)
  rw [hE]
  obtain ⟨v9, hv9⟩ : ∃ v, A[9]? = some v := ⟨_, by rw [← hA]; rfl⟩
  clear hE hA
  go_enter Tryz.func45, Tryz.ntmps45
  go_upto_region 1 with fail
  generalize hW : World.alloc (World.alloc w _) _ = W1
  have h0 : Hid (GW w A zeroFct W1) := Lib.hid (by rw [← hW]; exact GW.new w _ _)
  clear hW
  have d9 := (blk_cell h0.out.a 9).trans hv9
  have g9 := blk_free h0.out.a 9
  go_upto_region 35 with fail
  generalize hW2 : (World.setCell W1 _ _) = W2
  have h1 : Hid (GW w (A.setIfInBounds 9 (.slice none 0 0)) zeroFct W2) := Lib.hid (by rw [← hW2]; exact (h0.out).setA 9 (.slice none 0 0))
  clear hW2
  go_wp2_with (first
    | ((with_reducible refine at_fload _ rfl ?_); go_must (refine wpList_fct_load rfl _ rfl w.heap.size (by simp [Act.eval]) _ h1.out.a hz.out ?_))
    | ((with_reducible refine at_fstore _ _ rfl ?_); go_must (refine wpList_store_rowTo rfl 45 _ _ rfl rfl (w.heap.size + 1) _ (by rfl) (by rfl) 45 _ h1.out.z (by rw [fct_size, hz.out]) (by rw [hz.out]; rfl) hone.out ?_)))
  refine bodyPost_ret (without_results (h1.out.setZ _) hz.out (by rfl)) rfl ?_
  exact ⟨rfl, (h1.out.setZ _).b⟩
set_option maxRecDepth 100000 in
set_option maxHeartbeats 2000000 in
theorem without_98 (e : FctE) (w : World) :
    Calls Tryz.prog 45 #[.agg e.cells, .int .u8 98] w fun r w' => r = .returned (.agg (dropE e 98).cells) ∧ Below w.heap.size w w' := by
  obtain ⟨A, hA⟩ : ∃ A, e.cells = A := ⟨_, rfl⟩
  rw [hA]
  have hE : (dropE e 98).cells = (A.setIfInBounds 10 (.slice none 0 0)) := by rw [← hA]; rfl
  have hz : Hid ((A.setIfInBounds 10 (.slice none 0 0)).size = 23) := Lib.hid (by rw [← hE]; rfl)
  have hone : Hid ((A.setIfInBounds 10 (.slice none 0 0)).all (·.oneCell') = true) := Lib.hid (by rw [← hE]; exact FctE.one _)
  rw [hE]
  obtain ⟨v10, hv10⟩ : ∃ v, A[10]? = some v := ⟨_, by rw [← hA]; rfl⟩
  clear hE hA
  go_enter Tryz.func45, Tryz.ntmps45
  go_upto_region 1 with fail
  generalize hW : World.alloc (World.alloc w _) _ = W1
  have h0 : Hid (GW w A zeroFct W1) := Lib.hid (by rw [← hW]; exact GW.new w _ _)
  clear hW
  have d10 := (blk_cell h0.out.a 10).trans hv10
  have g10 := blk_free h0.out.a 10
  go_upto_region 35 with fail
  generalize hW2 : (World.setCell W1 _ _) = W2
  have h1 : Hid (GW w (A.setIfInBounds 10 (.slice none 0 0)) zeroFct W2) := Lib.hid (by rw [← hW2]; exact (h0.out).setA 10 (.slice none 0 0))
  clear hW2
  go_wp2_with (first
    | ((with_reducible refine at_fload _ rfl ?_); go_must (refine wpList_fct_load rfl _ rfl w.heap.size (by simp [Act.eval]) _ h1.out.a hz.out ?_))
    | ((with_reducible refine at_fstore _ _ rfl ?_); go_must (refine wpList_store_rowTo rfl 45 _ _ rfl rfl (w.heap.size + 1) _ (by rfl) (by rfl) 45 _ h1.out.z (by rw [fct_size, hz.out]) (by rw [hz.out]; rfl) hone.out ?_)))
  refine bodyPost_ret (without_results (h1.out.setZ _) hz.out (by rfl)) rfl ?_
  exact ⟨rfl, (h1.out.setZ _).b⟩
set_option maxRecDepth 100000 in
set_option maxHeartbeats 2000000 in
theorem without_76 (e : FctE) (w : World) :
    Calls Tryz.prog 45 #[.agg e.cells, .int .u8 76] w fun r w' => r = .returned (.agg (dropE e 76).cells) ∧ Below w.heap.size w w' := by
  obtain ⟨A, hA⟩ : ∃ A, e.cells = A := ⟨_, rfl⟩
  rw [hA]
  have hE : (dropE e 76).cells = ((((A.setIfInBounds 11 (.int .i64 0)).setIfInBounds 12 (.slice none 0 0)).setIfInBounds 13 (.int .i64 0)).setIfInBounds 14 (.int .i64 0)) := by rw [← hA]; rfl
  have hz : Hid (((((A.setIfInBounds 11 (.int .i64 0)).setIfInBounds 12 (.slice none 0 0)).setIfInBounds 13 (.int .i64 0)).setIfInBounds 14 (.int .i64 0)).size = 23) := Lib.hid (by rw [← hE]; rfl)
  have hone : Hid (((((A.setIfInBounds 11 (.int .i64 0)).setIfInBounds 12 (.slice none 0 0)).setIfInBounds 13 (.int .i64 0)).setIfInBounds 14 (.int .i64 0)).all (·.oneCell') = true) := Lib.hid (by rw [← hE]; exact FctE.one _)
  rw [hE]
  obtain ⟨v11, hv11⟩ : ∃ v, A[11]? = some v := ⟨_, by rw [← hA]; rfl⟩
  obtain ⟨v12, hv12⟩ : ∃ v, A[12]? = some v := ⟨_, by rw [← hA]; rfl⟩
  obtain ⟨v13, hv13⟩ : ∃ v, A[13]? = some v := ⟨_, by rw [← hA]; rfl⟩
  obtain ⟨v14, hv14⟩ : ∃ v, A[14]? = some v := ⟨_, by rw [← hA]; rfl⟩
  clear hE hA
  go_enter Tryz.func45, Tryz.ntmps45
  go_upto_region 1 with fail
  generalize hW : World.alloc (World.alloc w _) _ = W1
  have h0 : Hid (GW w A zeroFct W1) := Lib.hid (by rw [← hW]; exact GW.new w _ _)
  clear hW
  have d11 := (blk_cell h0.out.a 11).trans hv11
  have g11 := blk_free h0.out.a 11
  have d12 := (blk_cell h0.out.a 12).trans hv12
  have g12 := blk_free h0.out.a 12
  have d13 := (blk_cell h0.out.a 13).trans hv13
  have g13 := blk_free h0.out.a 13
  have d14 := (blk_cell h0.out.a 14).trans hv14
  have g14 := blk_free h0.out.a 14
  go_upto_region 35 with fail
  generalize hW2 : (World.setCell (World.setCell (World.setCell (World.setCell W1 _ _) _ _) _ _) _ _) = W2
  have h1 : Hid (GW w ((((A.setIfInBounds 11 (.int .i64 0)).setIfInBounds 12 (.slice none 0 0)).setIfInBounds 13 (.int .i64 0)).setIfInBounds 14 (.int .i64 0)) zeroFct W2) := Lib.hid (by rw [← hW2]; exact ((((h0.out).setA 11 (.int .i64 0)).setA 12 (.slice none 0 0)).setA 13 (.int .i64 0)).setA 14 (.int .i64 0))
  clear hW2
  go_wp2_with (first
    | ((with_reducible refine at_fload _ rfl ?_); go_must (refine wpList_fct_load rfl _ rfl w.heap.size (by simp [Act.eval]) _ h1.out.a hz.out ?_))
    | ((with_reducible refine at_fstore _ _ rfl ?_); go_must (refine wpList_store_rowTo rfl 45 _ _ rfl rfl (w.heap.size + 1) _ (by rfl) (by rfl) 45 _ h1.out.z (by rw [fct_size, hz.out]) (by rw [hz.out]; rfl) hone.out ?_)))
  refine bodyPost_ret (without_results (h1.out.setZ _) hz.out (by rfl)) rfl ?_
  exact ⟨rfl, (h1.out.setZ _).b⟩
set_option maxRecDepth 100000 in
set_option maxHeartbeats 2000000 in
theorem without_101 (e : FctE) (w : World) :
    Calls Tryz.prog 45 #[.agg e.cells, .int .u8 101] w fun r w' => r = .returned (.agg (dropE e 101).cells) ∧ Below w.heap.size w w' := by
  obtain ⟨A, hA⟩ : ∃ A, e.cells = A := ⟨_, rfl⟩
  rw [hA]
  have hE : (dropE e 101).cells = (A.setIfInBounds 15 (.int .i64 0)) := by rw [← hA]; rfl
  have hz : Hid ((A.setIfInBounds 15 (.int .i64 0)).size = 23) := Lib.hid (by rw [← hE]; rfl)
  have hone : Hid ((A.setIfInBounds 15 (.int .i64 0)).all (·.oneCell') = true) := Lib.hid (by rw [← hE]; exact FctE.one _)
  rw [hE]
  obtain ⟨v15, hv15⟩ : ∃ v, A[15]? = some v := ⟨_, by rw [← hA]; rfl⟩
  clear hE hA
  go_enter Tryz.func45, Tryz.ntmps45
  go_upto_region 1 with fail
  generalize hW : World.alloc (World.alloc w _) _ = W1
  have h0 : Hid (GW w A zeroFct W1) := Lib.hid (by rw [← hW]; exact GW.new w _ _)
  clear hW
  have d15 := (blk_cell h0.out.a 15).trans hv15
  have g15 := blk_free h0.out.a 15
  go_upto_region 35 with fail
  generalize hW2 : (World.setCell W1 _ _) = W2
  have h1 : Hid (GW w (A.setIfInBounds 15 (.int .i64 0)) zeroFct W2) := Lib.hid (by rw [← hW2]; exact (h0.out).setA 15 (.int .i64 0))
  clear hW2
  go_wp2_with (first
    | ((with_reducible refine at_fload _ rfl ?_); go_must (refine wpList_fct_load rfl _ rfl w.heap.size (by simp [Act.eval]) _ h1.out.a hz.out ?_))
    | ((with_reducible refine at_fstore _ _ rfl ?_); go_must (refine wpList_store_rowTo rfl 45 _ _ rfl rfl (w.heap.size + 1) _ (by rfl) (by rfl) 45 _ h1.out.z (by rw [fct_size, hz.out]) (by rw [hz.out]; rfl) hone.out ?_)))
  refine bodyPost_ret (without_results (h1.out.setZ _) hz.out (by rfl)) rfl ?_
  exact ⟨rfl, (h1.out.setZ _).b⟩
set_option maxRecDepth 100000 in
set_option maxHeartbeats 2000000 in
theorem without_107 (e : FctE) (w : World) :
    Calls Tryz.prog 45 #[.agg e.cells, .int .u8 107] w fun r w' => r = .returned (.agg (dropE e 107).cells) ∧ Below w.heap.size w w' := by
  obtain ⟨A, hA⟩ : ∃ A, e.cells = A := ⟨_, rfl⟩
  rw [hA]
  have hE : (dropE e 107).cells = (A.setIfInBounds 16 (.int .i64 0)) := by rw [← hA]; rfl
  have hz : Hid ((A.setIfInBounds 16 (.int .i64 0)).size = 23) := Lib.hid (by rw [← hE]; rfl)
  have hone : Hid ((A.setIfInBounds 16 (.int .i64 0)).all (·.oneCell') = true) := Lib.hid (by rw [← hE]; exact FctE.one _)
  rw [hE]
  obtain ⟨v16, hv16⟩ : ∃ v, A[16]? = some v := ⟨_, by rw [← hA]; rfl⟩
  clear hE hA
  go_enter Tryz.func45, Tryz.ntmps45
  go_upto_region 1 with fail
  generalize hW : World.alloc (World.alloc w _) _ = W1
  have h0 : Hid (GW w A zeroFct W1) := Lib.hid (by rw [← hW]; exact GW.new w _ _)
  clear hW
  have d16 := (blk_cell h0.out.a 16).trans hv16
  have g16 := blk_free h0.out.a 16
  go_upto_region 35 with fail
  generalize hW2 : (World.setCell W1 _ _) = W2
  have h1 : Hid (GW w (A.setIfInBounds 16 (.int .i64 0)) zeroFct W2) := Lib.hid (by rw [← hW2]; exact (h0.out).setA 16 (.int .i64 0))
  clear hW2
  go_wp2_with (first
    | ((with_reducible refine at_fload _ rfl ?_); go_must (refine wpList_fct_load rfl _ rfl w.heap.size (by simp [Act.eval]) _ h1.out.a hz.out ?_))
    | ((with_reducible refine at_fstore _ _ rfl ?_); go_must (refine wpList_store_rowTo rfl 45 _ _ rfl rfl (w.heap.size + 1) _ (by rfl) (by rfl) 45 _ h1.out.z (by rw [fct_size, hz.out]) (by rw [hz.out]; rfl) hone.out ?_)))
  refine bodyPost_ret (without_results (h1.out.setZ _) hz.out (by rfl)) rfl ?_
  exact ⟨rfl, (h1.out.setZ _).b⟩
set_option maxRecDepth 100000 in
set_option maxHeartbeats 2000000 in
theorem without_110 (e : FctE) (w : World) :
    Calls Tryz.prog 45 #[.agg e.cells, .int .u8 110] w fun r w' => r = .returned (.agg (dropE e 110).cells) ∧ Below w.heap.size w w' := by
  obtain ⟨A, hA⟩ : ∃ A, e.cells = A := ⟨_, rfl⟩
  rw [hA]
  have hE : (dropE e 110).cells = (A.setIfInBounds 17 (.int .i64 0)) := by rw [← hA]; rfl
  have hz : Hid ((A.setIfInBounds 17 (.int .i64 0)).size = 23) := Lib.hid (by rw [← hE]; rfl)
  have hone : Hid ((A.setIfInBounds 17 (.int .i64 0)).all (·.oneCell') = true) := Lib.hid (by rw [← hE]; exact FctE.one _)
  rw [hE]
  obtain ⟨v17, hv17⟩ : ∃ v, A[17]? = some v := ⟨_, by rw [← hA]; rfl⟩
  clear hE hA
  go_enter Tryz.func45, Tryz.ntmps45
  go_upto_region 1 with fail
  generalize hW : World.alloc (World.alloc w _) _ = W1
  have h0 : Hid (GW w A zeroFct W1) := Lib.hid (by rw [← hW]; exact GW.new w _ _)
  clear hW
  have d17 := (blk_cell h0.out.a 17).trans hv17
  have g17 := blk_free h0.out.a 17
  go_upto_region 35 with fail
  generalize hW2 : (World.setCell W1 _ _) = W2
  have h1 : Hid (GW w (A.setIfInBounds 17 (.int .i64 0)) zeroFct W2) := Lib.hid (by rw [← hW2]; exact (h0.out).setA 17 (.int .i64 0))
  clear hW2
  go_wp2_with (first
    | ((with_reducible refine at_fload _ rfl ?_); go_must (refine wpList_fct_load rfl _ rfl w.heap.size (by simp [Act.eval]) _ h1.out.a hz.out ?_))
    | ((with_reducible refine at_fstore _ _ rfl ?_); go_must (refine wpList_store_rowTo rfl 45 _ _ rfl rfl (w.heap.size + 1) _ (by rfl) (by rfl) 45 _ h1.out.z (by rw [fct_size, hz.out]) (by rw [hz.out]; rfl) hone.out ?_)))
  refine bodyPost_ret (without_results (h1.out.setZ _) hz.out (by rfl)) rfl ?_
  exact ⟨rfl, (h1.out.setZ _).b⟩
set_option maxRecDepth 100000 in
set_option maxHeartbeats 2000000 in
theorem without_120 (e : FctE) (w : World) :
    Calls Tryz.prog 45 #[.agg e.cells, .int .u8 120] w fun r w' => r = .returned (.agg (dropE e 120).cells) ∧ Below w.heap.size w w' := by
  obtain ⟨A, hA⟩ : ∃ A, e.cells = A := ⟨_, rfl⟩
  rw [hA]
  have hE : (dropE e 120).cells = (A.setIfInBounds 18 (.string .empty)) := by rw [← hA]; rfl
  have hz : Hid ((A.setIfInBounds 18 (.string .empty)).size = 23) := Lib.hid (by rw [← hE]; rfl)
  have hone : Hid ((A.setIfInBounds 18 (.string .empty)).all (·.oneCell') = true) := Lib.hid (by rw [← hE]; exact FctE.one _)
  rw [hE]
  obtain ⟨v18, hv18⟩ : ∃ v, A[18]? = some v := ⟨_, by rw [← hA]; rfl⟩
  clear hE hA
  go_enter Tryz.func45, Tryz.ntmps45
  go_upto_region 1 with fail
  generalize hW : World.alloc (World.alloc w _) _ = W1
  have h0 : Hid (GW w A zeroFct W1) := Lib.hid (by rw [← hW]; exact GW.new w _ _)
  clear hW
  have d18 := (blk_cell h0.out.a 18).trans hv18
  have g18 := blk_free h0.out.a 18
  go_upto_region 35 with fail
  generalize hW2 : (World.setCell W1 _ _) = W2
  have h1 : Hid (GW w (A.setIfInBounds 18 (.string .empty)) zeroFct W2) := Lib.hid (by rw [← hW2]; exact (h0.out).setA 18 (.string .empty))
  clear hW2
  go_wp2_with (first
    | ((with_reducible refine at_fload _ rfl ?_); go_must (refine wpList_fct_load rfl _ rfl w.heap.size (by simp [Act.eval]) _ h1.out.a hz.out ?_))
    | ((with_reducible refine at_fstore _ _ rfl ?_); go_must (refine wpList_store_rowTo rfl 45 _ _ rfl rfl (w.heap.size + 1) _ (by rfl) (by rfl) 45 _ h1.out.z (by rw [fct_size, hz.out]) (by rw [hz.out]; rfl) hone.out ?_)))
  refine bodyPost_ret (without_results (h1.out.setZ _) hz.out (by rfl)) rfl ?_
  exact ⟨rfl, (h1.out.setZ _).b⟩
set_option maxRecDepth 100000 in
set_option maxHeartbeats 2000000 in
theorem without_109 (e : FctE) (w : World) :
    Calls Tryz.prog 45 #[.agg e.cells, .int .u8 109] w fun r w' => r = .returned (.agg (dropE e 109).cells) ∧ Below w.heap.size w w' := by
  obtain ⟨A, hA⟩ : ∃ A, e.cells = A := ⟨_, rfl⟩
  rw [hA]
  have hE : (dropE e 109).cells = (A.setIfInBounds 19 (.string .empty)) := by rw [← hA]; rfl
  have hz : Hid ((A.setIfInBounds 19 (.string .empty)).size = 23) := Lib.hid (by rw [← hE]; rfl)
  have hone : Hid ((A.setIfInBounds 19 (.string .empty)).all (·.oneCell') = true) := Lib.hid (by rw [← hE]; exact FctE.one _)
  rw [hE]
  obtain ⟨v19, hv19⟩ : ∃ v, A[19]? = some v := ⟨_, by rw [← hA]; rfl⟩
  clear hE hA
  go_enter Tryz.func45, Tryz.ntmps45
  go_upto_region 1 with fail
  generalize hW : World.alloc (World.alloc w _) _ = W1
  have h0 : Hid (GW w A zeroFct W1) := Lib.hid (by rw [← hW]; exact GW.new w _ _)
  clear hW
  have d19 := (blk_cell h0.out.a 19).trans hv19
  have g19 := blk_free h0.out.a 19
  go_upto_region 35 with fail
  generalize hW2 : (World.setCell W1 _ _) = W2
  have h1 : Hid (GW w (A.setIfInBounds 19 (.string .empty)) zeroFct W2) := Lib.hid (by rw [← hW2]; exact (h0.out).setA 19 (.string .empty))
  clear hW2
  go_wp2_with (first
    | ((with_reducible refine at_fload _ rfl ?_); go_must (refine wpList_fct_load rfl _ rfl w.heap.size (by simp [Act.eval]) _ h1.out.a hz.out ?_))
    | ((with_reducible refine at_fstore _ _ rfl ?_); go_must (refine wpList_store_rowTo rfl 45 _ _ rfl rfl (w.heap.size + 1) _ (by rfl) (by rfl) 45 _ h1.out.z (by rw [fct_size, hz.out]) (by rw [hz.out]; rfl) hone.out ?_)))
  refine bodyPost_ret (without_results (h1.out.setZ _) hz.out (by rfl)) rfl ?_
  exact ⟨rfl, (h1.out.setZ _).b⟩
theorem without_any (e : FctE) (c : UInt8) (hc : c ∈ lawC) (w : World) :
    Calls Tryz.prog 45 #[.agg e.cells, .int .u8 c.toNat] w fun r w' => r = .returned (.agg (dropE e c).cells) ∧ Below w.heap.size w w' := by
  unfold lawC at hc
  simp only [List.mem_cons, List.not_mem_nil, or_false] at hc
  rcases hc with rfl | rfl | rfl | rfl | rfl | rfl | rfl | rfl | rfl | rfl | rfl | rfl | rfl | rfl
  · exact without_115 e w
  · exact without_108 e w
  · exact without_114 e w
  · exact without_97 e w
  · exact without_116 e w
  · exact without_117 e w
  · exact without_111 e w
  · exact without_98 e w
  · exact without_76 e w
  · exact without_101 e w
  · exact without_107 e w
  · exact without_110 e w
  · exact without_120 e w
  · exact without_109 e w
end Go.Proofs.YtgbihmafmmeicaaGreatDoor
namespace Go.Proofs.YtgbihmafmmeicaaGreatDoor
open Go.RowKit Mg Go.Shelf

theorem okI_0 : okI 0 := ⟨by omega, by omega⟩
theorem str0_le : str0.size ≤ maxLen := Nat.zero_le _
theorem dropE_ok {mem : Addr → Option Value} (e : FctE) (h : e.ok mem) (c : UInt8) (hc : c ∈ lawC) : (dropE e c).ok mem := by
  unfold lawC at hc
  simp only [List.mem_cons, List.not_mem_nil, or_false] at hc
  have F := h.fok
  have P := h.parts
  rcases hc with rfl | rfl | rfl | rfl | rfl | rfl | rfl | rfl | rfl | rfl | rfl | rfl | rfl | rfl
  · exact ⟨⟨F.i0, F.i1, F.i2, okI_0, F.s4, F.i5, F.i6, F.s7, F.s8, F.i11, F.i13, F.i14, F.i15, F.i16, F.i17, F.s18, F.s19, F.i20, F.i21, F.i22, F.bl⟩, ⟨P.1, P.2.1, P.2.2⟩⟩
  · exact ⟨⟨F.i0, F.i1, F.i2, F.i3, str0_le, F.i5, F.i6, F.s7, F.s8, F.i11, F.i13, F.i14, F.i15, F.i16, F.i17, F.s18, F.s19, F.i20, F.i21, F.i22, F.bl⟩, ⟨P.1, P.2.1, P.2.2⟩⟩
  · exact ⟨⟨F.i0, F.i1, F.i2, F.i3, F.s4, okI_0, F.i6, F.s7, F.s8, F.i11, F.i13, F.i14, F.i15, F.i16, F.i17, F.s18, F.s19, F.i20, F.i21, F.i22, F.bl⟩, ⟨P.1, P.2.1, P.2.2⟩⟩
  · exact ⟨⟨F.i0, F.i1, F.i2, F.i3, F.s4, F.i5, okI_0, F.s7, F.s8, F.i11, F.i13, F.i14, F.i15, F.i16, F.i17, F.s18, F.s19, F.i20, F.i21, F.i22, F.bl⟩, ⟨P.1, P.2.1, P.2.2⟩⟩
  · exact ⟨⟨F.i0, F.i1, F.i2, F.i3, F.s4, F.i5, F.i6, str0_le, F.s8, F.i11, F.i13, F.i14, F.i15, F.i16, F.i17, F.s18, F.s19, F.i20, F.i21, F.i22, F.bl⟩, ⟨P.1, P.2.1, P.2.2⟩⟩
  · exact ⟨⟨F.i0, F.i1, F.i2, F.i3, F.s4, F.i5, F.i6, F.s7, str0_le, F.i11, F.i13, F.i14, F.i15, F.i16, F.i17, F.s18, F.s19, F.i20, F.i21, F.i22, F.bl⟩, ⟨P.1, P.2.1, P.2.2⟩⟩
  · exact ⟨⟨F.i0, F.i1, F.i2, F.i3, F.s4, F.i5, F.i6, F.s7, F.s8, F.i11, F.i13, F.i14, F.i15, F.i16, F.i17, F.s18, F.s19, F.i20, F.i21, F.i22, F.bl⟩, ⟨StrsM.nil _, P.2.1, P.2.2⟩⟩
  · exact ⟨⟨F.i0, F.i1, F.i2, F.i3, F.s4, F.i5, F.i6, F.s7, F.s8, F.i11, F.i13, F.i14, F.i15, F.i16, F.i17, F.s18, F.s19, F.i20, F.i21, F.i22, (fun x hx => absurd hx List.not_mem_nil)⟩, ⟨P.1, BlksM.nil _, P.2.2⟩⟩
  · exact ⟨⟨F.i0, F.i1, F.i2, F.i3, F.s4, F.i5, F.i6, F.s7, F.s8, okI_0, okI_0, okI_0, F.i15, F.i16, F.i17, F.s18, F.s19, F.i20, F.i21, F.i22, F.bl⟩, ⟨P.1, P.2.1, IntsM.nil _⟩⟩
  · exact ⟨⟨F.i0, F.i1, F.i2, F.i3, F.s4, F.i5, F.i6, F.s7, F.s8, F.i11, F.i13, F.i14, okI_0, F.i16, F.i17, F.s18, F.s19, F.i20, F.i21, F.i22, F.bl⟩, ⟨P.1, P.2.1, P.2.2⟩⟩
  · exact ⟨⟨F.i0, F.i1, F.i2, F.i3, F.s4, F.i5, F.i6, F.s7, F.s8, F.i11, F.i13, F.i14, F.i15, okI_0, F.i17, F.s18, F.s19, F.i20, F.i21, F.i22, F.bl⟩, ⟨P.1, P.2.1, P.2.2⟩⟩
  · exact ⟨⟨F.i0, F.i1, F.i2, F.i3, F.s4, F.i5, F.i6, F.s7, F.s8, F.i11, F.i13, F.i14, F.i15, F.i16, okI_0, F.s18, F.s19, F.i20, F.i21, F.i22, F.bl⟩, ⟨P.1, P.2.1, P.2.2⟩⟩
  · exact ⟨⟨F.i0, F.i1, F.i2, F.i3, F.s4, F.i5, F.i6, F.s7, F.s8, F.i11, F.i13, F.i14, F.i15, F.i16, F.i17, str0_le, F.s19, F.i20, F.i21, F.i22, F.bl⟩, ⟨P.1, P.2.1, P.2.2⟩⟩
  · exact ⟨⟨F.i0, F.i1, F.i2, F.i3, F.s4, F.i5, F.i6, F.s7, F.s8, F.i11, F.i13, F.i14, F.i15, F.i16, F.i17, F.s18, str0_le, F.i20, F.i21, F.i22, F.bl⟩, ⟨P.1, P.2.1, P.2.2⟩⟩
def dropL (e : FctE) (l : List UInt8) : FctE := l.foldl dropE e
theorem dropL_ok {mem : Addr → Option Value} (l : List UInt8) : ∀ (e : FctE), e.ok mem → (∀ c ∈ l, c ∈ lawC) → (dropL e l).ok mem := by
  induction l with
  | nil => exact fun e h _ => h
  | cons a l ih => exact fun e h hl => ih _ (dropE_ok e h a (hl a (by simp))) (fun c hc => hl c (by simp [hc]))
theorem dropL_step (e : FctE) {l : List UInt8} {k : Nat} (hk : k < l.length) : dropL e (l.take (k + 1)) = dropE (dropL e (l.take k)) l[k] := by
  unfold dropL
  rw [List.take_succ_eq_append_getElem hk, List.foldl_append]
  rfl
theorem fieldsB_law {k : Int} (hk : k = 1 ∨ k = 2 ∨ k = 3 ∨ k = 4 ∨ k = 5 ∨ k = 6 ∨ k = 7 ∨ k = 10) : (∀ c ∈ (fieldsB k).data.toList, c ∈ lawC) ∧ (fieldsB k).data.toList ≠ [] ∧ (fieldsB k).size ≤ 9 := by
  rcases hk with rfl | rfl | rfl | rfl | rfl | rfl | rfl | rfl <;> exact ⟨by decide, by decide, by decide⟩
theorem dropL_bare (e : FctE) (ht : Tidy e.f) : (dropL e (fieldsB e.f.kind).data.toList).f = bare e.f := by
  obtain ⟨f, ta, tc, ba, bc, aa, ac⟩ := e
  obtain ⟨hk, hu⟩ := ht
  obtain ⟨x0, x1, x2, x3, x4, x5, x6, x7, x8, x9, x10, ⟨y1, y2, y3, y4⟩, x12, x13, x14, x15, x16, x17, x18, x19⟩ := f
  dsimp only at hk hu ⊢
  rcases hk with rfl | rfl | rfl | rfl | rfl | rfl | rfl | rfl
  all_goals
    simp [usedF, bare, lab0] at hu
    simp [fieldsB, dropL, dropE, bare, lab0, hu]
theorem rightF_all (f : Fct) (ht : Tidy f) : (fieldsB f.kind).data.toList.all (rightF f) = fieldsOK f := by
  rcases ht.kind with h | h | h | h | h | h | h | h
  all_goals
    rw [h]
    simp [fieldsB, rightF, fieldsOK, storyOK, reviseOK, correctOK, h, Bool.and_assoc]
end Go.Proofs.YtgbihmafmmeicaaGreatDoor
namespace Go.Proofs.YtgbihmafmmeicaaGreatDoor
open Go.RowKit Mg Go.Shelf

theorem built3 (a b c : Int) : Tryz.prog.built 45 [(0, .int .i64 a), (1, .int .i64 b), (2, .int .i64 c)] = some #[.int .i64 a, .int .i64 b, .int .i64 c, .int .i64 0, .string .empty, .int .i64 0, .int .i64 0, .string .empty, .string .empty, .slice none 0 0, .slice none 0 0, .int .i64 0, .slice none 0 0, .int .i64 0, .int .i64 0, .int .i64 0, .int .i64 0, .int .i64 0, .string .empty, .string .empty, .int .i64 0, .int .i64 0, .int .i64 0] := by kernel_rfl
def bareE (f : Fct) : FctE := ⟨bare f, none, 0, none, 0, none, 0⟩
theorem bareE_ok {mem : Addr → Option Value} {f : Fct} (h : FOK f) : (bareE f).ok mem :=
  ⟨⟨h.i0, h.i1, h.i2, okI_0, str0_le, okI_0, okI_0, str0_le, str0_le, okI_0, okI_0, okI_0, okI_0, okI_0, okI_0, str0_le, str0_le, okI_0, okI_0, okI_0, fun _ hx => absurd hx List.not_mem_nil⟩, StrsM.nil _, BlksM.nil _, IntsM.nil _⟩
section
variable {ops : Array Oper} {rest : List Oper} {o : Oper} {a : Act} {w : World} {Q : Exit → Act → World → Prop}
theorem wpList_fct_build3 (hg : o.guard = none) (parts : Array (Nat × Operand)) (ho : o.op = .build 45 parts) (f : Fct)
    (hf : (parts.map fun (i, x) => (i, a.eval x)).toList = [(0, .int .i64 f.n), (1, .int .i64 f.time), (2, .int .i64 f.kind)])
    (h : wpList Tryz.prog ops Q rest (a.put o.dst (.agg (bareE f).cells)) w) : wpList Tryz.prog ops Q (o :: rest) a w :=
  wpList_buildTo hg 45 parts ho o.dst rfl _ (by rw [hf]; exact built3 f.n f.time f.kind) h
end
set_option maxRecDepth 100000 in
set_option maxHeartbeats 4000000 in
theorem valid5_any {mem : Addr → Option Value} (e : FctE) (h : e.ok mem) (ht : Tidy e.f) (w : World) (hs : Sees mem w) :
    Calls Tryz.prog 25 #[.agg e.cells] w fun r w' => r = .returned (.bool (validF e.f)) ∧ Below w.heap.size w w' := by
  have HT := Lib.hid ht
  have c1 := Lib.hid (fun W => fields_any e.f.kind ht.kind W)
  obtain ⟨hlaw, hne, hsz⟩ := fieldsB_law ht.kind
  have HD := Lib.hid (dropL_bare e ht)
  have HA := Lib.hid (rightF_all e.f ht)
  have HR : Hid (validF e.f = (inR e.f.n 0 500 && inR e.f.time 0 1000000000 && fieldsOK e.f)) := Lib.hid (by unfold validF; rw [decide_eq_true ht.used, Bool.and_true])
  have q1 := lang_f _ hne
  generalize fieldsB e.f.kind = s at *
  clear hne
  have HW := Lib.hid hlaw
  have HL := Lib.hid (size_list s)
  have HG := Lib.hid (fun j hj => get_list s j hj)
  have HOK := Lib.hid h
  have HS := Lib.hid hs
  have HB := Lib.hid ((Below.refl w.heap.size w).alloc (Nat.le_refl _) (.cells e.cells 45))
  have HN := Lib.hid (World.alloc_heap_new w (.cells e.cells 45))
  have hk5 : e.cells[2]? = some (.int .i64 e.f.kind) := rfl
  have hk0 : e.cells[0]? = some (.int .i64 e.f.n) := rfl
  have hk1 : e.cells[1]? = some (.int .i64 e.f.time) := rfl
  have H5 := Lib.hid (And.intro hk0 (And.intro hk1 hk5))
  clear ht hlaw h hs hk5 hk0 hk1
  go_enter Tryz.func25, Tryz.ntmps25
  go_upto_region 1 with fail
  generalize hW1 : World.alloc w _ = W1 at *
  clear hW1
  have d2 := (blk_cell HN.out 2).trans H5.out.2.2
  go_wp2_with fail
  refine (c1.out _).mono ?_
  rintro r w' ⟨rfl, rfl⟩
  clear d2
  have d0 := (blk_cell HN.out 0).trans H5.out.1
  have d1 := (blk_cell HN.out 1).trans H5.out.2.1
  obtain ⟨n, hn⟩ : ∃ n, e.f.n = n := ⟨_, rfl⟩
  obtain ⟨tm, htm⟩ : ∃ n, e.f.time = n := ⟨_, rfl⟩
  rw [hn] at d0 HR
  rw [htm] at d1 HR
  have HX := Lib.hid (And.intro hn htm)
  clear hn htm
  by_cases k1 : n < 0
  · have HV : Hid (validF e.f = false) := Lib.hid (by rw [HR.out]; unfold inR; rw [decide_eq_false (by omega : ¬ 0 ≤ n)]; rfl)
    go_wp2_with fail
    go_ret
    exact ⟨by rw [HV.out]; rfl, HB.out⟩
  by_cases k2 : 500 < n
  · have HV : Hid (validF e.f = false) := Lib.hid (by rw [HR.out]; unfold inR; rw [decide_eq_false (by omega : ¬ n ≤ 500), Bool.and_false]; rfl)
    go_wp2_with fail
    go_ret
    exact ⟨by rw [HV.out]; rfl, HB.out⟩
  by_cases k3 : tm < 0
  · have HV : Hid (validF e.f = false) := Lib.hid (by rw [HR.out]; unfold inR; rw [decide_eq_false (by omega : ¬ 0 ≤ tm), Bool.false_and, Bool.and_false]; rfl)
    go_wp2_with fail
    go_ret
    exact ⟨by rw [HV.out]; rfl, HB.out⟩
  by_cases k4 : 1000000000 < tm
  · have HV : Hid (validF e.f = false) := Lib.hid (by rw [HR.out]; unfold inR; rw [decide_eq_false (by omega : ¬ tm ≤ 1000000000), Bool.and_false, Bool.and_false]; rfl)
    go_wp2_with fail
    go_ret
    exact ⟨by rw [HV.out]; rfl, HB.out⟩
  have HV : Hid (validF e.f = s.data.toList.all (rightF e.f)) := Lib.hid (by rw [HR.out, HA.out]; unfold inR; rw [decide_eq_true (by omega : 0 ≤ n), decide_eq_true (by omega : n ≤ 500), decide_eq_true (by omega : 0 ≤ tm), decide_eq_true (by omega : tm ≤ 1000000000)]; rfl)
  go_upto_region 4 with fail
  clear d0 d1 k1 k2 k3 k4 q1 HR HA
  have HB2 := Lib.hid (HB.out.alloc HB.out.size (.cells e.cells 45))
  have HZ := Lib.hid (World.alloc_heap_new W1 (.cells e.cells 45))
  have HN2 := Lib.hid ((Below.heap_alloc W1 (.cells e.cells 45) w.heap.size (hlt HN.out)).trans HN.out)
  have HLT := Lib.hid (hlt HN.out)
  go_upto_region 5 with (first
    | ((with_reducible refine at_fstore _ _ rfl ?_); go_must (refine wpList_fct_new rfl _ _ rfl rfl _ _ _ (by rfl) (by rfl) (by rfl) (FctE.size e) (FctE.one e) ?_))
    | ((with_reducible refine at_fload _ rfl ?_); go_must (refine wpList_fct_load rfl _ rfl w.heap.size (by rfl) _ HN.out (FctE.size e) ?_)))
  clear HN HB c1
  generalize hW2 : World.alloc W1 _ = W2 at *
  clear hW2
  generalize W1.heap.size = B at *
  have hsl : (s.size : Int) ≤ 9 := by omega
  go_wp2_with fail
  go_loopw [5] (fun i wr => ∃ k : Nat, k ≤ s.size ∧ i = .int .i64 k ∧ Hid ((s.data.toList.take k).all (rightF e.f) = true) ∧ Hid (Below w.heap.size w wr ∧ wr.heap[w.heap.size]? = some (.cells e.cells 45 (0, 0)) ∧ wr.heap[B]? = some (.cells (dropL e (s.data.toList.take k)).cells 45 (0, 0)))) (fun i _ => s.size - (intOf i).toNat)
  case atStart => exact ⟨0, Nat.zero_le _, rfl, Lib.hid rfl, Lib.hid ⟨HB2.out, HN2.out, HZ.out⟩⟩
  case round =>
    obtain ⟨k, hk, rfl, hu, HI⟩ := hrel
    obtain ⟨wo, rfl⟩ : ∃ wo, wo = wr := ⟨_, rfl⟩
    by_cases hlt5 : k < s.size
    · have hk2 : k < s.data.toList.length := by rw [HL.out]; exact hlt5
      have hgl := HG.out k hlt5
      have hmem : s[k] ∈ lawC := HW.out _ (by rw [← hgl]; exact List.getElem_mem _)
      have cr := Lib.hid (fun W hW => right_any e HOK.out s[k] hmem W hW)
      have cw := Lib.hid (fun W => without_any (dropL e (s.data.toList.take k)) s[k] hmem W)
      have HX2 : Hid (dropL e (s.data.toList.take (k + 1)) = dropE (dropL e (s.data.toList.take k)) s[k]) := Lib.hid (by rw [dropL_step e hk2, hgl])
      obtain ⟨g1, g2⟩ := bytes_step s k hlt5 hu.out
      have G1 := Lib.hid g1
      have G2 := Lib.hid g2
      have hki : (k : Int) < s.size := by omega
      clear g1 g2 hu hgl
      generalize dropL e (s.data.toList.take k) = E at *
      have HSd : Hid (wo.drew.heap[w.heap.size]? = some (.cells e.cells 45 (0, 0))) := Lib.hid HI.out.2.1
      generalize hq : rightF e.f s[k] = q at *
      go_upto_region 8 with fail
      refine wp_mix [mT, mT, mT, mT, mF, mF] 1000 (fun W2 => W2.heap[w.heap.size]? = some (.cells e.cells 45 (0, 0))) (by kernel_rfl) (by kernel_rfl) HSd.out ?_
      refine wpMix_take (.agg e.cells) (fun _ _ _ _ h => h) HSd.out (by rfl) (fun W2 hW => exec_fct_load _ rfl (by rfl) hW (FctE.size e)) ?_
      simp only [Act.put, List.setIfInBounds_toArray, List.set_cons_zero, List.set_cons_succ]
      refine wpMix_take (.string s) (fun _ _ _ _ h => h) HSd.out (by rfl) (fun W2 hW => by go_simp) ?_
      simp only [Act.put, List.setIfInBounds_toArray, List.set_cons_zero, List.set_cons_succ]
      refine wpMix_take (.int .i64 k) (fun _ _ _ _ h => h) HSd.out (by rfl) (fun W2 hW => by go_simp) ?_
      simp only [Act.put, List.setIfInBounds_toArray, List.set_cons_zero, List.set_cons_succ]
      refine wpMix_take (.int .u8 (s[k].toNat : Nat)) (fun _ _ _ _ h => h) HSd.out (by rfl) (fun W2 hW => by go_simp) ?_
      simp only [Act.put, List.setIfInBounds_toArray, List.set_cons_zero, List.set_cons_succ]
      refine wpMix_step (fun K hK => ?_)
      go_simp
      refine (cr.out _ (HS.out.bel HI.out.1.drew)).mono ?_
      rintro r w3 ⟨rfl, hb⟩
      have HI3 : Hid (Below w.heap.size w w3 ∧ w3.heap[w.heap.size]? = some (.cells e.cells 45 (0, 0)) ∧ w3.heap[B]? = some (.cells E.cells 45 (0, 0))) := Lib.hid ⟨HI.out.1.drew.trans (hb.mono HI.out.1.drew.size), (hb.block _ (hlt HI.out.2.1)).trans HI.out.2.1, (hb.block _ (hlt HI.out.2.2)).trans HI.out.2.2⟩
      clear hb cr
      dsimp only
      refine hK _ _ HI3.out.2.1 ?_
      clear hK K
      refine wpMix_step (fun K hK => ?_); go_simp; refine hK _ _ HI3.out.2.1 ?_; clear hK K
      refine wpMix_nil ?_
      cases q with
      | false =>
        have HF := Lib.hid (HV.out.trans (G2.out rfl))
        go_wp2_with fail
        go_ret
        exact ⟨by rw [HF.out]; rfl, HI3.out.1⟩
      | true =>
        have HU := Lib.hid (G1.out rfl)
        have HSz : Hid (w3.drew.heap[B]? = some (.cells E.cells 45 (0, 0))) := Lib.hid HI3.out.2.2
        go_upto_region 11 with fail
        refine wp_mix [mT, mT, mT, mT, mF, mL] 5 (fun W2 => W2.heap[B]? = some (.cells E.cells 45 (0, 0))) (by kernel_rfl) (by kernel_rfl) HSz.out ?_
        refine wpMix_take (.agg E.cells) (fun _ _ _ _ h => h) HSz.out (by rfl) (fun W2 hW => exec_fct_load _ rfl (by rfl) hW (FctE.size E)) ?_
        simp only [Act.put, List.setIfInBounds_toArray, List.set_cons_zero, List.set_cons_succ]
        refine wpMix_take (.string s) (fun _ _ _ _ h => h) HSz.out (by rfl) (fun W2 hW => by go_simp) ?_
        simp only [Act.put, List.setIfInBounds_toArray, List.set_cons_zero, List.set_cons_succ]
        refine wpMix_take (.int .i64 k) (fun _ _ _ _ h => h) HSz.out (by rfl) (fun W2 hW => by go_simp) ?_
        simp only [Act.put, List.setIfInBounds_toArray, List.set_cons_zero, List.set_cons_succ]
        refine wpMix_take (.int .u8 (s[k].toNat : Nat)) (fun _ _ _ _ h => h) HSz.out (by rfl) (fun W2 hW => by go_simp) ?_
        simp only [Act.put, List.setIfInBounds_toArray, List.set_cons_zero, List.set_cons_succ]
        refine wpMix_step (fun K hK => ?_)
        go_simp
        refine (cw.out _).mono ?_
        rintro r w4 ⟨rfl, hb⟩
        have HI4 : Hid (Below w.heap.size w w4 ∧ w4.heap[w.heap.size]? = some (.cells e.cells 45 (0, 0)) ∧ w4.heap[B]? = some (.cells E.cells 45 (0, 0))) := Lib.hid ⟨HI3.out.1.drew.trans (hb.mono HI3.out.1.drew.size), (hb.block _ (hlt HI3.out.2.1)).trans HI3.out.2.1, (hb.block _ (hlt HI3.out.2.2)).trans HI3.out.2.2⟩
        clear hb cw
        dsimp only
        refine hK _ _ HI4.out.2.2 ?_
        clear hK K
        refine wpMix_last (fun K hK => ?_)
        refine wp_fct_store _ _ rfl (by rfl) (by rfl) HI4.out.2.2 (FctE.size E) (FctE.size _) (FctE.one _) ?_
        refine hK _ _ ?_
        clear hK K
        have HI5 : Hid (Below w.heap.size w (w4.setRow B (dropE E s[k]).cells) ∧ (w4.setRow B (dropE E s[k]).cells).heap[w.heap.size]? = some (.cells e.cells 45 (0, 0)) ∧ (w4.setRow B (dropE E s[k]).cells).heap[B]? = some (.cells (dropL e (s.data.toList.take (k + 1))).cells 45 (0, 0))) := Lib.hid ⟨below_setRow HI4.out.1 (Nat.le_of_lt HLT.out) _, (setRow_other _ _ _ _ (by have := HLT.out; omega)).trans HI4.out.2.1, by rw [HX2.out]; exact setRow_heap _ _ _ _ _ _ HI4.out.2.2⟩
        simp only [Act.put]
        refine wpMix_nil ?_
        generalize w4.setRow B _ = w5 at *
        go_wp2_with fail
        go_roundw
        case rel => exact ⟨k + 1, by omega, by go_num, HU, HI5⟩
        case measure => simp [intOf]; omega
    · obtain rfl : k = s.size := by omega
      have HE : Hid (dropL e (s.data.toList.take s.size) = dropL e s.data.toList) := Lib.hid (by rw [← HL.out, List.take_length])
      have HF : Hid (validF e.f = true) := Lib.hid (by have h := hu.out; rw [← HL.out, List.take_length] at h; rw [HV.out, h])
      have HEk : Hid ((dropL e s.data.toList).ok mem) := Lib.hid (dropL_ok _ e HOK.out HW.out)
      have cs := Lib.hid (fun W hW => rsame_any (dropL e s.data.toList) (bareE e.f) HEk.out (bareE_ok HOK.out.fok) HD.out W hW)
      have HI6 : Hid (Below w.heap.size w wo ∧ wo.heap[w.heap.size]? = some (.cells e.cells 45 (0, 0)) ∧ wo.heap[B]? = some (.cells (dropL e s.data.toList).cells 45 (0, 0))) := Lib.hid (by have h := HI.out; rw [HE.out] at h; exact h)
      clear hu HI
      generalize dropL e s.data.toList = E at *
      go_upto_region 12 with fail
      have d0 := (blk_cell HI6.out.2.1 0).trans H5.out.1
      have d1 := (blk_cell HI6.out.2.1 1).trans H5.out.2.1
      have d2 := (blk_cell HI6.out.2.1 2).trans H5.out.2.2
      go_wp2_with (first
        | ((with_reducible refine at_fload _ rfl ?_); go_must (refine wpList_fct_load rfl _ rfl B (by rfl) _ HI6.out.2.2 (FctE.size E) ?_))
        | ((with_reducible refine at_fbuild _ rfl ?_); go_must (refine wpList_fct_build3 rfl _ rfl e.f (by simp [Act.eval]) ?_)))
      refine (cs.out _ (HS.out.bel HI6.out.1)).mono ?_
      rintro r w6 ⟨rfl, hb⟩
      have HB6 := Lib.hid (HI6.out.1.trans (hb.mono HI6.out.1.size))
      clear hb
      go_wp2_with fail
      go_ret
      exact ⟨by rw [HF.out]; rfl, HB6.out⟩
end Go.Proofs.YtgbihmafmmeicaaGreatDoor
namespace Go.Proofs.YtgbihmafmmeicaaGreatDoor
open Go.RowKit Mg Go.Shelf

structure ListC (mem : Addr → Option Value) (W0 : World) (v : Value) (ys : List FctE) (wr : World) : Prop where
  bel : Below W0.heap.size W0 wr
  row : FRow wr W0.heap.size v ys
  ok : ∀ e ∈ ys, e.ok mem
section
variable {mem : Addr → Option Value} {W0 wr w' : World} {v : Value} {ys : List FctE}
theorem ListC.start : ListC mem W0 (.slice none 0 0) [] W0 := ⟨Below.refl _ _, FRow.nil _ _, fun e he => by cases he⟩
theorem ListC.below (h : ListC mem W0 v ys wr) (hb : Below wr.heap.size wr w') : ListC mem W0 v ys w' :=
  ⟨h.bel.trans (hb.mono h.bel.size), h.row.same fun k hk => hb.block k (h.row.ge k hk).2, h.ok⟩
theorem ListC.app {v' : Value} {y : FctE} {ob : Obj} (h : ListC mem W0 v ys wr) (hy : y.ok mem) (hr : FRow w' W0.heap.size v' (ys ++ [y])) (hg : (wr.alloc ob).grownBy w' v.ownBlock) : ListC mem W0 v' (ys ++ [y]) w' := by
  have hge := h.row.ge
  have hu : Upd (fun b => v.ownBlock = some b) wr w' := ((Upd.refl _ wr).alloc ob).grown hg (fun b e => .inl e)
  refine ⟨h.bel.trans (hu.below (fun k e => (hge k e).1) h.bel.size), hr, fun e he => ?_⟩
  rcases List.mem_append.1 he with he | he
  · exact h.ok e he
  · obtain rfl : e = y := by simpa using he
    exact hy
theorem ListC.es (h : ListC mem W0 v ys wr) (hs : Sees mem wr) : EsM (fun a => wr.cell? a) v ys := h.row.es (fun y hy => (h.ok y hy).mono hs)
end
set_option maxRecDepth 100000 in
set_option maxHeartbeats 4000000 in
theorem clean_any {mem : Addr → Option Value} (v : Value) (es : List FctE) (h : EsM mem v es) (ht : ∀ e ∈ es, Tidy e.f) (hlen : es.length ≤ 1000) (w : World) (hs : Sees mem w) :
    Calls Tryz.prog 11 #[v] w fun e w' => ∃ v, e = .returned v ∧ ListC mem w v (goodE es) w' := by
  obtain ⟨a1, c1, b1, o1, rfl, hm1, ha1, he1⟩ := h.open_
  have hl1 : (es.length : Int) ≤ 1000 := by omega
  have HS := Lib.hid hs
  have HA1 := Lib.hid ha1
  have HE1 := Lib.hid he1
  have HT := Lib.hid ht
  clear hs ha1 he1 h hm1 ht
  go_enter Tryz.func11, Tryz.ntmps11
  go_wp2_with fail
  go_loopw [3, 4] (fun v i wr => ∃ k : Nat, k ≤ es.length ∧ i = .int .i64 k ∧ ListC mem w v (goodE (es.take k)) wr) (fun _ i _ => es.length - (intOf i).toNat)
  case atStart => exact ⟨0, Nat.zero_le _, rfl, ListC.start⟩
  case round =>
    obtain ⟨k, hk, rfl, hI⟩ := hrel
    obtain ⟨wo, rfl⟩ : ∃ wo, wo = wr := ⟨_, rfl⟩
    obtain ⟨va, vn, vc, rfl⟩ := hI.row.sl
    have HI := Lib.hid hI
    clear hI
    by_cases hlt : k < es.length
    · obtain rfl := HA1.out (by omega)
      obtain ⟨hok, hat0⟩ := HE1.out k hlt
      have hsw := HS.out.bel HI.out.bel
      have HAT : Hid (es[k].at (fun p => wo.cell? p) b1 (o1 + k * 23)) := Lib.hid (fun j u hj => hsw _ _ (hat0 j u hj))
      have HC := Lib.hid (valid5_any es[k] hok (HT.out _ (List.getElem_mem hlt)) wo hsw)
      have HY := Lib.hid (fun hv => goodE_yes hlt hv)
      have HN := Lib.hid (fun hv => goodE_no hlt hv)
      have HOK := Lib.hid hok
      have hyl : Hid ((goodE (es.take k)).length ≤ 1000) := Lib.hid (by
        have h := List.length_filter_le (fun e : FctE => validF e.f) (es.take k)
        rw [List.length_take] at h
        unfold goodE
        omega)
      clear hok hat0 hsw
      generalize goodE (es.take k) = ys at *
      generalize hx : es[k] = x at *
      clear hx
      generalize validF x.f = q at *
      go_wp2_with ((with_reducible refine at_fload _ rfl ?_); go_must (refine wpList_fct_mid rfl _ rfl (by simp [Act.eval]) HAT.out ?_))
      refine HC.out.mono ?_
      rintro e w3 ⟨rfl, hb⟩
      have HI3 := Lib.hid (HI.out.below hb)
      have HAT3 : Hid (x.at (fun p => w3.cell? p) b1 (o1 + k * 23)) := Lib.hid (fun j u hj => sees_bel hb _ _ (HAT.out j u hj))
      clear hb
      cases q with
      | false =>
        have HG := Lib.hid (HN.out rfl)
        go_wp2_with fail
        go_roundw
        case rel => exact ⟨k + 1, by omega, by go_num, by rw [HG.out]; exact HI3.out⟩
        case measure => simp [intOf]; omega
      | true =>
        have HG := Lib.hid (HY.out rfl)
        go_wp2_with (first
          | ((with_reducible refine at_fload _ rfl ?_); go_must (refine wpList_fct_mid rfl _ rfl (by simp [Act.eval]) HAT3.out ?_))
          | ((with_reducible refine at_fslice _ rfl ?_); go_must (refine wpList_fct_slice rfl _ rfl x (by first | (simp [Act.eval]; done) | simp [Act.eval, Act.put]) ?_))
          | (at_builtin
             go_must (refine wpList_app_fct rfl _ _ rfl w.heap.size _ ys rfl (HI3.out.row.same fun k hk => Below.heap_alloc _ _ _ (HI3.out.row.ge k hk).2) x w3.heap.size 1 rfl (World.alloc_heap_new _ _) (by have := hyl.out; omega) (by have := HI3.out.bel.size; simp; omega) ?_)
             intro v2 w2 h2 hg2 hn2
             have H2 := Lib.hid (HI3.out.app HOK.out h2 hg2)
             clear h2 hg2 hn2))
        go_roundw
        case rel => exact ⟨k + 1, by omega, by go_num, by rw [HG.out]; exact H2.out⟩
        case measure => simp [intOf]; omega
    · obtain rfl : k = es.length := by omega
      have HP : Hid (ListC mem w (.slice va vn vc) (goodE es) wo) := Lib.hid (by have h := HI.out; rwa [List.take_length] at h)
      clear HI
      go_wp2_with fail
      go_ret
      exact ⟨_, rfl, HP.out⟩
end Go.Proofs.YtgbihmafmmeicaaGreatDoor
namespace Go.Proofs.YtgbihmafmmeicaaGreatDoor
open Go.RowKit Mg Go.Shelf

def apF (s e : Int) : Fct := { fct0 with kind := 2, story := s, editor := e }
def pbF (s : Int) : Fct := { fct0 with kind := 3, story := s }
noncomputable def made25 : Array Value := madeCells zeroF.cells (25 * 23)
structure ListA (W0 : World) (v : Value) (ys : List FctE) (wr : World) : Prop where
  bel : Below W0.heap.size W0 wr
  row : FRow wr W0.heap.size v ys
  ok : ∀ e ∈ ys, e.ok (fun a => W0.cell? a)
theorem ListA.below {W0 wr w' : World} {v : Value} {ys : List FctE} (h : ListA W0 v ys wr) (hb : Below wr.heap.size wr w') : ListA W0 v ys w' :=
  ⟨h.bel.trans (hb.mono h.bel.size), h.row.same fun k hk => hb.block k (h.row.ge k hk).2, h.ok⟩
theorem ListA.es {W0 wr : World} {v : Value} {ys : List FctE} (h : ListA W0 v ys wr) : EsM (fun a => wr.cell? a) v ys := h.row.es (fun y hy => (h.ok y hy).mono (sees_bel h.bel))
theorem ListA.grow {W0 wr w1 w' : World} {v v' : Value} {ys fs : List FctE} (h : ListA W0 v ys wr) (hb : Below wr.heap.size wr w1) (hf : ∀ e ∈ fs, e.ok (fun a => W0.cell? a)) (hr : FRow w' W0.heap.size v' (ys ++ fs)) (hg : w1.grownBy w' v.ownBlock) : ListA W0 v' (ys ++ fs) w' := by
  have hge := h.row.ge
  have h1 := h.below hb
  have hu : Upd (fun b => v.ownBlock = some b) w1 w' := (Upd.refl _ w1).grown hg (fun b e => .inl e)
  refine ⟨h1.bel.trans (hu.below (fun k e => (hge k e).1) h1.bel.size), hr, fun e he => ?_⟩
  rcases List.mem_append.1 he with he | he
  · exact h.ok e he
  · exact hf e he
end Go.Proofs.YtgbihmafmmeicaaGreatDoor
namespace Go.Proofs.YtgbihmafmmeicaaGreatDoor
open Go.RowKit Mg Go.Shelf

theorem irow_app {W0 wr w' : World} {v v' : Value} {l l' : List Int} {ob : Obj} (h : IRow wr W0.heap.size v l) (hb : Below W0.heap.size W0 wr) (hr : IRow w' W0.heap.size v' l') (hg : (wr.alloc ob).grownBy w' v.ownBlock) : IRow w' W0.heap.size v' l' ∧ Below W0.heap.size W0 w' := by
  have hu : Upd (fun b => v.ownBlock = some b) wr w' := ((Upd.refl _ wr).alloc ob).grown hg (fun b e => .inl e)
  exact ⟨hr, hb.trans (hu.below (fun k e => h.ge k e) hb.size)⟩
end Go.Proofs.YtgbihmafmmeicaaGreatDoor
namespace Go.Proofs.YtgbihmafmmeicaaGreatDoor
open Go.RowKit Mg Go.Shelf

set_option maxRecDepth 100000 in
set_option maxHeartbeats 4000000 in
theorem refOut_any {mem : Addr → Option Value} (v : Value) (es : List FctE) (h : EsM mem v es) (ht : ∀ e ∈ es, Tidy e.f) (hlen : es.length ≤ 1000) (cls now : Int) (w : World) (hs : Sees mem w) :
    Calls Tryz.prog 35 #[v, .int .i64 cls, .int .i64 now] w (OutPost (digF ((es.map FctE.f).filter validF)) cls now w) := by
  have c1 := Lib.hid (clean_any v es h ht hlen w hs)
  have hsl : ∃ ao n cap, v = .slice ao n cap := by
    obtain ⟨_, _, ⟨_, ao, cap, rfl, _⟩, _⟩ := h
    exact ⟨_, _, _, rfl⟩
  obtain ⟨v1, v2, v3, rfl⟩ := hsl
  have HS := Lib.hid hs
  have HGM := Lib.hid (goodE_map es)
  clear h ht hlen hs
  go_enter Tryz.func35, Tryz.ntmps35
  go_wp2_with fail
  refine c1.out.mono ?_
  rintro e W1 ⟨cv, rfl, hC⟩
  have hF := (hC.es (HS.out.bel hC.bel)).facts
  rw [HGM.out] at hF
  have HB1 := Lib.hid hC.bel
  obtain ⟨ca, cc, rfl⟩ := hC.row.shape
  generalize (goodE es).length = n at *
  generalize ((es.map FctE.f).filter validF) = D at *
  have HF := Lib.hid hF
  have hDN : ∃ d, d = digF D := ⟨_, rfl⟩
  obtain ⟨d, hd⟩ := hDN
  have HD := Lib.hid hd
  rw [← hd]
  clear hC hF c1 HGM HS hd
  go_wp2_with fail
  go_loopw [7, 8] (fun v i wr => ∃ r : Nat, r ≤ 65 ∧ i = .int .i64 r ∧ Hid (IRow wr W1.heap.size v (iterR d cls now r)) ∧ Hid (Below W1.heap.size W1 wr)) (fun _ i _ => 65 - (intOf i).toNat)
  case atStart => exact ⟨0, by omega, rfl, Lib.hid (World.ownsRow_nil _ _ _ _), Lib.hid (Below.refl _ _)⟩
  case round =>
    obtain ⟨r, hr, rfl, HR, HB⟩ := hrel
    obtain ⟨wo, rfl⟩ : ∃ wo, wo = wr := ⟨_, rfl⟩
    obtain ⟨sa, sc, rfl⟩ := HR.out.shape
    by_cases hlt : r < 65
    · have hlt2 : (r : Int) ≤ 64 := by omega
      have HIT : Hid (iterR d cls now (r + 1) = stepR d cls now (iterR d cls now r) 64) := Lib.hid rfl
      have HOI := Lib.hid HR.out.ints
      generalize iterR d cls now r = S at *
      go_wp2_with fail
      go_loopw [9, 10] (fun v i wr => ∃ k : Nat, k ≤ 64 ∧ i = .int .i64 ((k : Int) + 1) ∧ Hid (IRow wr wo.heap.size v (stepR d cls now S k)) ∧ Hid (Below wo.heap.size wo wr)) (fun _ i _ => 65 - (intOf i).toNat)
      case atStart => exact ⟨0, by omega, rfl, Lib.hid (World.ownsRow_nil _ _ _ _), Lib.hid (Below.refl _ _)⟩
      case round =>
        obtain ⟨k, hk, rfl, HN, HI⟩ := hrel
        obtain ⟨wp, rfl⟩ : ∃ wp, wp = wr := ⟨_, rfl⟩
        obtain ⟨na, nn, nc, rfl⟩ := HN.out.sl
        by_cases hkl : k < 64
        · have h4 : (k : Int) + 1 ≤ 64 := by omega
          have hk0 : (0 : Int) ≤ k := by omega
          have HFP := Lib.hid (HF.out.mono (sees_bel (HB.out.trans (HI.out.mono HB.out.size))))
          have HSP := Lib.hid (HOI.out.mono (sees_bel HI.out))
          have cL := Lib.hid (labelR_any HFP.out ((k : Int) + 1) wp (fun a u h => h))
          have HGS : Hid (d.goes cls now S ((k : Int) + 1) = ((lastPub D ((k : Int) + 1)).isSome && allows (labOf (lastPub D ((k : Int) + 1))) cls now S (apprF D ((k : Int) + 1)))) := Lib.hid (by rw [HD.out]; rfl)
          have HY := Lib.hid (fun h => stepR_yes (d := d) (cls := cls) (now := now) (S := S) (k := k) h)
          have HNO := Lib.hid (fun h => stepR_no (d := d) (cls := cls) (now := now) (S := S) (k := k) h)
          have hsl := Lib.hid (stepR_len d cls now S k)
          generalize stepR d cls now S k = N at *
          go_wp2_with fail
          refine cL.out.mono ?_
          rintro e w8 ⟨av, rfl, hia, hb8⟩
          obtain ⟨l1, l2, rfl⟩ := hia.slice
          have HIA := Lib.hid hia
          have HP8 := Lib.hid hb8
          clear hia hb8 cL
          go_upto_region 11 with fail
          have hn9 := World.alloc_heap_new w8 (.cells (labCells (labOf (lastPub D ((k : Int) + 1))) (.slice l1 (labOf (lastPub D ((k : Int) + 1))).after.length l2)) 34)
          have HN9 := Lib.hid hn9
          have HP9 := Lib.hid (HP8.out.alloc HP8.out.size (.cells (labCells (labOf (lastPub D ((k : Int) + 1))) (.slice l1 (labOf (lastPub D ((k : Int) + 1))).after.length l2)) 34))
          have HIA9 := Lib.hid (HIA.out.mono (sees_bel HP9.out))
          clear hn9
          generalize World.alloc w8 _ = w9 at *
          have HI9 := Lib.hid (HI.out.trans (HP9.out.mono HI.out.size))
          have HF9 := Lib.hid (HFP.out.mono (sees_bel HP9.out))
          have HS9 := Lib.hid (HSP.out.mono (sees_bel HP9.out))
          have HNW := Lib.hid (HN.out.bel HP9.out)
          generalize (lastPub D ((k : Int) + 1)).isSome = q at *
          generalize labOf (lastPub D ((k : Int) + 1)) = x at *
          have cA := Lib.hid (fun W (h' : Sees (fun a => w9.cell? a) W) => apprR_any HF9.out ((k : Int) + 1) W h')
          generalize apprF D ((k : Int) + 1) = ap at *
          cases q with
          | false =>
            have HE := Lib.hid (HNO.out (by rw [HGS.out]; rfl))
            go_wp2_with fail
            go_roundw
            case rel => exact ⟨k + 1, by omega, by go_num, by rw [HE.out]; exact HNW, HI9⟩
            case measure => simp [intOf]; omega
          | true =>
            have d0 : w9.drew.cell? ⟨w8.heap.size, 0, none⟩ = some (.int .i64 x.till) := blk_cell HN9.out 0
            have d1 : w9.drew.cell? ⟨w8.heap.size, 1, none⟩ = some (.slice l1 x.after.length l2) := blk_cell HN9.out 1
            have d2 : w9.drew.cell? ⟨w8.heap.size, 2, none⟩ = some (.int .i64 x.appr) := blk_cell HN9.out 2
            have d3 : w9.drew.cell? ⟨w8.heap.size, 3, none⟩ = some (.int .i64 x.denied) := blk_cell HN9.out 3
            go_upto_region 12 with fail
            refine wp_tail 7 (by kernel_rfl) (by kernel_rfl) ?_
            simp only [List.take_succ_cons, List.take_zero, List.drop_succ_cons, List.drop_zero]
            iterate 6 still_step
            still_call ((cA.out w9.drew (fun a u h => h)).mono fun _ _ ⟨h1, h2⟩ => ⟨h1, h2.symm⟩)
            refine wpStill_nil ?_
            have cW := Lib.hid (allowsR_any x (.slice l1 x.after.length l2) HIA9.out cls now _ S HS9.out ap w9.drew (fun a u h => h))
            clear cA d0 d1 d2 d3
            go_wp2_with fail
            refine cW.out.mono ?_
            rintro e w10 ⟨rfl, hb10⟩
            have HI10 := Lib.hid (HI9.out.drew.trans (hb10.mono HI9.out.size))
            have HN10 := Lib.hid (IRow.bel (w := w9.drew) HNW.out hb10)
            clear cW hb10
            have HGQ : Hid (d.goes cls now S ((k : Int) + 1) = allows x cls now S ap) := Lib.hid (by rw [HGS.out]; rfl)
            generalize allows x cls now S ap = q at *
            cases q with
            | false =>
              have HE := Lib.hid (HNO.out HGQ.out)
              go_wp2_with fail
              go_roundw
              case rel => exact ⟨k + 1, by omega, by go_num, by rw [HE.out]; exact HN10, HI10⟩
              case measure => simp [intOf]; omega
            | true =>
              have HE := Lib.hid (HY.out HGQ.out)
              have hsz : wo.heap.size ≤ w10.heap.size := HI10.out.size
              have hll : N.length ≤ 100000 := by have := hsl.out; omega
              go_wp2_with (at_builtin; go_must (refine wpList_app_int rfl _ _ rfl wo.heap.size _ _ rfl (IRow.alloc HN10.out _) ((k : Int) + 1) w10.heap.size 1 rfl (cell_new rfl rfl) hll (by simp; omega) ?_); intro v2 w2 h2 hg2 _; have H2 := irow_app HN10.out HI10.out h2 hg2; have H2A := Lib.hid H2.1; have H2B := Lib.hid H2.2; clear h2 hg2 H2)
              go_roundw
              case rel => exact ⟨k + 1, by omega, by go_num, by rw [HE.out]; exact H2A, H2B⟩
              case measure => simp [intOf]; omega
        · have h4 : ¬ (k : Int) + 1 ≤ 64 := by omega
          obtain rfl : k = 64 := by omega
          have HBW := Lib.hid (HB.out.trans (HI.out.mono HB.out.size))
          have HNW : Hid (IRow wp W1.heap.size (.slice na nn nc) (iterR d cls now (r + 1))) := Lib.hid (by rw [HIT.out]; exact HN.out.weaken HB.out.size)
          go_wp2_with fail
          go_roundw
          case rel => exact ⟨r + 1, by omega, by go_num, HNW, HBW⟩
          case measure => simp [intOf]; omega
    · have hlt2 : ¬ (r : Int) ≤ 64 := by omega
      obtain rfl : r = 65 := by omega
      have HP : Hid (OutPost (digF D) cls now w (.returned (.slice sa (iterR d cls now 65).length sc)) wo) := Lib.hid ⟨_, iterR d cls now 65, rfl, HR.out.weaken HB1.out.size, by rw [← HD.out]; exact iterR_out d cls now, HB1.out.trans (HB.out.mono HB1.out.size)⟩
      go_wp2_with fail
      go_ret
      exact HP.out
end Go.Proofs.YtgbihmafmmeicaaGreatDoor
namespace Go.Proofs.YtgbihmafmmeicaaGreatDoor
open Go.RowKit Mg Go.Shelf

def shownD (D : List Fct) (O : List Int) (s : Int) : Bool := decide (s ∈ O) && !takenF D s
set_option maxHeartbeats 1000000 in
theorem shown_any {mem : Addr → Option Value} {v u : Value} {D : List Fct} {O : List Int} (h : FctsM mem v D) (hO : IntsM mem u O) (cls now s : Int) (w : World) (hs : Sees mem w) :
    Calls Tryz.prog 40 #[.agg #[v, .int .i64 cls, .int .i64 now, u], .int .i64 s] w fun e w' => e = .returned (.bool (shownD D O s)) ∧ Below w.heap.size w w' := by
  have hB : Below w.heap.size w (w.alloc (.cells #[v, .int .i64 cls, .int .i64 now, u] 48)) := (Below.refl _ w).alloc (Nat.le_refl _) _
  have HC := Lib.hid (fun W (h : Sees mem W) => hasR_any u O hO s W h)
  have HT := Lib.hid (fun W (h' : Sees mem W) => takenR_any h s W h')
  have HR : Hid (shownD D O s = (decide (s ∈ O) && !takenF D s)) := Lib.hid rfl
  have hs1 := Lib.hid (hs.bel hB)
  obtain ⟨va, vc, rfl⟩ := h.slice
  obtain ⟨ua, uc, rfl⟩ := hO.slice
  generalize D.length = nD at *
  generalize O.length = nO at *
  go_enter Tryz.func40, Tryz.ntmps40
  go_wp2_with fail
  refine (HC.out _ hs1.out).mono ?_
  rintro e w' ⟨rfl, rfl⟩
  go_wp2_with fail
  refine (HT.out _ hs1.out).mono ?_
  rintro e w' ⟨rfl, rfl⟩
  generalize decide (s ∈ O) = bo at *
  generalize takenF D s = bt at *
  cases bo <;> cases bt <;> (go_wp2_with fail; go_ret; exact ⟨ret_bool (by rw [HR.out]; rfl), hB⟩)
end Go.Proofs.YtgbihmafmmeicaaGreatDoor
namespace Go.Proofs.YtgbihmafmmeicaaGreatDoor
open Go.RowKit Mg Go.Shelf

set_option maxRecDepth 10000 in
set_option maxHeartbeats 1000000 in
theorem sceneAllows_any {mem : Addr → Option Value} {v u : Value} {D : List Fct} {O : List Int} (h : FctsM mem v D) (hO : IntsM mem u O) (cls now s : Int) (x : Lab) (av : Value) (hi : IntsM mem av x.after) (w : World) (hs : Sees mem w) :
    Calls Tryz.prog 37 #[.agg #[v, .int .i64 cls, .int .i64 now, u], .int .i64 s, .agg (labCells x av)] w fun e w' => e = .returned (.bool (allows x cls now O (apprF D s))) ∧ Below w.heap.size w w' := by
  have HA := Lib.hid (fun W (h' : Sees mem W) => apprR_any h s W h')
  have HC := Lib.hid (fun n W (h : Sees mem W) => allowsR_any x av hi cls now u O hO n W h)
  have HS := Lib.hid hs
  obtain ⟨va, vc, rfl⟩ := h.slice
  obtain ⟨ua, uc, rfl⟩ := hO.slice
  obtain ⟨aa, ac, rfl⟩ := hi.slice
  obtain ⟨till, after, appr, denied⟩ := x
  clear h hO hi hs
  simp only [labCells] at *
  generalize D.length = nD at *
  generalize O.length = nO at *
  go_enter Tryz.func37, Tryz.ntmps37
  go_wp2_with fail
  generalize hW : (w.alloc _).alloc _ = W1
  refine wp_tail 11 (by kernel_rfl) (by kernel_rfl) ?_
  simp only [List.take_succ_cons, List.take_zero, List.drop_succ_cons, List.drop_zero]
  subst hW
  have hB : ∀ o1 o2, Below w.heap.size w ((w.alloc o1).alloc o2).drew := fun o1 o2 => (((Below.refl _ w).alloc (Nat.le_refl _) o1).alloc (by simp) o2).drew
  iterate 10 still_step
  still_call ((HA.out _ (HS.out.bel (hB _ _))).mono fun _ _ ⟨h1, h2⟩ => ⟨h1, h2.symm⟩)
  refine wpStill_nil ?_
  go_wp2_with fail
  refine (HC.out _ _ (HS.out.bel (hB _ _))).mono ?_
  rintro e w3 ⟨rfl, hb3⟩
  go_wp2_with fail
  go_ret
  exact ⟨rfl, (hB _ _).trans (hb3.mono (hB _ _).size)⟩
end Go.Proofs.YtgbihmafmmeicaaGreatDoor
namespace Go.Proofs.YtgbihmafmmeicaaGreatDoor
open Go.RowKit Mg Go.Shelf

theorem scene_under : ∃ fs, Tryz.prog.underlying 48 = some (.struct fs) := ⟨_, Tryz.underlying48⟩
theorem scene_size : (Tryz.prog.info? 48).map (·.size) = some 4 := by kernel_rfl
theorem upd4 (W : World) (g : Nat) (u0 u1 u2 u3 : Value) : Upd (fun k => k = g) W ((((W.setCell ⟨g, 0, none⟩ u0).setCell ⟨g, 1, none⟩ u1).setCell ⟨g, 2, none⟩ u2).setCell ⟨g, 3, none⟩ u3) :=
  (((upd_cell W g 0 u0).trans (upd_cell _ g 1 u1) (fun _ e => .inl e)).trans (upd_cell _ g 2 u2) (fun _ e => .inl e)).trans (upd_cell _ g 3 u3) (fun _ e => .inl e)
abbrev sceneC (v : Value) (cls now : Int) (u : Value) : Array Value := #[v, .int .i64 cls, .int .i64 now, u]
set_option maxRecDepth 100000 in
set_option maxHeartbeats 2000000 in
theorem look_any {mem : Addr → Option Value} (v : Value) (es : List FctE) (h : EsM mem v es) (ht : ∀ e ∈ es, Tidy e.f) (hlen : es.length ≤ 1000) (cls now : Int) (w : World) (hs : Sees mem w) :
    Calls Tryz.prog 21 #[v, .int .i64 cls, .int .i64 now] w fun e w' => ∃ cv ov L, e = .returned (.agg (sceneC cv cls now ov)) ∧ EsM (fun a => w'.cell? a) cv (goodE es) ∧ IntsM (fun a => w'.cell? a) ov L ∧ OutIs (digF ((es.map FctE.f).filter validF)) cls now L ∧ Below w.heap.size w w' := by
  have HB1 : Hid (Below w.heap.size w (w.alloc (.cells (sceneC (.slice none 0 0) 0 0 (.slice none 0 0)) 48))) := Lib.hid ((Below.refl _ w).alloc (Nat.le_refl _) _)
  have HN1 := Lib.hid (World.alloc_heap_new w (.cells (sceneC (.slice none 0 0) 0 0 (.slice none 0 0)) 48))
  have c1 := Lib.hid (fun W (hW : Sees mem W) => clean_any v es h ht hlen W hW)
  have c2 := Lib.hid (fun W (hW : Sees mem W) => refOut_any v es h ht hlen cls now W hW)
  have HS1 := Lib.hid (hs.bel HB1.out)
  have HS0 := Lib.hid hs
  have hsl : ∃ ao n cap, v = .slice ao n cap := by
    obtain ⟨_, _, ⟨_, ao, cap, rfl, _⟩, _⟩ := h
    exact ⟨_, _, _, rfl⟩
  obtain ⟨v1, v2, v3, rfl⟩ := hsl
  clear h ht hlen hs
  go_enter Tryz.func21, Tryz.ntmps21
  go_upto_region 1 with fail
  generalize World.alloc w _ = W1 at *
  go_wp2_with fail
  refine (c1.out W1 HS1.out).mono ?_
  rintro e W2 ⟨cv, rfl, hC⟩
  have HC := Lib.hid hC
  have HB2 := Lib.hid (HB1.out.trans (hC.bel.mono HB1.out.size))
  have HN2 := Lib.hid ((hC.bel.block _ (Go.Proofs.YtgbihmafmmeicaaGreatDoor.hlt HN1.out)).trans HN1.out)
  have HS2 := Lib.hid (HS1.out.bel hC.bel)
  obtain ⟨ca, cn, cc, rfl⟩ := hC.row.sl
  clear hC
  go_wp2_with fail
  refine (c2.out W2 HS2.out).mono ?_
  rintro e W3 ⟨ov, L, rfl, hor, ho, hb⟩
  obtain ⟨o1, o2, o3, rfl⟩ := hor.sl
  have HO := Lib.hid ho
  have HOR := Lib.hid hor
  have HBB := Lib.hid hb
  have HB3 := Lib.hid (HB2.out.trans (hb.mono HB2.out.size))
  have HN3 := Lib.hid ((hb.block _ (Go.Proofs.YtgbihmafmmeicaaGreatDoor.hlt HN2.out)).trans HN2.out)
  have d0 : W3.cell? ⟨w.heap.size, 0, none⟩ = some (.slice none 0 0) := blk_cell HN3.out 0
  have d1 : W3.cell? ⟨w.heap.size, 1, none⟩ = some (.int .i64 0) := blk_cell HN3.out 1
  have d2 : W3.cell? ⟨w.heap.size, 2, none⟩ = some (.int .i64 0) := blk_cell HN3.out 2
  have d3 : W3.cell? ⟨w.heap.size, 3, none⟩ = some (.slice none 0 0) := blk_cell HN3.out 3
  have f0 := blk_free HN3.out 0
  have f1 := blk_free HN3.out 1
  have f2 := blk_free HN3.out 2
  have f3 := blk_free HN3.out 3
  clear ho hor hb
  go_wp2_with fail
  have e0 := blk_set (j := 0) (u := .slice ca cn cc) HN3.out
  have e1 := blk_set (j := 1) (u := .int .i64 cls) e0
  have e2 := blk_set (j := 2) (u := .int .i64 now) e1
  have e3 := blk_set (j := 3) (u := .slice o1 o2 o3) e2
  have hu := upd4 W3 w.heap.size (.slice ca cn cc) (.int .i64 cls) (.int .i64 now) (.slice o1 o2 o3)
  generalize (((World.setCell W3 _ _).setCell _ _).setCell _ _).setCell _ _ = WF at *
  have hlt : w.heap.size < W1.heap.size := Go.Proofs.YtgbihmafmmeicaaGreatDoor.hlt HN1.out
  have hlt2 : W1.heap.size ≤ W2.heap.size := HC.out.bel.size
  have hsee : Sees mem WF := fun a u h => hu.cell_some (HS2.out.bel HBB.out a u h) (fun e => by have := World.block_lt_of_cell? _ _ (HS0.out a u h); omega)
  have hrow : FRow WF W1.heap.size (.slice ca cn cc) (goodE es) := HC.out.row.same fun k hk => by
    have := HC.out.row.ge k hk
    exact (hu.block k (by have := HBB.out.size; omega) (by omega)).trans (HBB.out.block k this.2)
  have hint : IRow WF W2.heap.size (.slice o1 o2 o3) L := HOR.out.kept hu (fun k hk e => by have := HOR.out.ge k hk; omega)
  obtain ⟨fs, hun⟩ := scene_under
  refine bodyPost_ret (results_cell_row (p := 6) (ty := 48) (by kernel_rfl) _ _ w.heap.size _ (sceneC (.slice ca cn cc) cls now (.slice o1 o2 o3)) (0, 0) _ (by simp) e3 hun rfl (by rw [scene_size]; rfl)) rfl ?_
  exact ⟨_, _, L, rfl, hrow.es (fun y hy => (HC.out.ok y hy).mono hsee), hint.ints, HO.out, HB3.out.trans (hu.below (fun k e => by omega) (by have := HB3.out.size; omega))⟩
set_option maxRecDepth 100000 in
set_option maxHeartbeats 2000000 in
theorem sceneOpen_any {mem : Addr → Option Value} {v u : Value} {D : List Fct} {O : List Int} (h : FctsM mem v D) (hO : IntsM mem u O) (cls now : Int) (e : FctE) (he : e.ok mem) (w : World) (hs : Sees mem w) :
    Calls Tryz.prog 36 #[.agg (sceneC v cls now u), .agg e.cells] w fun r w' => r = .returned (.bool (Scn.isOpen ⟨D, cls, now, O⟩ e.f.story e.f.lab)) ∧ Below w.heap.size w w' := by
  have HB1 : Hid (Below w.heap.size w ((w.alloc (.cells (sceneC v cls now u) 48)).alloc (.cells e.cells 45))) := Lib.hid (((Below.refl _ w).alloc (Nat.le_refl _) _).alloc (by simp) _)
  have HN1 := Lib.hid (heap_new1 w (.cells (sceneC v cls now u) 48) (.cells e.cells 45))
  have HN2 := Lib.hid (heap_new2 w (.cells (sceneC v cls now u) 48) (.cells e.cells 45))
  have HS := Lib.hid (hs.bel HB1.out)
  have c1 := Lib.hid (fun W (hW : Sees mem W) => shown_any h hO cls now e.f.story W hW)
  have c2 := Lib.hid (fun W (hW : Sees mem W) => sceneAllows_any h hO cls now e.f.story e.f.lab e.av he.parts.2.2 W hW)
  have HR : Hid (Scn.isOpen ⟨D, cls, now, O⟩ e.f.story e.f.lab = (shownD D O e.f.story && allows e.f.lab cls now O (apprF D e.f.story))) := Lib.hid rfl
  generalize Scn.isOpen ⟨D, cls, now, O⟩ e.f.story e.f.lab = r at *
  obtain ⟨va, vc, rfl⟩ := h.slice
  obtain ⟨ua, uc, rfl⟩ := hO.slice
  clear h hO he hs
  generalize D.length = nD at *
  generalize O.length = nO at *
  go_enter Tryz.func36, Tryz.ntmps36
  go_upto_region 1 with fail
  generalize World.alloc (World.alloc w _) _ = W1 at *
  have k0 : W1.cell? ⟨w.heap.size, 0, none⟩ = some (.slice va nD vc) := blk_cell HN1.out 0
  have k1 : W1.cell? ⟨w.heap.size, 1, none⟩ = some (.int .i64 cls) := blk_cell HN1.out 1
  have k2 : W1.cell? ⟨w.heap.size, 2, none⟩ = some (.int .i64 now) := blk_cell HN1.out 2
  have k3 : W1.cell? ⟨w.heap.size, 3, none⟩ = some (.slice ua nO uc) := blk_cell HN1.out 3
  have d3 : W1.cell? ⟨w.heap.size + 1, 3, none⟩ = some (.int .i64 e.f.story) := blk_cell HN2.out 3
  go_wp2_with fail
  refine (c1.out W1 HS.out).mono ?_
  rintro e1 W2 ⟨rfl, hb⟩
  have HB2 := Lib.hid (HB1.out.trans (hb.mono HB1.out.size))
  have HS2 := Lib.hid (HS.out.bel hb)
  have hn1 := (hb.block _ (Go.Proofs.YtgbihmafmmeicaaGreatDoor.hlt HN1.out)).trans HN1.out
  have hn2 := (hb.block _ (Go.Proofs.YtgbihmafmmeicaaGreatDoor.hlt HN2.out)).trans HN2.out
  clear k0 k1 k2 k3 d3 hb
  have k0 : W2.cell? ⟨w.heap.size, 0, none⟩ = some (.slice va nD vc) := blk_cell hn1 0
  have k1 : W2.cell? ⟨w.heap.size, 1, none⟩ = some (.int .i64 cls) := blk_cell hn1 1
  have k2 : W2.cell? ⟨w.heap.size, 2, none⟩ = some (.int .i64 now) := blk_cell hn1 2
  have k3 : W2.cell? ⟨w.heap.size, 3, none⟩ = some (.slice ua nO uc) := blk_cell hn1 3
  have d3 : W2.cell? ⟨w.heap.size + 1, 3, none⟩ = some (.int .i64 e.f.story) := blk_cell hn2 3
  have d11 : W2.cell? ⟨w.heap.size + 1, 11, none⟩ = some (.int .i64 e.f.lab.till) := blk_cell hn2 11
  have d12 : W2.cell? ⟨w.heap.size + 1, 12, none⟩ = some e.av := blk_cell hn2 12
  have d13 : W2.cell? ⟨w.heap.size + 1, 13, none⟩ = some (.int .i64 e.f.lab.appr) := blk_cell hn2 13
  have d14 : W2.cell? ⟨w.heap.size + 1, 14, none⟩ = some (.int .i64 e.f.lab.denied) := blk_cell hn2 14
  clear hn1 hn2
  generalize shownD D O e.f.story = q at *
  cases q with
  | false =>
    go_wp2_with fail
    go_ret
    exact ⟨ret_bool (by rw [HR.out]; rfl), HB2.out⟩
  | true =>
    go_wp2_with fail
    refine (c2.out W2 HS2.out).mono ?_
    rintro e1 W3 ⟨rfl, hb⟩
    have HB3 := Lib.hid (HB2.out.trans (hb.mono HB2.out.size))
    clear hb k0 k1 k2 k3 d3 d11 d12 d13 d14
    go_wp2_with fail
    go_ret
    exact ⟨ret_bool (by rw [HR.out]; rfl), HB3.out⟩
end Go.Proofs.YtgbihmafmmeicaaGreatDoor

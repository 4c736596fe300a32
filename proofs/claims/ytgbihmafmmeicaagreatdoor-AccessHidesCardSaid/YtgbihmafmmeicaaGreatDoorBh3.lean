/-
  WHAT IS PROVED HERE: 13 texts joined, each with its own head: what the walks of the program give. Conditions: each at its place.
-/
import Derived.Test.YtgbihmafmmeicaaGreatDoorBh2
namespace Go.Proofs.YtgbihmafmmeicaaGreatDoor
open Go.RowKit Mg Go.Shelf
attribute [local go_sem] Oper.semAt_some

abbrev eL {mem : Addr → Option Value} (xs : List (GE mem)) : List FctE := xs.map Subtype.val
set_option maxRecDepth 100000 in
set_option maxHeartbeats 4000000 in
theorem read_wide {mem : Addr → Option Value} (v : Value) (es : List FctE) (hes : EsM mem v es) (ht : ∀ e ∈ es, Tidy e.f) (hlen : es.length ≤ 1000) (w : World) (hs : Sees mem w) (hmem : ∀ a u, mem a = some u → a.block < w.heap.size) : CallsIn Fence.wide 5 Tryz.prog 31 #[v] w (ReadPost (goodE es) w) := by
  have hsl : ∃ ao n cap, v = .slice ao n cap := by
    obtain ⟨_, _, ⟨_, ao, cap, rfl, _⟩, _⟩ := hes
    exact ⟨_, _, _, rfl⟩
  obtain ⟨ao, nn, cap, rfl⟩ := hsl
  have hmm := @run_makeMap Tryz.prog
  have c1 := valid_any (.slice ao nn cap) ⟨_, _, _, rfl⟩
  obtain ⟨M1, hM0, hM1, hM2, hM3⟩ : ∃ M1 : Addr → Option Value, (∀ a u, mem a = some u → M1 a = some u) ∧ M1 ⟨w.heap.size + 1 + 1 + 1 + 1, 0, none⟩ = some (.slice ao nn cap) ∧ (∀ a u, M1 a = some u → a.block < w.heap.size + 5 ∧ ¬ (w.heap.size ≤ a.block ∧ a.block ≤ w.heap.size + 3)) ∧
      ∀ W, Sees mem W → W.cell? ⟨w.heap.size + 1 + 1 + 1 + 1, 0, none⟩ = some (.slice ao nn cap) → Sees M1 W := by
    refine ⟨fun p => if p = ⟨w.heap.size + 1 + 1 + 1 + 1, 0, none⟩ then some (.slice ao nn cap) else mem p, fun a u h => ?_, by simp, fun a u h => ?_, fun W h1 h2 a u h => ?_⟩
    · have := hmem a u h
      dsimp only
      rw [if_neg (fun e => by rw [e] at this; dsimp only at this; omega), h]
    · dsimp only at h
      split at h
      · next e => subst e; dsimp only; omega
      · have := hmem a u h; omega
    · dsimp only at h
      split at h
      · next e => subst e; injection h with h; subst h; exact h2
      · exact h1 a u h
  have hes1 := hes.mono hM0
  obtain ⟨xs, hxs⟩ := good_list hes1 ht
  have hxl : xs.length ≤ 1000 := by
    have h1 : xs.length = (goodE es).length := by rw [← hxs, List.length_map]
    have h2 : (goodE es).length ≤ es.length := List.length_filter_le _ _
    omega
  have HE := Lib.hid (And.intro hes1 (And.intro hes ht))
  have HX := Lib.hid hxs
  have HS := Lib.hid hs
  have HM := Lib.hid (And.intro hM0 (And.intro hM1 (And.intro hM2 hM3)))
  clear hes ht hxs hs hmem hM0 hM1 hM2 hM3 hes1
  refine callsIn_of_wp_marks Tryz.func31 rfl trivial ?_ rfl
  simp only [Tryz.ntmps31, List.size_toArray, List.length_cons, List.length_nil, Nat.reduceAdd, Nat.reduceSub, Array.replicate_succ, Array.replicate_zero, List.push_toArray, List.append_toArray, List.nil_append, List.cons_append]
  gi_wp2_with ((with_reducible refine gi_at_dbuild _ rfl ?_); go_must (refine wpListIn_dig_build rfl _ rfl _ (by simp [Act.eval]; rfl) ?_))
  refine ⟨trivial, callsIn_wide.2 ((c1 _).mono ?_)⟩
  rintro e W0 ⟨rfl, hW0⟩
  have H0 := Lib.hid (RI.start (w := w) (.cells #[.slice ao nn cap] 25))
  rw [hW0] at H0
  have HC : Hid (W0.cell? ⟨w.heap.size + 1 + 1 + 1 + 1, 0, none⟩ = some (.slice ao nn cap)) := Lib.hid (by rw [← hW0]; have h := World.alloc_heap_new ((((w.alloc (.map #[] 0)).alloc (.cells (digNew (.map (some w.heap.size))) 84)).alloc (.cells #[.pointer (some ⟨w.heap.size + 1, 0, none⟩)] 63)).alloc (.cells Tryz.zeroCells86 86)) (.cells #[.slice ao nn cap] 25); simp only [World.size_alloc] at h; rw [blk_cell h]; rfl)
  have hB0 : Hid (Below w.heap.size w W0) := Lib.hid H0.out.bel
  have hsz : W0.heap.size = w.heap.size + 5 := by rw [← hW0]; simp
  clear hW0 c1 hmm
  gi_wp2_with fail
  refine wpIn_rangeFunc_ownH rfl (by omega) (gf := 68) (lb := #[.pointer (some ⟨w.heap.size + 1 + 1 + 1 + 1, 0, none⟩)]) rfl trivial (enters_of Tryz.func68 (by kernel_rfl) rfl)
    (valid_stops _ (w.heap.size + 1 + 1 + 1 + 1) (KeepB (w.heap.size + 5) (fun k => w.heap.size ≤ k ∧ k ≤ w.heap.size + 3)) M1 W0 (HM.out.2.2.2 W0 (HS.out.bel hB0.out) HC.out) (sees_keepB HM.out.2.2.1) (.slice ao nn cap) es HE.out.1 HE.out.2.2 HM.out.2.1 xs HX.out) keepB_t (keepB_b (by omega)) (Below.refl _ _) (fun _ => rfl)
    (fun pre W => RIs w w.heap.size (eL pre) W) (fun _ _ _ => False) (by rw [hsz]; exact RI.own w w.heap.size eL) (fun _ _ _ _ _ hs _ _ => hs) H0.out
    (fun x a' W => ∃ T, a' = ⟨#[.slice ao nn cap, undef, .pointer none, .pointer (some ⟨w.heap.size + 1 + 1, 0, none⟩), .pointer (some ⟨w.heap.size + 1 + 1 + 1, 0, none⟩), .pointer (some ⟨T, 0, none⟩), undef, undef, .map (some w.heap.size), .agg (digNew (.map (some w.heap.size))), .pointer (some ⟨w.heap.size + 1, 0, none⟩), .slice ao nn cap, .func (.func 68) #[] #[.pointer (some ⟨w.heap.size + 1 + 1 + 1 + 1, 0, none⟩)], .agg x.1.cells, undef, undef, undef, undef, undef, undef, undef, undef, undef, undef, undef, undef, undef, undef, undef, undef, undef, undef, undef, undef, undef, undef, undef, undef, undef, undef, undef, undef, undef, undef, undef, undef, undef, undef, undef, undef, undef, undef, undef, undef, undef, undef, undef, undef, undef, undef, undef, undef, undef, undef, undef, undef, undef, undef, undef, undef, undef, undef, undef, undef, undef, undef, undef, undef, undef, undef, undef, undef, undef, undef, undef, undef, undef, undef, undef], []⟩ ∧ W.heap[T]? = some (.cells x.1.cells 45 (0, 0)) ∧ w.heap.size + 5 ≤ T ∧ ∃ C t, W.heap[w.heap.size + 1]? = some (.cells C t (0, 0)) ∧ ∀ u, C[0]? = some u → u.ownBlock ≠ some T) ?ax ?assign ?body ?done ?stop
  case ax =>
    rintro x a' s W W' row ⟨T, rfl, h1, h2, C, t, hC, h5⟩ hg hr
    refine ⟨T, rfl, (hg.block T (Array.getElem?_eq_some_iff.1 h1).1 (fun e => ?_)).trans h1, h2, C, t, (hg.block _ (Array.getElem?_eq_some_iff.1 hC).1 (fun e => by have := (hr _ e.symm).1; omega)).trans hC, h5⟩
    obtain ⟨_, o, h3, h4⟩ := hr T e.symm
    rw [h1] at h3
    injection h3 with h3
    subst h3
    cases h4
  case assign =>
    intro l pre x W K hI hK
    have hone := Lib.hid x.1.one
    have hsz2 : Hid (x.1.cells.size = 23) := Lib.hid rfl
    have HI := Lib.hid hI
    have HK := Lib.hid hK
    clear hI hK
    gi_wp2_with ((with_reducible refine gi_at_fstore _ _ rfl ?_); go_must (refine wpListIn_fct_new rfl _ _ rfl rfl _ _ _ (by simp [Act.eval]) (by simp [Act.eval]) (by rfl) hsz2.out hone.out ?_))
    refine HK.out _ _ (KeepsFrom.of_grownBy (World.grownBy_alloc W _ none) (fun j e => by cases e)) (fun k hk _ => Below.heap_alloc W _ k (by have := HI.out.sz; omega)) ((RI.own w w.heap.size eL).alloc _ HI.out) ⟨W.heap.size, rfl, World.alloc_heap_new W _, HI.out.sz, _, _, (Below.heap_alloc W _ _ (by have := HI.out.sz; omega)).trans HI.out.row.choose_spec.2, fun u hu => ?_⟩
    have h0 : u = HI.out.row.choose := by
      rw [Array.getElem?_ofFn] at hu
      simpa [dc] using hu.symm
    subst h0
    intro h
    have := (HI.out.row.choose_spec.1.ge _ h).2
    omega
  case body =>
    rintro l pre x a' W hl hloop hI ⟨T, rfl, hT, hTN, C, tC, hC, hCu⟩ hlt
    obtain ⟨rv, hrow, hdig⟩ := hI.row
    have hbox := hI.box
    have d0 := hdig.cell (j := 0) (by omega)
    have fd0 := hdig.frozen 0
    rw [dc_v] at d0
    have hS0 : Hid (W.heap[w.heap.size + 2]? = some (.cells #[.pointer (some ⟨w.heap.size + 1, 0, none⟩)] 63 (0, 0)) ∧ W.cell? ⟨w.heap.size + 1, 0, none⟩ = some rv ∧ W.heap[T]? = some (.cells x.1.cells 45 (0, 0))) := Lib.hid ⟨hbox, d0, hT⟩
    have HI := Lib.hid hI
    have hsz2 : Hid (x.1.cells.size = 23) := Lib.hid rfl
    obtain ⟨ra, rn, rc, rfl⟩ := hrow.sl
    have HR := Lib.hid hrow
    have HD := Lib.hid hdig
    have hne : Hid ((Value.slice ra rn rc).ownBlock ≠ some T) := Lib.hid (hCu _ (by rw [← blk_cell hC 0]; exact d0))
    clear hI hbox d0 hT hrow hdig hC hCu C tC
    gi_wp2_with fail
    refine wpIn_mix [mT, mT, mT, mT, mT, mT, mF, mF, mF, mF, mL] 10 (fun W' => W'.heap[w.heap.size + 2]? = some (.cells #[.pointer (some ⟨w.heap.size + 1, 0, none⟩)] 63 (0, 0)) ∧ W'.cell? ⟨w.heap.size + 1, 0, none⟩ = some (.slice ra rn rc) ∧ W'.heap[T]? = some (.cells x.1.cells 45 (0, 0))) (by kernel_rfl) (by kernel_rfl) (by kernel_rfl) (fun ⟨_, _, h⟩ => h) hS0.out ?_
    refine wpMix_take (.pointer (some ⟨w.heap.size + 1, 0, none⟩)) (fun _ _ _ _ h => h) hS0.out (by rfl) (fun W' hW' => by have k0 := blk_cell hW'.1 0; simp only [List.getElem?_toArray, List.getElem?_cons_zero] at k0; go_simp) ?_
    simp only [Act.put, List.setIfInBounds_toArray, List.set_cons_zero, List.set_cons_succ]
    refine wpMix_take (.pointer (some ⟨w.heap.size + 1, 0, none⟩)) (fun _ _ _ _ h => h) hS0.out (by rfl) (fun W' hW' => by have k0 := blk_cell hW'.1 0; simp only [List.getElem?_toArray, List.getElem?_cons_zero] at k0; go_simp) ?_
    simp only [Act.put, List.setIfInBounds_toArray, List.set_cons_zero, List.set_cons_succ]
    refine wpMix_take (.pointer (some ⟨w.heap.size + 1, 0, none⟩)) (fun _ _ _ _ h => h) hS0.out (by rfl) (fun W' hW' => by go_simp) ?_
    simp only [Act.put, List.setIfInBounds_toArray, List.set_cons_zero, List.set_cons_succ]
    refine wpMix_take (.pointer (some ⟨w.heap.size + 1, 0, none⟩)) (fun _ _ _ _ h => h) hS0.out (by rfl) (fun W' hW' => by go_simp) ?_
    simp only [Act.put, List.setIfInBounds_toArray, List.set_cons_zero, List.set_cons_succ]
    refine wpMix_take (.slice ra rn rc) (fun _ _ _ _ h => h) hS0.out (by rfl) (fun W' hW' => by have k0 := hW'.2.1; go_simp) ?_
    simp only [Act.put, List.setIfInBounds_toArray, List.set_cons_zero, List.set_cons_succ]
    refine wpMix_take (.agg x.1.cells) (fun _ _ _ _ h => h) hS0.out (by rfl) (fun W' hW' => exec_fct_load _ rfl (by simp [Act.eval]) hW'.2.2 hsz2.out) ?_
    simp only [Act.put, List.setIfInBounds_toArray, List.set_cons_zero, List.set_cons_succ]
    refine wpMix_step (fun K hK => ?_)
    rw [if_pos (by rfl)]
    refine wp_fct_slice _ rfl x.1 (by simp [Act.eval]) ?_
    have hS1 : Hid (((W.drew.alloc (.cells x.1.cells 45)).heap[w.heap.size + 2]? = some (.cells #[.pointer (some ⟨w.heap.size + 1, 0, none⟩)] 63 (0, 0)) ∧ (W.drew.alloc (.cells x.1.cells 45)).cell? ⟨w.heap.size + 1, 0, none⟩ = some (.slice ra rn rc) ∧ (W.drew.alloc (.cells x.1.cells 45)).heap[T]? = some (.cells x.1.cells 45 (0, 0)))) :=
      Lib.hid ⟨(Below.heap_alloc W.drew _ _ (Array.getElem?_eq_some_iff.1 hS0.out.1).1).trans hS0.out.1, ((Below.refl _ W.drew).alloc (Nat.le_refl _) _).cell (World.block_lt_of_cell? W _ hS0.out.2.1) |>.trans hS0.out.2.1, (Below.heap_alloc W.drew _ _ (Array.getElem?_eq_some_iff.1 hS0.out.2.2).1).trans hS0.out.2.2⟩
    refine hK _ _ hS1.out ?_
    clear hK K
    simp only [Act.put, List.setIfInBounds_toArray, List.set_cons_zero, List.set_cons_succ]
    refine wpMix_step (fun K hK => ?_)
    rw [if_pos (by rfl)]
    refine wp_app_fct _ _ rfl (w.heap.size + 5) (.slice ra rn rc) (eL pre) (by simp [Act.eval]) (HR.out.same (fun k hk => Below.heap_alloc W.drew _ k (HR.out.ge k hk).2)) x.1 W.drew.heap.size 1 (by simp [Act.eval]) (World.alloc_heap_new W.drew _) (by rw [List.length_map]; omega) (by have := HI.out.sz; rw [World.size_alloc]; show w.heap.size + 5 ≤ W.heap.size + 1; omega) ?_
    intro v' w' hr' hg _
    have hrow2 : ∀ k, k < w.heap.size + 5 ∨ k = T → k < W.heap.size → w'.heap[k]? = W.heap[k]? := fun k hk hlt => (hg.block k (by rw [World.size_alloc]; show k < W.heap.size + 1; omega) (fun e => by
      rcases hk with hk | hk
      · have := (HR.out.ge k e.symm).1; omega
      · exact hne.out (e.symm.trans (by rw [hk])))).trans (Below.heap_alloc W.drew _ k hlt)
    have hTl : T < W.heap.size := (Array.getElem?_eq_some_iff.1 hS0.out.2.2).1
    have hS2 : Hid (w'.heap[w.heap.size + 2]? = some (.cells #[.pointer (some ⟨w.heap.size + 1, 0, none⟩)] 63 (0, 0)) ∧ w'.cell? ⟨w.heap.size + 1, 0, none⟩ = some (.slice ra rn rc) ∧ w'.heap[T]? = some (.cells x.1.cells 45 (0, 0))) :=
      Lib.hid ⟨(hrow2 _ (.inl (by omega)) (by have := HI.out.sz; omega)).trans hS0.out.1, (World.cell?_of_block (hrow2 (w.heap.size + 1) (.inl (by omega)) (by have := HI.out.sz; omega))).trans hS0.out.2.1, (hrow2 _ (.inr rfl) hTl).trans hS0.out.2.2⟩
    refine hK _ _ hS2.out ?_
    clear hK K
    obtain ⟨ra', rn', rc', rfl⟩ := hr'.sl
    obtain ⟨hI5, hC5, hT5⟩ := RI.append HI.out HR.out HD.out hg hr'
    have hT6 := (hT5 T hTN hTl hne.out).trans hS0.out.2.2
    have hM5 := RI.append_map (v' := .slice ra' rn' rc') HI.out HR.out hg
    have H5 := Lib.hid (And.intro hI5 (And.intro hC5 hT6))
    have HM5 := Lib.hid hM5
    clear hM5
    have HC2 := Lib.hid hS2.out.2.1
    have HF2 : Hid (w'.frozen? ⟨w.heap.size + 1, 0, none⟩ = false) := Lib.hid ((World.frozen?_of_block (hrow2 (w.heap.size + 1) (.inl (by omega)) (by have := HI.out.sz; omega))).trans fd0)
    clear hr' hg hrow2 hTl hI5 hC5 hT5 hT6 fd0
    simp only [Act.put, List.setIfInBounds_toArray, List.set_cons_zero, List.set_cons_succ]
    refine wpMix_step (fun K hK => ?_); go_simp; refine hK _ _ hS2.out ?_; clear hK K
    refine wpMix_step (fun K hK => ?_); go_simp; refine hK _ _ hS2.out ?_; clear hK K
    have hc2 := HC2.out
    have hf2 := HF2.out
    refine wpMix_last (fun K hK => ?_)
    go_simp
    refine hK _ _ ?_
    clear hK K hc2 hf2
    refine wpMix_nil ?_
    generalize hW5 : World.setCell w' _ _ = W5
    rw [hW5] at H5 HM5
    clear hW5 HC2 HF2 hS2 hS1
    have hI5 := H5.out.1
    have k2 : W5.cell? ⟨T, 2, none⟩ = some (.int .i64 x.1.f.kind) := blk_cell H5.out.2.2 2
    generalize hkd : x.1.f.kind = kd at k2
    have HKD := Lib.hid hkd
    clear hkd hI5
    by_cases hk1 : kd = 1
    · subst hk1
      obtain ⟨n, hn, hm⟩ := HM5.out
      have hfo := x.2.2.1.fok
      obtain ⟨kl, hkl⟩ := rev_key x.1.f.story x.1.f.rev x.1.f.lang hfo.i3 hfo.i5 hfo.s4
      have hpl : (eL pre).length ≤ 1000 := by rw [List.length_map]; omega
      obtain ⟨w2, hst, hm2, hg2⟩ := hm.drew.store rev_keyed Tryz.underlying79 (by unfold maxLen; omega) hkl (.agg x.1.cells)
      obtain ⟨r1, q1⟩ := H5.out.1.drew.setG hg2 ⟨n + 1, by rw [List.length_append, List.length_singleton]; omega, hm2⟩
      have H7 := Lib.hid (And.intro r1 (H5.out.2.1.drew.trans q1))
      have hSS : Hid (W5.heap[w.heap.size + 2]? = some (.cells #[.pointer (some ⟨w.heap.size + 1, 0, none⟩)] 63 (0, 0)) ∧ W5.heap[T]? = some (.cells x.1.cells 45 (0, 0)) ∧ W5.cell? ⟨w.heap.size + 1, 456, none⟩ = some (.map (some w.heap.size))) := Lib.hid ⟨H5.out.1.box, H5.out.2.2, by obtain ⟨dv, _, hdg⟩ := H5.out.1.row; exact hdg.cell (j := 456) (by omega)⟩
      have HST := Lib.hid hst
      clear hn hm hfo hkl hst hm2 hg2 r1 q1 hpl
      gi_wp2_with fail
      refine wpIn_mix [mT, mT, mT, mT, mT, mT, mT, mT, mT, mT, mT, mT, mL] 12 (fun W' => W'.heap[w.heap.size + 2]? = some (.cells #[.pointer (some ⟨w.heap.size + 1, 0, none⟩)] 63 (0, 0)) ∧ W'.heap[T]? = some (.cells x.1.cells 45 (0, 0)) ∧ W'.cell? ⟨w.heap.size + 1, 456, none⟩ = some (.map (some w.heap.size))) (by kernel_rfl) (by kernel_rfl) (by kernel_rfl) (fun ⟨_, _, h⟩ => h) hSS.out ?_
      refine wpMix_take (.pointer (some ⟨w.heap.size + 1, 0, none⟩)) (fun _ _ _ _ h => h) hSS.out (by rfl) (fun W' hW' => by have k0 := blk_cell hW'.1 0; simp only [List.getElem?_toArray, List.getElem?_cons_zero] at k0; go_simp) ?_
      simp only [Act.put, List.setIfInBounds_toArray, List.set_cons_zero, List.set_cons_succ]
      refine wpMix_take (.pointer (some ⟨w.heap.size + 1, 0, none⟩)) (fun _ _ _ _ h => h) hSS.out (by rfl) (fun W' hW' => by go_simp) ?_
      simp only [Act.put, List.setIfInBounds_toArray, List.set_cons_zero, List.set_cons_succ]
      refine wpMix_take (.pointer (some ⟨w.heap.size + 1, 456, none⟩)) (fun _ _ _ _ h => h) hSS.out (by rfl) (fun W' hW' => by go_simp) ?_
      simp only [Act.put, List.setIfInBounds_toArray, List.set_cons_zero, List.set_cons_succ]
      refine wpMix_take (.map (some w.heap.size)) (fun _ _ _ _ h => h) hSS.out (by rfl) (fun W' hW' => by have k0 := hW'.2.2; go_simp) ?_
      simp only [Act.put, List.setIfInBounds_toArray, List.set_cons_zero, List.set_cons_succ]
      refine wpMix_take (.pointer (some ⟨T, 3, none⟩)) (fun _ _ _ _ h => h) hSS.out (by rfl) (fun W' hW' => by go_simp) ?_
      simp only [Act.put, List.setIfInBounds_toArray, List.set_cons_zero, List.set_cons_succ]
      refine wpMix_take (.int .i64 x.1.f.story) (fun _ _ _ _ h => h) hSS.out (by rfl) (fun W' hW' => by have k0 := blk_cell hW'.2.1 3; rw [show x.1.cells[3]? = some (.int .i64 x.1.f.story) from rfl] at k0; go_simp) ?_
      simp only [Act.put, List.setIfInBounds_toArray, List.set_cons_zero, List.set_cons_succ]
      refine wpMix_take (.pointer (some ⟨T, 4, none⟩)) (fun _ _ _ _ h => h) hSS.out (by rfl) (fun W' hW' => by go_simp) ?_
      simp only [Act.put, List.setIfInBounds_toArray, List.set_cons_zero, List.set_cons_succ]
      refine wpMix_take (.string x.1.f.lang) (fun _ _ _ _ h => h) hSS.out (by rfl) (fun W' hW' => by have k0 := blk_cell hW'.2.1 4; rw [show x.1.cells[4]? = some (.string x.1.f.lang) from rfl] at k0; go_simp) ?_
      simp only [Act.put, List.setIfInBounds_toArray, List.set_cons_zero, List.set_cons_succ]
      refine wpMix_take (.pointer (some ⟨T, 5, none⟩)) (fun _ _ _ _ h => h) hSS.out (by rfl) (fun W' hW' => by go_simp) ?_
      simp only [Act.put, List.setIfInBounds_toArray, List.set_cons_zero, List.set_cons_succ]
      refine wpMix_take (.int .i64 x.1.f.rev) (fun _ _ _ _ h => h) hSS.out (by rfl) (fun W' hW' => by have k0 := blk_cell hW'.2.1 5; rw [show x.1.cells[5]? = some (.int .i64 x.1.f.rev) from rfl] at k0; go_simp) ?_
      simp only [Act.put, List.setIfInBounds_toArray, List.set_cons_zero, List.set_cons_succ]
      refine wpMix_take (.agg #[.int .i64 x.1.f.story, .string x.1.f.lang, .int .i64 x.1.f.rev]) (fun _ _ _ _ h => h) hSS.out (by rfl) (fun W' hW' => by go_simp) ?_
      simp only [Act.put, List.setIfInBounds_toArray, List.set_cons_zero, List.set_cons_succ]
      refine wpMix_take (.agg x.1.cells) (fun _ _ _ _ h => h) hSS.out (by rfl) (fun W' hW' => exec_fct_load _ rfl (by simp [Act.eval]) hW'.2.1 hsz2.out) ?_
      simp only [Act.put, List.setIfInBounds_toArray, List.set_cons_zero, List.set_cons_succ]
      have hst := HST.out
      unfold key3 at hst
      refine wpMix_last (fun K hK => ?_)
      go_simp
      refine hK _ _ ?_
      clear hK K hst HST
      refine wpMix_nil ?_
      gi_wp2_with fail
      refine ⟨by rw [hsz]; exact H7.out.2.from_, H7.out.2.keep, ?_⟩
      show RIs w w.heap.size (eL (pre ++ [x])) _
      rw [show eL (pre ++ [x]) = eL pre ++ [x.1] by simp]
      exact RIs.of H7.out.1 (pubE_other (by rw [HKD.out]; decide)) (takE_other (by rw [HKD.out]; decide)) (labE_other (by rw [HKD.out]; decide)) (gRev_rev HKD.out) (maskF_other (by rw [HKD.out]; decide))
    have b1 : (kd == 1) = false := by simpa using hk1
    by_cases hk2 : kd = 2
    · subst hk2
      obtain ⟨s, hst, hs1, hs64⟩ := good_story x.2.1 (.inr (.inl HKD.out))
      obtain ⟨n, hed, hn1, hn5⟩ := good_editor x.2.1 HKD.out
      gi_wp2_with fail
      have c3 : W5.cell? ⟨T, 3, none⟩ = some (.int .i64 (s : Nat)) := by rw [← hst]; exact blk_cell H5.out.2.2 3
      have c15 : W5.cell? ⟨T, 15, none⟩ = some (.int .i64 (n : Nat)) := by rw [← hed]; exact blk_cell H5.out.2.2 15
      have ce := H5.out.1.ed.cell (j := s) (by omega)
      have hSS := Lib.hid (And.intro c3 (And.intro c15 ce))
      have HSt := Lib.hid (And.intro hst hed)
      have i0 : (0 : Int) ≤ (s : Nat) := by omega
      have i1 : ((s : Nat) : Int) < 65 := by omega
      have i2 : (0 : Int) ≤ (n : Nat) := by omega
      have i3 : ((n : Nat) : Int) ≤ 5 := by omega
      have hob := or_bits (m := maskF (eL pre) s) (n := n) (mask5_lt _ _ _ _ _) (by omega)
      clear c3 c15 ce hst hed
      generalize hmm : maskF (eL pre) s = mk at hSS hob
      have HMK := Lib.hid hmm
      clear hmm
      refine wpIn_mix [mT, mT, mT, mT, mT, mT, mT, mT, mF, mL] 9 (fun W' => W'.cell? ⟨T, 3, none⟩ = some (.int .i64 (s : Nat)) ∧ W'.cell? ⟨T, 15, none⟩ = some (.int .i64 (n : Nat)) ∧ W'.cell? ⟨w.heap.size + 3, s, none⟩ = some (.int .u64 (mk : Nat))) (by kernel_rfl) (by kernel_rfl) (by kernel_rfl) (fun ⟨_, _, h⟩ => h) hSS.out ?_
      refine wpMix_take (.pointer (some ⟨T, 3, none⟩)) (fun _ _ _ _ h => h) hSS.out (by rfl) (fun W' hW' => by go_simp) ?_
      simp only [Act.put, List.setIfInBounds_toArray, List.set_cons_zero, List.set_cons_succ]
      refine wpMix_take (.int .i64 (s : Nat)) (fun _ _ _ _ h => h) hSS.out (by rfl) (fun W' hW' => by have k0 := hW'.1; go_simp) ?_
      simp only [Act.put, List.setIfInBounds_toArray, List.set_cons_zero, List.set_cons_succ]
      refine wpMix_take (.pointer (some ⟨w.heap.size + 3, s, none⟩)) (fun _ _ _ _ h => h) hSS.out (by rfl) (fun W' hW' => by go_simp) ?_
      simp only [Act.put, List.setIfInBounds_toArray, List.set_cons_zero, List.set_cons_succ]
      refine wpMix_take (.int .u64 (mk : Nat)) (fun _ _ _ _ h => h) hSS.out (by rfl) (fun W' hW' => by have k0 := hW'.2.2; go_simp) ?_
      simp only [Act.put, List.setIfInBounds_toArray, List.set_cons_zero, List.set_cons_succ]
      refine wpMix_take (.pointer (some ⟨T, 15, none⟩)) (fun _ _ _ _ h => h) hSS.out (by rfl) (fun W' hW' => by go_simp) ?_
      simp only [Act.put, List.setIfInBounds_toArray, List.set_cons_zero, List.set_cons_succ]
      refine wpMix_take (.int .i64 (n : Nat)) (fun _ _ _ _ h => h) hSS.out (by rfl) (fun W' hW' => by have k0 := hW'.2.1; go_simp) ?_
      simp only [Act.put, List.setIfInBounds_toArray, List.set_cons_zero, List.set_cons_succ]
      generalize hp2 : (2 ^ n : Nat) = p2 at hob
      refine wpMix_take (.int .u64 (p2 : Nat)) (fun _ _ _ _ h => h) hSS.out (by rfl) ?_ ?_
      · intro W' _
        subst hp2
        clear hob hSS HMK HSt
        obtain rfl | rfl | rfl | rfl | rfl : n = 1 ∨ n = 2 ∨ n = 3 ∨ n = 4 ∨ n = 5 := by omega
        all_goals (go_simp; first | done | rfl | decide)
      simp only [Act.put, List.setIfInBounds_toArray, List.set_cons_zero, List.set_cons_succ]
      refine wpMix_take (.int .u64 ((mk ||| p2 : Nat) : Int)) (fun _ _ _ _ h => h) hSS.out (by rfl) (fun W' hW' => by go_simp) ?_
      simp only [Act.put, List.setIfInBounds_toArray, List.set_cons_zero, List.set_cons_succ]
      refine wpMix_step (fun K hK => ?_); go_simp; refine hK _ _ hSS.out ?_; clear hK K
      have k1 := hSS.out.2.2
      have k2 := H5.out.1.ed.frozen s
      refine wpMix_last (fun K hK => ?_)
      go_simp
      refine hK _ _ ?_
      clear hK K k1 k2
      refine wpMix_nil ?_
      gi_wp2_with fail
      obtain ⟨r1, r2⟩ := H5.out.1.setM s (mk ||| p2)
      have hch := (H5.out.2.1.trans r2).drew
      refine ⟨by rw [hsz]; exact hch.from_, hch.keep, ?_⟩
      show RIs w w.heap.size (eL (pre ++ [x])) _
      rw [show eL (pre ++ [x]) = eL pre ++ [x.1] by simp]
      exact RIs.of r1.drew (pubE_other (by rw [HKD.out]; decide)) (takE_other (by rw [HKD.out]; decide)) (labE_other (by rw [HKD.out]; decide)) (gRev_other (by rw [HKD.out]; decide)) (by rw [maskF_ed HKD.out HSt.out.1 HSt.out.2 hn1 hn5, hp2, ← HMK.out]; funext k; by_cases e : k = s <;> simp [e])
    have b2 : (kd == 2) = false := by simpa using hk2
    by_cases hk3 : kd = 3
    · subst hk3
      obtain ⟨s, hst, hs1, hs64⟩ := good_story x.2.1 (.inr (.inr (.inl HKD.out)))
      gi_wp2_with fail
      have c3 : W5.cell? ⟨T, 3, none⟩ = some (.int .i64 (s : Nat)) := by rw [← hst]; exact blk_cell H5.out.2.2 3
      have hSS := Lib.hid (And.intro H5.out.1.box c3)
      have HSt := Lib.hid hst
      have i0 : (0 : Int) ≤ (s : Nat) := by omega
      have i1 : ((s : Nat) : Int) < 65 := by omega
      clear c3 hst
      refine wpIn_mix [mT, mT, mT, mF, mF, mF, mL] 6 (fun W' => W'.heap[w.heap.size + 2]? = some (.cells #[.pointer (some ⟨w.heap.size + 1, 0, none⟩)] 63 (0, 0)) ∧ W'.cell? ⟨T, 3, none⟩ = some (.int .i64 (s : Nat))) (by kernel_rfl) (by kernel_rfl) (by kernel_rfl) (fun ⟨_, _, h⟩ => h) hSS.out ?_
      refine wpMix_take (.pointer (some ⟨w.heap.size + 1, 0, none⟩)) (fun _ _ _ _ h => h) hSS.out (by rfl) (fun W' hW' => by have k0 := blk_cell hW'.1 0; simp only [List.getElem?_toArray, List.getElem?_cons_zero] at k0; go_simp) ?_
      simp only [Act.put, List.setIfInBounds_toArray, List.set_cons_zero, List.set_cons_succ]
      refine wpMix_take (.pointer (some ⟨T, 3, none⟩)) (fun _ _ _ _ h => h) hSS.out (by rfl) (fun W' hW' => by go_simp) ?_
      simp only [Act.put, List.setIfInBounds_toArray, List.set_cons_zero, List.set_cons_succ]
      refine wpMix_take (.int .i64 (s : Nat)) (fun _ _ _ _ h => h) hSS.out (by rfl) (fun W' hW' => by have k0 := hW'.2; go_simp) ?_
      simp only [Act.put, List.setIfInBounds_toArray, List.set_cons_zero, List.set_cons_succ]
      refine wpMix_step (fun K hK => ?_); go_simp; refine hK _ _ hSS.out ?_; clear hK K
      refine wpMix_step (fun K hK => ?_); go_simp; refine hK _ _ hSS.out ?_; clear hK K
      refine wpMix_step (fun K hK => ?_); go_simp; refine hK _ _ hSS.out ?_; clear hK K
      obtain ⟨dv, _, hdg⟩ := H5.out.1.row
      have k1 := hdg.cell (j := 1 + s) (by omega)
      have k2 := hdg.frozen (1 + s)
      rw [dc_p (by omega)] at k1
      clear hdg
      refine wpMix_last (fun K hK => ?_)
      go_simp
      refine hK _ _ ?_
      clear hK K k1 k2
      refine wpMix_nil ?_
      obtain ⟨r1, r2⟩ := H5.out.1.setP (s := s) (by omega) true
      have hT6 : (W5.setCell ⟨w.heap.size + 1, 1 + s, none⟩ (.bool true)).drew.heap[T]? = some (.cells x.1.cells 45 (0, 0)) := ((upd_cell W5 (w.heap.size + 1) (1 + s) (.bool true)).block T (Array.getElem?_eq_some_iff.1 H5.out.2.2).1 (by omega)).trans H5.out.2.2
      have H6 := Lib.hid (And.intro r1.drew (And.intro ((H5.out.2.1.trans r2).drew) hT6))
      clear r1 r2 hT6 hSS
      gi_wp2_with fail
      generalize hW6 : World.drew (World.setCell W5 _ _) = W6
      rw [hW6] at H6
      clear hW6
      have c3 : W6.cell? ⟨T, 3, none⟩ = some (.int .i64 (s : Nat)) := by rw [← HSt.out]; exact blk_cell H6.out.2.2 3
      have c11 : W6.cell? ⟨T, 11, none⟩ = some (.int .i64 x.1.f.lab.till) := blk_cell H6.out.2.2 11
      have c12 : W6.cell? ⟨T, 12, none⟩ = some x.1.av := blk_cell H6.out.2.2 12
      have c13 : W6.cell? ⟨T, 13, none⟩ = some (.int .i64 x.1.f.lab.appr) := blk_cell H6.out.2.2 13
      have c14 : W6.cell? ⟨T, 14, none⟩ = some (.int .i64 x.1.f.lab.denied) := blk_cell H6.out.2.2 14
      have hSS := Lib.hid (And.intro H6.out.1.box (And.intro c3 (And.intro c11 (And.intro c12 (And.intro c13 c14)))))
      clear c3 c11 c12 c13 c14
      refine wpIn_mix [mT, mT, mT, mT, mT, mF, mF, mF, mL] 8 (fun W' => W'.heap[w.heap.size + 2]? = some (.cells #[.pointer (some ⟨w.heap.size + 1, 0, none⟩)] 63 (0, 0)) ∧ W'.cell? ⟨T, 3, none⟩ = some (.int .i64 (s : Nat)) ∧ W'.cell? ⟨T, 11, none⟩ = some (.int .i64 x.1.f.lab.till) ∧ W'.cell? ⟨T, 12, none⟩ = some x.1.av ∧ W'.cell? ⟨T, 13, none⟩ = some (.int .i64 x.1.f.lab.appr) ∧ W'.cell? ⟨T, 14, none⟩ = some (.int .i64 x.1.f.lab.denied)) (by kernel_rfl) (by kernel_rfl) (by kernel_rfl) (fun ⟨_, _, h⟩ => h) hSS.out ?_
      refine wpMix_take (.pointer (some ⟨w.heap.size + 1, 0, none⟩)) (fun _ _ _ _ h => h) hSS.out (by rfl) (fun W' hW' => by have k0 := blk_cell hW'.1 0; simp only [List.getElem?_toArray, List.getElem?_cons_zero] at k0; go_simp) ?_
      simp only [Act.put, List.setIfInBounds_toArray, List.set_cons_zero, List.set_cons_succ]
      refine wpMix_take (.pointer (some ⟨T, 3, none⟩)) (fun _ _ _ _ h => h) hSS.out (by rfl) (fun W' hW' => by go_simp) ?_
      simp only [Act.put, List.setIfInBounds_toArray, List.set_cons_zero, List.set_cons_succ]
      refine wpMix_take (.int .i64 (s : Nat)) (fun _ _ _ _ h => h) hSS.out (by rfl) (fun W' hW' => by have k0 := hW'.2.1; go_simp) ?_
      simp only [Act.put, List.setIfInBounds_toArray, List.set_cons_zero, List.set_cons_succ]
      refine wpMix_take (.pointer (some ⟨T, 11, none⟩)) (fun _ _ _ _ h => h) hSS.out (by rfl) (fun W' hW' => by go_simp) ?_
      simp only [Act.put, List.setIfInBounds_toArray, List.set_cons_zero, List.set_cons_succ]
      refine wpMix_take (.agg #[.int .i64 x.1.f.lab.till, x.1.av, .int .i64 x.1.f.lab.appr, .int .i64 x.1.f.lab.denied]) (fun _ _ _ _ h => h) hSS.out (by rfl) (fun W' hW' => by obtain ⟨_, _, k1, k2, k3, k4⟩ := hW'; go_simp) ?_
      simp only [Act.put, List.setIfInBounds_toArray, List.set_cons_zero, List.set_cons_succ]
      refine wpMix_step (fun K hK => ?_); go_simp; refine hK _ _ hSS.out ?_; clear hK K
      refine wpMix_step (fun K hK => ?_); go_simp; refine hK _ _ hSS.out ?_; clear hK K
      refine wpMix_step (fun K hK => ?_); go_simp; refine hK _ _ hSS.out ?_; clear hK K
      obtain ⟨dv, _, hdg⟩ := H6.out.1.row
      have l0 := hdg.cell (j := 131 + s * 4) (by omega)
      have l1 := hdg.cell (j := 131 + s * 4 + 1) (by omega)
      have l2 := hdg.cell (j := 131 + s * 4 + 2) (by omega)
      have l3 := hdg.cell (j := 131 + s * 4 + 3) (by omega)
      have f0 := hdg.frozen (131 + s * 4)
      have f1 := hdg.frozen (131 + s * 4 + 1)
      have f2 := hdg.frozen (131 + s * 4 + 2)
      have f3 := hdg.frozen (131 + s * 4 + 3)
      clear hdg
      refine wpMix_last (fun K hK => ?_)
      go_simp
      refine hK _ _ ?_
      clear hK K l0 l1 l2 l3 f0 f1 f2 f3
      refine wpMix_nil ?_
      obtain ⟨r1, q1⟩ := H6.out.1.setL (s := s) (q := 0) (by omega) (by omega) (.int .i64 x.1.f.lab.till)
      obtain ⟨r2, q2⟩ := r1.setL (s := s) (q := 1) (by omega) (by omega) x.1.av
      obtain ⟨r3, q3⟩ := r2.setL (s := s) (q := 2) (by omega) (by omega) (.int .i64 x.1.f.lab.appr)
      obtain ⟨r4, q4⟩ := r3.setL (s := s) (q := 3) (by omega) (by omega) (.int .i64 x.1.f.lab.denied)
      have r5 := r4.drew.congrL (L' := fun k q => if k = s then labCell x.1 q else labE (eL pre) k q) (fun k q hq => by
        by_cases e : k = s
        · subst e
          match q, hq with
          | 0, _ => simp [labCell]
          | 1, _ => simp [labCell]
          | 2, _ => simp [labCell]
          | 3, _ => simp [labCell]
        · simp [e])
      have H7 := Lib.hid (And.intro r5 ((((H6.out.2.1.trans q1).trans q2).trans q3).trans q4).drew)
      clear r1 r2 r3 r4 r5 q1 q2 q3 q4
      gi_wp2_with fail
      refine ⟨by rw [hsz]; exact H7.out.2.from_, H7.out.2.keep, ?_⟩
      show RIs w w.heap.size (eL (pre ++ [x])) _
      rw [show eL (pre ++ [x]) = eL pre ++ [x.1] by simp]
      exact RIs.of H7.out.1 (pubE_pub HKD.out HSt.out) (takE_other (by rw [HKD.out]; decide)) (labE_pub HKD.out HSt.out) (gRev_other (by rw [HKD.out]; decide)) (maskF_other (by rw [HKD.out]; decide))
    have b3 : (kd == 3) = false := by simpa using hk3
    by_cases hk6 : kd = 6
    · subst hk6
      obtain ⟨s, hst, hs1, hs64⟩ := good_story x.2.1 (.inr (.inr (.inr (.inr (.inr (.inl HKD.out))))))
      gi_wp2_with fail
      have c3 : W5.cell? ⟨T, 3, none⟩ = some (.int .i64 (s : Nat)) := by rw [← hst]; exact blk_cell H5.out.2.2 3
      have hSS := Lib.hid (And.intro H5.out.1.box c3)
      have HSt := Lib.hid hst
      have i0 : (0 : Int) ≤ (s : Nat) := by omega
      have i1 : ((s : Nat) : Int) < 65 := by omega
      clear c3 hst
      refine wpIn_mix [mT, mT, mT, mF, mF, mF, mL] 6 (fun W' => W'.heap[w.heap.size + 2]? = some (.cells #[.pointer (some ⟨w.heap.size + 1, 0, none⟩)] 63 (0, 0)) ∧ W'.cell? ⟨T, 3, none⟩ = some (.int .i64 (s : Nat))) (by kernel_rfl) (by kernel_rfl) (by kernel_rfl) (fun ⟨_, _, h⟩ => h) hSS.out ?_
      refine wpMix_take (.pointer (some ⟨w.heap.size + 1, 0, none⟩)) (fun _ _ _ _ h => h) hSS.out (by rfl) (fun W' hW' => by have k0 := blk_cell hW'.1 0; simp only [List.getElem?_toArray, List.getElem?_cons_zero] at k0; go_simp) ?_
      simp only [Act.put, List.setIfInBounds_toArray, List.set_cons_zero, List.set_cons_succ]
      refine wpMix_take (.pointer (some ⟨T, 3, none⟩)) (fun _ _ _ _ h => h) hSS.out (by rfl) (fun W' hW' => by go_simp) ?_
      simp only [Act.put, List.setIfInBounds_toArray, List.set_cons_zero, List.set_cons_succ]
      refine wpMix_take (.int .i64 (s : Nat)) (fun _ _ _ _ h => h) hSS.out (by rfl) (fun W' hW' => by have k0 := hW'.2; go_simp) ?_
      simp only [Act.put, List.setIfInBounds_toArray, List.set_cons_zero, List.set_cons_succ]
      refine wpMix_step (fun K hK => ?_); go_simp; refine hK _ _ hSS.out ?_; clear hK K
      refine wpMix_step (fun K hK => ?_); go_simp; refine hK _ _ hSS.out ?_; clear hK K
      refine wpMix_step (fun K hK => ?_); go_simp; refine hK _ _ hSS.out ?_; clear hK K
      obtain ⟨dv, _, hdg⟩ := H5.out.1.row
      have k1 := hdg.cell (j := 66 + s) (by omega)
      have k2 := hdg.frozen (66 + s)
      rw [dc_t (by omega)] at k1
      clear hdg
      refine wpMix_last (fun K hK => ?_)
      go_simp
      refine hK _ _ ?_
      clear hK K k1 k2
      refine wpMix_nil ?_
      gi_wp2_with fail
      obtain ⟨r1, r2⟩ := H5.out.1.setT (s := s) (by omega) true
      have hch := (H5.out.2.1.trans r2).drew
      refine ⟨by rw [hsz]; exact hch.from_, hch.keep, ?_⟩
      show RIs w w.heap.size (eL (pre ++ [x])) _
      rw [show eL (pre ++ [x]) = eL pre ++ [x.1] by simp]
      exact RIs.of r1.drew (pubE_other (by rw [HKD.out]; decide)) (takE_take HKD.out HSt.out) (labE_other (by rw [HKD.out]; decide)) (gRev_other (by rw [HKD.out]; decide)) (maskF_other (by rw [HKD.out]; decide))
    have b6 : (kd == 6) = false := by simpa using hk6
    gi_wp2_with fail
    have hch := H5.out.2.1
    refine ⟨by rw [hsz]; exact hch.from_, hch.keep, ?_⟩
    show RIs w w.heap.size (eL (pre ++ [x])) _
    rw [show eL (pre ++ [x]) = eL pre ++ [x.1] by simp]
    exact RIs.of H5.out.1 (pubE_other (by rw [HKD.out]; exact hk3)) (takE_other (by rw [HKD.out]; exact hk6)) (labE_other (by rw [HKD.out]; exact hk3)) (gRev_other (by rw [HKD.out]; exact hk1)) (maskF_other (by rw [HKD.out]; exact hk2))
  case done =>
    rintro D ys W hD rfl hI hK
    have heL : eL ys = goodE es := HX.out
    rw [heL] at hI
    obtain ⟨rv, hrow, hdig⟩ := hI.row
    have hed := hI.ed
    have hbox := hI.box
    have HI := Lib.hid hI
    have HR := Lib.hid hrow
    have HD := Lib.hid hdig
    have HK := Lib.hid hK
    have hDN : w.heap.size + 5 ≤ D := by omega
    obtain ⟨AR, hAR⟩ : ∃ AR : Array Value, AR = Array.ofFn (n := 65) fun i => (fun k => Value.int .u64 (maskF (goodE es) k : Nat)) i.1 := ⟨_, rfl⟩
    unfold Tab at hed
    rw [← hAR] at hed
    have hAS : Hid (AR.size = 65) := Lib.hid (by rw [hAR]; simp)
    have hAG : Hid (∀ k, k < 65 → AR[k]? = some (.int .u64 (maskF (goodE es) k : Nat))) := Lib.hid (fun k hk => by rw [hAR, Array.getElem?_eq_getElem (by simpa using hk), Array.getElem_ofFn])
    have hED := Lib.hid hed
    clear hAR hed hI hrow hdig hK heL
    gi_wp2_with ((with_reducible refine gi_at_eload _ rfl ?_); go_must (refine wpListIn_ed_load (by rfl) _ rfl (w.heap.size + 3) (by simp [Act.eval]) hED.out hAS.out ?_))
    gi_loopw [76] (fun i wr => ∃ k : Nat, k ≤ 65 ∧ i = .int .i64 k ∧ Tab wr (w.heap.size + 1) 457 84 (dc rv (pubE (goodE es)) (takE (goodE es)) (labE (goodE es)) (fun j => if j < k then apprF ((goodE es).map FctE.f) (j : Nat) else 0) (.map (some w.heap.size))) ∧ Upd (fun b => b = w.heap.size + 1) W wr) (fun i _ => 65 - (intOf i).toNat)
    case atStart => exact ⟨0, by omega, rfl, HD.out.congr fun i _ => by simp, Upd.refl _ _⟩
    case round =>
      obtain ⟨k, hk, rfl, ht, hu⟩ := hrel
      have hbk := (hu.block (w.heap.size + 2) (by have := HI.out.sz; omega) (by omega)).trans HI.out.box
      have b0 := blk_cell hbk 0
      simp only [List.getElem?_toArray, List.getElem?_cons_zero] at b0
      by_cases hlt : k < 65
      · have hk0 : (0 : Int) ≤ (k : Nat) := by omega
        have hk1 : ((k : Nat) : Int) < 65 := by omega
        have hA := run_ed_index (W := wr) hlt (hAG.out k hlt)
        have d0 := ht.cell (j := 391 + k) (by omega)
        have fd := ht.frozen (391 + k)
        rw [dc_a hlt] at d0
        have HC : Hid (((cntN (maskF (goodE es) k) : Nat) : Int) = apprF ((goodE es).map FctE.f) (k : Nat)) := Lib.hid (cnt_appr (goodE es) k)
        have c1 := fun W => ones_any (maskF (goodE es) k) (mask5_lt _ _ _ _ _) W
        generalize maskF (goodE es) k = m at hA c1 HC
        generalize cntN m = c at c1 HC
        have HT := Lib.hid (And.intro ht hu)
        have HF := Lib.hid (And.intro b0 (And.intro d0 fd))
        clear ht hu b0 d0 fd hbk
        gi_wp2_with fail
        clear hA
        obtain ⟨b0, d0, fd⟩ := HF.out
        refine wpIn_wide.2 ?_
        refine wp_tail 7 (by kernel_rfl) (by kernel_rfl) ?_
        simp only [List.take_succ_cons, List.take_zero, List.drop_succ_cons, List.drop_zero]
        iterate 3 still_step
        still_call ((c1 _).mono fun _ _ ⟨h1, h2⟩ => ⟨h1, h2.symm⟩)
        iterate 3 still_step
        refine wpStill_nil ?_
        go_wp2_with fail
        gi_wp2_with fail
        go_roundw
        case rel =>
          refine ⟨k + 1, by omega, by go_num, (HT.out.1.set (391 + k) (.int .i64 (c : Nat))).congr fun i _ => ?_, (HT.out.2.trans (upd_cell wr (w.heap.size + 1) (391 + k) _) (fun i e => .inl e)).drew⟩
          rw [dc_setA hlt]
          congr 1
          funext j
          by_cases e : j = k
          · subst e
            rw [if_pos rfl, if_pos (by omega), HC.out]
          · rw [if_neg e]
            by_cases e2 : j < k
            · rw [if_pos e2, if_pos (by omega)]
            · rw [if_neg e2, if_neg (by omega)]
        case measure => simp [intOf]; omega
      · have e : k = 65 := by omega
        subst e
        have hKw := (hu.block D (Array.getElem?_eq_some_iff.1 HK.out).1 (by omega)).trans HK.out
        have HT := Lib.hid (And.intro ht hu)
        have HKw := Lib.hid hKw
        clear ht hu hbk hKw
        gi_wp2_with fail
        refine ⟨by simp, .inl ⟨_, _, rfl, run_takeDeferred HKw.out, ?_⟩⟩
        refine ⟨_, results_tmp rfl _ _ _, w.heap.size + 1, rfl, by omega, ?_, ?_⟩
        · have hh : ∀ k, k < W.heap.size → k ≠ w.heap.size + 1 → k ≠ D → (wr.putObj D (.deferred none)).heap[k]? = W.heap[k]? := fun k h1 h2 h3 => (World.putObj_heap_other h3).trans (HT.out.2.block k h1 h2)
          obtain ⟨n, _, hm⟩ := HI.out.map
          refine ⟨rv, w.heap.size, n, HR.out.same fun k hk => hh k (HR.out.ge k hk).2 (by have := (HR.out.ge k hk).1; omega) (fun e => ?_), hm.of_block (hh _ hm.lt (by omega) (by omega)), (HT.out.1.block (World.putObj_heap_other (by omega))).congr fun i hi => ?_⟩
          · obtain ⟨cs, hc⟩ := HR.out.blk k hk
            rw [e, HK.out] at hc
            injection hc with hc
            cases hc
          · unfold dc
            repeat' split
            all_goals first | (exfalso; omega) | (dsimp only; rw [if_pos (by omega)]; done) | rfl
        · exact (HI.out.bel.trans (HT.out.2.below (fun k e => by omega) (by have := HI.out.sz; omega))).trans (belowK_b (w := w) (Nat.le_refl _) wr D _ _ (by omega) HKw.out rfl rfl)
  case stop =>
    rintro D c pre W _ _ h _
    exact h.elim
theorem read_any {mem : Addr → Option Value} (v : Value) (es : List FctE) (hes : EsM mem v es) (ht : ∀ e ∈ es, Tidy e.f) (hlen : es.length ≤ 1000) (w : World) (hs : Sees mem w) (hmem : ∀ a u, mem a = some u → a.block < w.heap.size) :
    Calls Tryz.prog 31 #[v] w (ReadPost (goodE es) w) := callsIn_wide.1 (read_wide v es hes ht hlen w hs hmem)
end Go.Proofs.YtgbihmafmmeicaaGreatDoor
namespace Go.Proofs.YtgbihmafmmeicaaGreatDoor
open Go.RowKit Mg Go.Shelf

def inT (L : List Int) (k : Nat) : Value := .bool (decide ((k : Int) ∈ L))
def lenOf : Value → Nat
  | .slice _ n _ => n
  | _ => 0
def boolN : Value → Nat
  | .bool true => 1
  | _ => 0
def outM (v g : Value) : Nat := (65 - lenOf v) + boolN g
theorem zero80 : Tryz.zeroCells80 = Array.ofFn (n := 65) fun i => inT [] i.1 := by
  rw [← range_ofFn 65 (inT [])]
  kernel_rfl
theorem inT_add {L : List Int} {k : Nat} (i : Nat) : (if i = k then Value.bool true else inT L i) = inT (L ++ [(k : Int)]) i := by
  unfold inT
  by_cases e : i = k
  · subst e; simp
  · rw [if_neg e]
    have : ((i : Int) ∈ L ++ [(k : Int)]) ↔ ((i : Int) ∈ L) := by simp; omega
    simp only [this]
def OutPost (D : Dig) (cls now : Int) (w : World) (e : Ending) (w' : World) : Prop := ∃ v L, e = .returned v ∧ IRow w' w.heap.size v L ∧ OutIs D cls now L ∧ Below w.heap.size w w'
structure OutI (D : Dig) (cls now : Int) (w : World) (v : Value) (L : List Int) (wr : World) : Prop where
  row : IRow wr (w.heap.size + 1) v L
  tab : Tab wr w.heap.size 65 80 (inT L)
  bel : Below w.heap.size w wr
  found : Mg.Found D cls now L
theorem OutI.below {D : Dig} {cls now : Int} {w wr w' : World} {v : Value} {L : List Int} (h : OutI D cls now w v L wr) (hb : Below wr.heap.size wr w') : OutI D cls now w v L w' :=
  ⟨h.row.bel hb, h.tab.block (hb.block _ h.tab.lt), h.bel.trans (hb.mono h.bel.size), h.found⟩
theorem OutI.more {D : Dig} {cls now : Int} {w wr w2 : World} {v v2 : Value} {L : List Int} {k : Nat} {ob : Obj} (h : OutI D cls now w v L wr) (h2 : IRow w2 (w.heap.size + 1) v2 (L ++ [(k : Int)])) (hg : (wr.alloc ob).grownBy w2 v.ownBlock) (h1 : 1 ≤ k) (h64 : k ≤ 64) (hn : (k : Int) ∉ L) (hgo : D.goes cls now L k = true) :
    OutI D cls now w v2 (L ++ [(k : Int)]) (w2.setCell ⟨w.heap.size, k, none⟩ (.bool true)) := by
  have hu : Upd (fun b => v.ownBlock = some b) wr w2 := ((Upd.refl _ wr).alloc ob).grown hg (fun b e => .inl e)
  have hge := h.row.ge
  have hlt := h.tab.lt
  have hu2 := upd_cell w2 w.heap.size k (.bool true)
  have ht : Tab w2 w.heap.size 65 80 (inT L) := h.tab.block (hu.block _ hlt (fun e => by have := hge _ e; omega))
  have hz := hu.size
  refine ⟨h2.kept hu2 (fun b hb e => by have := h2.ge b hb; omega), (ht.set k (.bool true)).congr fun i _ => inT_add i, h.bel.trans ((hu.below (fun b e => by have := hge b e; omega) (by omega)).trans (hu2.below (fun b e => by omega) (by omega))), h.found.more (by omega) (by omega) hn hgo⟩

theorem OutI.tab_app {D : Dig} {cls now : Int} {w wr w2 : World} {v : Value} {L : List Int} {ob : Obj} (h : OutI D cls now w v L wr) (hg : (wr.alloc ob).grownBy w2 v.ownBlock) : Tab w2 w.heap.size 65 80 (inT L) := by
  have hu : Upd (fun b => v.ownBlock = some b) wr w2 := ((Upd.refl _ wr).alloc ob).grown hg (fun b e => .inl e)
  exact h.tab.block (hu.block _ h.tab.lt (fun e => by have := h.row.ge _ e; omega))
set_option maxRecDepth 100000 in
set_option maxHeartbeats 4000000 in
theorem digOut_any {mem : Addr → Option Value} {B d : Nat} {gs : List FctE} (cls now : Int) (w : World) (hD : DigAt w B d gs) (hok : ∀ e ∈ gs, e.ok mem) (hs : Sees mem w) :
    Calls Tryz.prog 32 #[.pointer (some ⟨d, 0, none⟩), .int .i64 cls, .int .i64 now] w (OutPost (digF (gs.map FctE.f)) cls now w) := by
  have HD := Lib.hid hD
  have HOK := Lib.hid hok
  have HS := Lib.hid hs
  obtain ⟨DG, hDG⟩ : ∃ DG, DG = digF (gs.map FctE.f) := ⟨_, rfl⟩
  rw [← hDG]
  have HDG := Lib.hid hDG
  have h0 : Hid (OutI DG cls now w (.slice none 0 0) [] (w.alloc (.cells Tryz.zeroCells80 80))) := Lib.hid ⟨World.ownsRow_nil _ _ _ _, by unfold Tab; rw [World.alloc_heap_new, zero80], (Below.refl _ w).alloc (Nat.le_refl _) _, Mg.Found.nil _ _ _⟩
  clear hD hok hs hDG
  go_enter Tryz.func32, Tryz.ntmps32
  go_wp2_with fail
  go_loopw [7, 9] (fun v g wr => ∃ (L : List Int) (b : Bool), g = .bool b ∧ OutI DG cls now w v L wr ∧ (b = false → DG.Closed cls now L)) (fun v g _ => outM v g)
  case atStart => exact ⟨[], true, rfl, h0.out, fun e => by cases e⟩
  case round =>
    obtain ⟨L, b, rfl, hI, hcl⟩ := hrel
    have HI := Lib.hid hI
    have HC := Lib.hid hcl
    obtain ⟨ao, cap, rfl⟩ := hI.row.shape
    clear hI hcl
    cases b
    · go_wp2_with fail
      refine (sort_row (h := HI.out.row) (by have := HI.out.found.length; omega)).mono ?_
      rintro e w2 ⟨rfl, hr, hg⟩
      have hge := HI.out.row.ge
      have hb2 : Below w.heap.size wr w2 := (Below.refl _ wr).grown hg HI.out.bel.size (fun k e => by have := hge k e; omega)
      have HF : Hid (OutPost DG cls now w (.returned (.slice ao L.length cap)) w2) := Lib.hid ⟨_, sortL L, rfl, ⟨by have := hr.1; first | exact this | omega, hr.2.imp id (fun ⟨g, cp, cur, h1, h2, h3⟩ => ⟨g, cp, cur, h1, by omega, h3⟩)⟩, HI.out.found.out (HC.out (by trivial)) (sortL_up HI.out.found.nodup) (fun s => sortL_mem s), HI.out.bel.trans hb2⟩
      clear hr hg hge hb2
      go_wp2_with fail
      go_ret
      exact HF.out
    · go_wp2_with fail
      go_loopw [10, 9, 7] (fun i g v wr => ∃ (k : Nat) (L1 : List Int), 1 ≤ k ∧ k ≤ 65 ∧ i = .int .i64 k ∧ g = .bool (decide (L.length < L1.length)) ∧ OutI DG cls now w v L1 wr ∧ Seen DG cls now L L1 k) (fun i _ _ _ => 65 - (intOf i).toNat)
      case atStart => exact ⟨1, L, by omega, by omega, rfl, by simp, HI.out, Seen.start _ _ _ _⟩
      case round =>
        obtain ⟨k, L1, h1, hk, rfl, rfl, hI1, hS1⟩ := hrel
        by_cases hlt : k < 65
        · have HI1 := Lib.hid hI1
          have HS1 := Lib.hid hS1
          obtain ⟨ao1, cap1, rfl⟩ := hI1.row.shape
          have hk0 : (0 : Int) ≤ (k : Nat) := by omega
          have hk1 : ((k : Nat) : Int) < 65 := by omega
          have hk2 : ((k : Nat) : Int) ≤ 64 := by omega
          have hDr := HD.out.bel (hI1.bel)
          have p0 := hDr.pub (k := k) (by omega)
          rw [← HDG.out] at p0
          have t0 := hI1.tab.cell (j := k) (by omega)
          unfold inT at t0
          have HDr := Lib.hid hDr
          clear hI1 hS1 hDr
          cases hp : DG.pub (k : Nat) with
          | false =>
            rw [hp] at p0
            have HP := Lib.hid hp
            clear hp
            go_wp2_with fail
            go_roundw
            case rel => exact ⟨k + 1, L1, by omega, by omega, by go_num, rfl, HI1.out, HS1.out.skip (fun e => by rw [goes_no HP.out] at e; cases e)⟩
            case measure => simp [intOf]; omega
          | true =>
            rw [hp] at p0
            have HP := Lib.hid hp
            clear hp
            by_cases hin : (k : Int) ∈ L1
            · rw [decide_eq_true hin] at t0
              have HIN := Lib.hid hin
              clear hin
              go_wp2_with fail
              go_roundw
              case rel => exact ⟨k + 1, L1, by omega, by omega, by go_num, rfl, HI1.out, HS1.out.skip (fun _ => HIN.out)⟩
              case measure => simp [intOf]; omega
            · rw [decide_eq_false hin] at t0
              have HIN := Lib.hid hin
              clear hin
              have hp2 : (digF (gs.map FctE.f)).pub (k : Nat) = true := by rw [← HDG.out]; exact HP.out
              obtain ⟨e, he, hlb, l0, l1, l2, l3⟩ := HDr.out.lab (k := k) (by omega) hp2
              have l4 := HDr.out.app (k := k) (by omega)
              have hse : Sees mem wr := HS.out.bel HI1.out.bel
              have HCA : Hid (∀ W, Sees (fun a => wr.cell? a) W → Calls Tryz.prog 54 #[.agg #[.int .i64 e.f.lab.till, e.av, .int .i64 e.f.lab.appr, .int .i64 e.f.lab.denied], .int .i64 cls, .int .i64 now, .slice ao1 L1.length cap1, .int .i64 (apprF (gs.map FctE.f) (k : Nat))] W fun r w' => r = .returned (.bool (DG.goes cls now L1 (k : Nat))) ∧ Below W.heap.size W w') := Lib.hid fun W hW => by
                have h := lallows_any e.f.lab e.av (((HOK.out e he).parts.2.2).mono (fun a u h => hse a u h)) cls now (.slice ao1 L1.length cap1) L1 HI1.out.row.ints (apprF (gs.map FctE.f) (k : Nat)) W hW
                rw [goes_yes HP.out, HDG.out, hlb]
                exact h
              generalize hq : DG.goes cls now L1 (k : Nat) = q at HCA
              have HQ := Lib.hid hq
              clear hq hp2 he hlb hse
              generalize apprF (gs.map FctE.f) (k : Nat) = ap at l4 HCA
              go_wp2_with fail
              refine wp_tail 15 (by kernel_rfl) (by kernel_rfl) ?_
              simp only [List.take_succ_cons, List.take_zero, List.drop_succ_cons, List.drop_zero]
              iterate 15 still_step
              refine wpStill_nil ?_
              clear p0 t0 l0 l1 l2 l3 l4
              go_wp2_with fail
              refine (HCA.out wr.drew (fun a u h => h)).mono ?_
              rintro r w3 ⟨rfl, hb⟩
              have HI3 := Lib.hid ((HI1.out.below ((Below.refl _ wr).drew)).below hb)
              clear hb
              cases q
              · go_wp2_with fail
                go_roundw
                case rel => exact ⟨k + 1, L1, by omega, by omega, by go_num, rfl, HI3.out, HS1.out.skip (fun e => by rw [HQ.out] at e; cases e)⟩
                case measure => simp [intOf]; omega
              · have hll : L1.length ≤ 100000 := by have := HI1.out.found.length; omega
                have hsz3 : w.heap.size + 1 ≤ w3.heap.size := by have := HI3.out.tab.lt; omega
                go_wp2_with (at_builtin; go_must (refine wpList_app_int rfl _ _ rfl (w.heap.size + 1) _ _ rfl (IRow.alloc HI3.out.row _) ((k : Nat) : Int) w3.heap.size 1 rfl (cell_new rfl rfl) hll (by simp; omega) ?_); intro v2 w2 h2 hg2 _; have HM := Lib.hid (HI3.out.more h2 hg2 h1 (by omega) HIN.out HQ.out); have t2 := (HI3.out.tab_app hg2).cell (j := k) (by omega); have f2 := (HI3.out.tab_app hg2).frozen k; clear h2 hg2)
                go_roundw
                case rel => exact ⟨k + 1, L1 ++ [((k : Nat) : Int)], by omega, by omega, by go_num, by rw [decide_eq_true (by rw [List.length_append]; have := HS1.out.1; simp; omega)], HM.out, HS1.out.add _ _⟩
                case measure => simp [intOf]; omega
        · have e : k = 65 := by omega
          subst e
          have HI1 := Lib.hid hI1
          have HS1 := Lib.hid hS1
          obtain ⟨ao1, cap1, rfl⟩ := hI1.row.shape
          clear hI1 hS1
          go_wp2_with fail
          refine ⟨⟨L1, decide (L.length < L1.length), rfl, HI1.out, fun e => HS1.out.done ?_⟩, ?_⟩
          · have h1 := HS1.out.1
            have h2 := of_decide_eq_false e
            omega
          · have h1 := HS1.out.1
            have h2 := HI1.out.found.length
            unfold outM lenOf
            by_cases e : L.length < L1.length
            · rw [decide_eq_true e]
              simp only [boolN]
              omega
            · rw [decide_eq_false e]
              simp only [boolN]
              omega
theorem access_out_any {mem : Addr → Option Value} (v : Value) (es : List FctE) (hes : EsM mem v es) (ht : ∀ e ∈ es, Tidy e.f) (hlen : es.length ≤ 1000) (cls now : Int) (w : World) (hs : Sees mem w) (hmem : ∀ a u, mem a = some u → a.block < w.heap.size) :
    Calls Tryz.prog 14 #[v, .int .i64 cls, .int .i64 now] w (OutPost (digF ((es.map FctE.f).filter validF)) cls now w) := by
  have hsl : ∃ ao n cap, v = .slice ao n cap := by
    obtain ⟨_, _, ⟨_, ao, cap, rfl, _⟩, _⟩ := hes
    exact ⟨_, _, _, rfl⟩
  have c1 := Lib.hid (read_any v es hes ht hlen w hs hmem)
  have HOK : Hid (∀ e ∈ goodE es, e.ok mem) := Lib.hid (fun e he => by
    obtain ⟨b, o, _, h⟩ := hes
    obtain ⟨j, hj, rfl⟩ := List.getElem_of_mem (List.mem_filter.1 he).1
    exact (h j hj).1)
  rw [← goodE_map]
  have HS := Lib.hid hs
  obtain ⟨ao, n, cap, rfl⟩ := hsl
  clear hes ht hs hmem hlen
  go_enter Tryz.func14, Tryz.ntmps14
  go_wp2_with fail
  refine c1.out.mono ?_
  rintro e w1 ⟨d, rfl, _, hD, hb⟩
  have HD := Lib.hid hD
  have HB := Lib.hid hb
  clear hD hb
  go_wp2_with fail
  refine (digOut_any cls now w1 HD.out HOK.out (HS.out.bel HB.out)).mono ?_
  rintro e w2 ⟨v2, L, rfl, hr, ho, hb2⟩
  obtain ⟨a2, n2, c2, rfl⟩ := hr.sl
  have HP : Hid (OutPost (digF ((goodE es).map FctE.f)) cls now w (.returned (.slice a2 n2 c2)) w2) := Lib.hid ⟨_, L, rfl, ⟨hr.1, hr.2.imp id (fun ⟨g, cp, cur, h1, h2, h3⟩ => ⟨g, cp, cur, h1, Nat.le_trans HB.out.size h2, h3⟩)⟩, ho, HB.out.trans (hb2.mono HB.out.size)⟩
  clear hr ho hb2
  go_wp2_with fail
  go_ret
  exact HP.out
end Go.Proofs.YtgbihmafmmeicaaGreatDoor
namespace Go.Proofs.YtgbihmafmmeicaaGreatDoor
open Go.RowKit Mg Go.Shelf

structure OpenM (W : World) (io db cb nb ob d B : Nat) (gs : List FctE) (cls now : Int) (ov : Value) (out : List Int) : Prop where
  tab : Tab W io 65 80 (inT out)
  dg : W.heap[db]? = some (.cells #[.pointer (some ⟨d, 0, none⟩)] 63 (0, 0))
  cl : W.heap[cb]? = some (.cells #[.int .i64 cls] 3 (0, 0))
  nw : W.heap[nb]? = some (.cells #[.int .i64 now] 3 (0, 0))
  ou : W.heap[ob]? = some (.cells #[ov] 30 (0, 0))
  dig : DigAt W B d gs
  row : IntsM (fun a => W.cell? a) ov out
theorem hlt {W : World} {g : Nat} {o : Obj} (h : W.heap[g]? = some o) : g < W.heap.size := (Array.getElem?_eq_some_iff.1 h).1
theorem sees_bel {W W' : World} (hb : Below W.heap.size W W') : ∀ a u, W.cell? a = some u → W'.cell? a = some u := fun a _ h => (hb.cell (World.block_lt_of_cell? W a h)).trans h
section
variable {W W' : World} {io db cb nb ob d B : Nat} {gs : List FctE} {cls now : Int} {ov : Value} {out : List Int}
theorem OpenM.bel (h : OpenM W io db cb nb ob d B gs cls now ov out) (hb : Below W.heap.size W W') : OpenM W' io db cb nb ob d B gs cls now ov out :=
  ⟨h.tab.block (hb.block _ h.tab.lt), (hb.block _ (hlt h.dg)).trans h.dg, (hb.block _ (hlt h.cl)).trans h.cl, (hb.block _ (hlt h.nw)).trans h.nw, (hb.block _ (hlt h.ou)).trans h.ou, h.dig.bel hb, h.row.mono (sees_bel hb)⟩
end
def sceneOf (gs : List FctE) (cls now : Int) (out : List Int) : Scn := ⟨gs.map FctE.f, cls, now, out⟩

set_option maxRecDepth 100000 in
set_option maxHeartbeats 2000000 in
theorem open_any {W : World} {io db cb nb ob d B : Nat} {gs : List FctE} {cls now : Int} {ov : Value} {out : List Int} (h : OpenM W io db cb nb ob d B gs cls now ov out) (s : Nat) (hs : s < 65) (x : Lab) (av : Value) (hi : IntsM (fun a => W.cell? a) av x.after) :
    Calls Tryz.prog 57 #[.int .i64 (s : Nat), .agg (labCells x av), .pointer (some ⟨io, 0, none⟩), .pointer (some ⟨db, 0, none⟩), .pointer (some ⟨cb, 0, none⟩), .pointer (some ⟨nb, 0, none⟩), .pointer (some ⟨ob, 0, none⟩)] W fun e w' => e = .returned (.bool ((sceneOf gs cls now out).isOpen (s : Nat) x)) ∧ Below W.heap.size W w' := by
  obtain ⟨aa, ac, rfl⟩ := hi.slice
  obtain ⟨oa, oc, rfl⟩ := h.row.slice
  have HI := Lib.hid hi
  have HB0 : Hid (Below W.heap.size W (W.alloc (.cells (labCells x (.slice aa x.after.length ac)) 34))) := Lib.hid ((Below.refl _ W).alloc (Nat.le_refl _) _)
  have H1 := Lib.hid (h.bel HB0.out)
  have HI1 : Hid (IntsM (fun a => (W.alloc (.cells (labCells x (.slice aa x.after.length ac)) 34)).cell? a) (.slice aa x.after.length ac) x.after) := Lib.hid (hi.mono (sees_bel HB0.out))
  have hL : (W.alloc (.cells (labCells x (.slice aa x.after.length ac)) 34)).heap[W.heap.size]? = some (.cells (labCells x (.slice aa x.after.length ac)) 34 (0, 0)) := World.alloc_heap_new W _
  have HQ : Hid ((sceneOf gs cls now out).isOpen (s : Nat) x = (decide (((s : Nat) : Int) ∈ out) && !takenF (gs.map FctE.f) (s : Nat) && allows x cls now out (apprF (gs.map FctE.f) (s : Nat)))) := Lib.hid rfl
  have hs0 : (0 : Int) ≤ (s : Nat) := by omega
  have hs1 : ((s : Nat) : Int) < 65 := by omega
  have k0 := H1.out.tab.cell (j := s) (by omega)
  have k1 := blk_cell H1.out.dg 0
  have k2 := blk_cell H1.out.cl 0
  have k3 := blk_cell H1.out.nw 0
  have k4 := blk_cell H1.out.ou 0
  have k5 := H1.out.dig.tak (k := s) hs
  have k6 := H1.out.dig.app (k := s) hs
  have l0 := blk_cell hL 0
  have l1 := blk_cell hL 1
  have l2 := blk_cell hL 2
  have l3 := blk_cell hL 3
  simp only [labCells, List.getElem?_toArray, List.getElem?_cons_zero, List.getElem?_cons_succ] at k1 k2 k3 k4 l0 l1 l2 l3
  unfold inT at k0
  have HCA : Hid (∀ W2, Sees (fun a => (W.alloc (.cells (labCells x (.slice aa x.after.length ac)) 34)).cell? a) W2 → Calls Tryz.prog 54 #[.agg #[.int .i64 x.till, .slice aa x.after.length ac, .int .i64 x.appr, .int .i64 x.denied], .int .i64 cls, .int .i64 now, .slice oa out.length oc, .int .i64 (apprF (gs.map FctE.f) (s : Nat))] W2 fun r w' => r = .returned (.bool (allows x cls now out (apprF (gs.map FctE.f) (s : Nat)))) ∧ Below W2.heap.size W2 w') := Lib.hid fun W2 hW =>
    lallows_any x (.slice aa x.after.length ac) HI1.out cls now (.slice oa out.length oc) out H1.out.row (apprF (gs.map FctE.f) (s : Nat)) W2 hW
  generalize allows x cls now out (apprF (gs.map FctE.f) (s : Nat)) = qa at *
  generalize takenF (gs.map FctE.f) (s : Nat) = qt at *
  generalize decide (((s : Nat) : Int) ∈ out) = qi at *
  generalize apprF (gs.map FctE.f) (s : Nat) = ap at *
  clear h hi HI
  obtain ⟨x1, x2, x3, x4⟩ := x
  simp only [labCells] at *
  have HK := Lib.hid (And.intro k0 (And.intro k1 (And.intro k2 (And.intro k3 (And.intro k4 (And.intro k5 (And.intro k6 (And.intro l0 (And.intro l1 (And.intro l2 l3))))))))))
  clear k0 k1 k2 k3 k4 k5 k6 l0 l1 l2 l3 hL
  go_enter Tryz.func57, Tryz.ntmps57
  go_wp2_with fail
  generalize hW1 : World.alloc W _ = W1
  rw [hW1] at HK HCA HB0
  clear hW1 H1 HI1
  obtain ⟨k0, k1, k2, k3, k4, k5, k6, l0, l1, l2, l3⟩ := HK.out
  cases qi
  · have HS := Lib.hid (And.intro k0 (And.intro k1 (And.intro k2 (And.intro k3 (And.intro k4 (And.intro k5 (And.intro k6 (And.intro l0 (And.intro l1 (And.intro l2 l3))))))))))
    clear k0 k1 k2 k3 k4 k5 k6 l0 l1 l2 l3
    refine wp_mix [mT, mT, mT, mT, mT, mT, mT, mT, mT, mT, mT, mT, mT, mT, mT, mT, mT, mT, mT, mT, mT, mT, mT, mF, mF, mF] 1000 (fun W2 => W2.cell? ⟨io, s, none⟩ = some (.bool false) ∧ W2.cell? ⟨db, 0, none⟩ = some (.pointer (some ⟨d, 0, none⟩)) ∧ W2.cell? ⟨cb, 0, none⟩ = some (.int .i64 cls) ∧ W2.cell? ⟨nb, 0, none⟩ = some (.int .i64 now) ∧ W2.cell? ⟨ob, 0, none⟩ = some (.slice oa out.length oc) ∧ W2.cell? ⟨d, 66 + s, none⟩ = some (.bool qt) ∧ W2.cell? ⟨d, 391 + s, none⟩ = some (.int .i64 ap) ∧ W2.cell? ⟨W.heap.size, 0, none⟩ = some (.int .i64 x1) ∧ W2.cell? ⟨W.heap.size, 1, none⟩ = some (.slice aa x2.length ac) ∧ W2.cell? ⟨W.heap.size, 2, none⟩ = some (.int .i64 x3) ∧ W2.cell? ⟨W.heap.size, 3, none⟩ = some (.int .i64 x4)) (by kernel_rfl) (by kernel_rfl) HS.out ?_
    refine wpMix_take (.int .i64 (s : Nat)) (fun _ _ _ _ h => h) HS.out (by rfl) (fun W2 hW => by go_simp) ?_
    simp only [Act.put, List.setIfInBounds_toArray, List.set_cons_zero, List.set_cons_succ]
    refine wpMix_take (.pointer (some ⟨io, s, none⟩)) (fun _ _ _ _ h => h) HS.out (by rfl) (fun W2 hW => by go_simp) ?_
    simp only [Act.put, List.setIfInBounds_toArray, List.set_cons_zero, List.set_cons_succ]
    refine wpMix_take (.bool false) (fun _ _ _ _ h => h) HS.out (by rfl) (fun W2 hW => by have q0 := hW.1; go_simp) ?_
    simp only [Act.put, List.setIfInBounds_toArray, List.set_cons_zero, List.set_cons_succ]
    refine wpMix_take (.bool false) (fun _ _ _ _ h => h) HS.out (by rfl) (fun W2 hW => by go_simp) ?_
    simp only [Act.put, List.setIfInBounds_toArray, List.set_cons_zero, List.set_cons_succ]
    refine wpMix_skip (fun _ _ _ _ h => h) HS.out (by rfl) ?_
    simp only [Act.put, List.setIfInBounds_toArray, List.set_cons_zero, List.set_cons_succ]
    refine wpMix_skip (fun _ _ _ _ h => h) HS.out (by rfl) ?_
    simp only [Act.put, List.setIfInBounds_toArray, List.set_cons_zero, List.set_cons_succ]
    refine wpMix_skip (fun _ _ _ _ h => h) HS.out (by rfl) ?_
    simp only [Act.put, List.setIfInBounds_toArray, List.set_cons_zero, List.set_cons_succ]
    refine wpMix_skip (fun _ _ _ _ h => h) HS.out (by rfl) ?_
    simp only [Act.put, List.setIfInBounds_toArray, List.set_cons_zero, List.set_cons_succ]
    refine wpMix_skip (fun _ _ _ _ h => h) HS.out (by rfl) ?_
    simp only [Act.put, List.setIfInBounds_toArray, List.set_cons_zero, List.set_cons_succ]
    refine wpMix_skip (fun _ _ _ _ h => h) HS.out (by rfl) ?_
    simp only [Act.put, List.setIfInBounds_toArray, List.set_cons_zero, List.set_cons_succ]
    refine wpMix_skip (fun _ _ _ _ h => h) HS.out (by rfl) ?_
    simp only [Act.put, List.setIfInBounds_toArray, List.set_cons_zero, List.set_cons_succ]
    refine wpMix_take (.bool false) (fun _ _ _ _ h => h) HS.out (by rfl) (fun W2 hW => by go_simp) ?_
    simp only [Act.put, List.setIfInBounds_toArray, List.set_cons_zero, List.set_cons_succ]
    refine wpMix_take (.bool false) (fun _ _ _ _ h => h) HS.out (by rfl) (fun W2 hW => by go_simp) ?_
    simp only [Act.put, List.setIfInBounds_toArray, List.set_cons_zero, List.set_cons_succ]
    refine wpMix_skip (fun _ _ _ _ h => h) HS.out (by rfl) ?_
    simp only [Act.put, List.setIfInBounds_toArray, List.set_cons_zero, List.set_cons_succ]
    refine wpMix_skip (fun _ _ _ _ h => h) HS.out (by rfl) ?_
    simp only [Act.put, List.setIfInBounds_toArray, List.set_cons_zero, List.set_cons_succ]
    refine wpMix_skip (fun _ _ _ _ h => h) HS.out (by rfl) ?_
    simp only [Act.put, List.setIfInBounds_toArray, List.set_cons_zero, List.set_cons_succ]
    refine wpMix_skip (fun _ _ _ _ h => h) HS.out (by rfl) ?_
    simp only [Act.put, List.setIfInBounds_toArray, List.set_cons_zero, List.set_cons_succ]
    refine wpMix_skip (fun _ _ _ _ h => h) HS.out (by rfl) ?_
    simp only [Act.put, List.setIfInBounds_toArray, List.set_cons_zero, List.set_cons_succ]
    refine wpMix_skip (fun _ _ _ _ h => h) HS.out (by rfl) ?_
    simp only [Act.put, List.setIfInBounds_toArray, List.set_cons_zero, List.set_cons_succ]
    refine wpMix_skip (fun _ _ _ _ h => h) HS.out (by rfl) ?_
    simp only [Act.put, List.setIfInBounds_toArray, List.set_cons_zero, List.set_cons_succ]
    refine wpMix_skip (fun _ _ _ _ h => h) HS.out (by rfl) ?_
    simp only [Act.put, List.setIfInBounds_toArray, List.set_cons_zero, List.set_cons_succ]
    refine wpMix_skip (fun _ _ _ _ h => h) HS.out (by rfl) ?_
    simp only [Act.put, List.setIfInBounds_toArray, List.set_cons_zero, List.set_cons_succ]
    refine wpMix_skip (fun _ _ _ _ h => h) HS.out (by rfl) ?_
    simp only [Act.put, List.setIfInBounds_toArray, List.set_cons_zero, List.set_cons_succ]
    refine wpMix_step (fun K hK => ?_); go_simp; refine hK _ _ HS.out ?_; clear hK K
    refine wpMix_step (fun K hK => ?_); go_simp; refine hK _ _ HS.out ?_; clear hK K
    refine wpMix_step (fun K hK => ?_); go_simp; refine hK _ _ HS.out ?_; clear hK K
    refine wpMix_nil ?_
    go_wp2_with fail
    go_ret
    exact ⟨ret_bool (by rw [HQ.out]; rfl), HB0.out.drew⟩
  cases qt
  · have HS := Lib.hid (And.intro k0 (And.intro k1 (And.intro k2 (And.intro k3 (And.intro k4 (And.intro k5 (And.intro k6 (And.intro l0 (And.intro l1 (And.intro l2 l3))))))))))
    clear k0 k1 k2 k3 k4 k5 k6 l0 l1 l2 l3
    refine wp_mix [mT, mT, mT, mT, mT, mT, mT, mT, mT, mT, mT, mT, mT, mT, mT, mT, mT, mT, mT, mT, mT, mT, mT, mF, mF, mF] 1000 (fun W2 => W2.cell? ⟨io, s, none⟩ = some (.bool true) ∧ W2.cell? ⟨db, 0, none⟩ = some (.pointer (some ⟨d, 0, none⟩)) ∧ W2.cell? ⟨cb, 0, none⟩ = some (.int .i64 cls) ∧ W2.cell? ⟨nb, 0, none⟩ = some (.int .i64 now) ∧ W2.cell? ⟨ob, 0, none⟩ = some (.slice oa out.length oc) ∧ W2.cell? ⟨d, 66 + s, none⟩ = some (.bool false) ∧ W2.cell? ⟨d, 391 + s, none⟩ = some (.int .i64 ap) ∧ W2.cell? ⟨W.heap.size, 0, none⟩ = some (.int .i64 x1) ∧ W2.cell? ⟨W.heap.size, 1, none⟩ = some (.slice aa x2.length ac) ∧ W2.cell? ⟨W.heap.size, 2, none⟩ = some (.int .i64 x3) ∧ W2.cell? ⟨W.heap.size, 3, none⟩ = some (.int .i64 x4)) (by kernel_rfl) (by kernel_rfl) HS.out ?_
    refine wpMix_take (.int .i64 (s : Nat)) (fun _ _ _ _ h => h) HS.out (by rfl) (fun W2 hW => by go_simp) ?_
    simp only [Act.put, List.setIfInBounds_toArray, List.set_cons_zero, List.set_cons_succ]
    refine wpMix_take (.pointer (some ⟨io, s, none⟩)) (fun _ _ _ _ h => h) HS.out (by rfl) (fun W2 hW => by go_simp) ?_
    simp only [Act.put, List.setIfInBounds_toArray, List.set_cons_zero, List.set_cons_succ]
    refine wpMix_take (.bool true) (fun _ _ _ _ h => h) HS.out (by rfl) (fun W2 hW => by have q0 := hW.1; go_simp) ?_
    simp only [Act.put, List.setIfInBounds_toArray, List.set_cons_zero, List.set_cons_succ]
    refine wpMix_take (.bool true) (fun _ _ _ _ h => h) HS.out (by rfl) (fun W2 hW => by go_simp) ?_
    simp only [Act.put, List.setIfInBounds_toArray, List.set_cons_zero, List.set_cons_succ]
    refine wpMix_take (.pointer (some ⟨d, 0, none⟩)) (fun _ _ _ _ h => h) HS.out (by rfl) (fun W2 hW => by have q0 := hW.2.1; go_simp) ?_
    simp only [Act.put, List.setIfInBounds_toArray, List.set_cons_zero, List.set_cons_succ]
    refine wpMix_take (.int .i64 (s : Nat)) (fun _ _ _ _ h => h) HS.out (by rfl) (fun W2 hW => by go_simp) ?_
    simp only [Act.put, List.setIfInBounds_toArray, List.set_cons_zero, List.set_cons_succ]
    refine wpMix_take (.pointer (some ⟨d, 0, none⟩)) (fun _ _ _ _ h => h) HS.out (by rfl) (fun W2 hW => by go_simp) ?_
    simp only [Act.put, List.setIfInBounds_toArray, List.set_cons_zero, List.set_cons_succ]
    refine wpMix_take (.pointer (some ⟨d, 66, none⟩)) (fun _ _ _ _ h => h) HS.out (by rfl) (fun W2 hW => by go_simp) ?_
    simp only [Act.put, List.setIfInBounds_toArray, List.set_cons_zero, List.set_cons_succ]
    refine wpMix_take (.pointer (some ⟨d, 66 + s, none⟩)) (fun _ _ _ _ h => h) HS.out (by rfl) (fun W2 hW => by go_simp) ?_
    simp only [Act.put, List.setIfInBounds_toArray, List.set_cons_zero, List.set_cons_succ]
    refine wpMix_take (.bool false) (fun _ _ _ _ h => h) HS.out (by rfl) (fun W2 hW => by have q0 := hW.2.2.2.2.2.1; go_simp) ?_
    simp only [Act.put, List.setIfInBounds_toArray, List.set_cons_zero, List.set_cons_succ]
    refine wpMix_take (.bool true) (fun _ _ _ _ h => h) HS.out (by rfl) (fun W2 hW => by go_simp) ?_
    simp only [Act.put, List.setIfInBounds_toArray, List.set_cons_zero, List.set_cons_succ]
    refine wpMix_take (.bool true) (fun _ _ _ _ h => h) HS.out (by rfl) (fun W2 hW => by go_simp) ?_
    simp only [Act.put, List.setIfInBounds_toArray, List.set_cons_zero, List.set_cons_succ]
    refine wpMix_take (.bool true) (fun _ _ _ _ h => h) HS.out (by rfl) (fun W2 hW => by go_simp) ?_
    simp only [Act.put, List.setIfInBounds_toArray, List.set_cons_zero, List.set_cons_succ]
    refine wpMix_take (.agg #[.int .i64 x1, .slice aa x2.length ac, .int .i64 x3, .int .i64 x4]) (fun _ _ _ _ h => h) HS.out (by rfl) (fun W2 hW => by obtain ⟨_, _, _, _, _, _, _, q1, q2, q3, q4⟩ := hW; go_simp) ?_
    simp only [Act.put, List.setIfInBounds_toArray, List.set_cons_zero, List.set_cons_succ]
    refine wpMix_take (.int .i64 cls) (fun _ _ _ _ h => h) HS.out (by rfl) (fun W2 hW => by have q0 := hW.2.2.1; go_simp) ?_
    simp only [Act.put, List.setIfInBounds_toArray, List.set_cons_zero, List.set_cons_succ]
    refine wpMix_take (.int .i64 now) (fun _ _ _ _ h => h) HS.out (by rfl) (fun W2 hW => by have q0 := hW.2.2.2.1; go_simp) ?_
    simp only [Act.put, List.setIfInBounds_toArray, List.set_cons_zero, List.set_cons_succ]
    refine wpMix_take (.slice oa out.length oc) (fun _ _ _ _ h => h) HS.out (by rfl) (fun W2 hW => by have q0 := hW.2.2.2.2.1; go_simp) ?_
    simp only [Act.put, List.setIfInBounds_toArray, List.set_cons_zero, List.set_cons_succ]
    refine wpMix_take (.pointer (some ⟨d, 0, none⟩)) (fun _ _ _ _ h => h) HS.out (by rfl) (fun W2 hW => by have q0 := hW.2.1; go_simp) ?_
    simp only [Act.put, List.setIfInBounds_toArray, List.set_cons_zero, List.set_cons_succ]
    refine wpMix_take (.int .i64 (s : Nat)) (fun _ _ _ _ h => h) HS.out (by rfl) (fun W2 hW => by go_simp) ?_
    simp only [Act.put, List.setIfInBounds_toArray, List.set_cons_zero, List.set_cons_succ]
    refine wpMix_take (.pointer (some ⟨d, 0, none⟩)) (fun _ _ _ _ h => h) HS.out (by rfl) (fun W2 hW => by go_simp) ?_
    simp only [Act.put, List.setIfInBounds_toArray, List.set_cons_zero, List.set_cons_succ]
    refine wpMix_take (.pointer (some ⟨d, 391, none⟩)) (fun _ _ _ _ h => h) HS.out (by rfl) (fun W2 hW => by go_simp) ?_
    simp only [Act.put, List.setIfInBounds_toArray, List.set_cons_zero, List.set_cons_succ]
    refine wpMix_take (.pointer (some ⟨d, 391 + s, none⟩)) (fun _ _ _ _ h => h) HS.out (by rfl) (fun W2 hW => by go_simp) ?_
    simp only [Act.put, List.setIfInBounds_toArray, List.set_cons_zero, List.set_cons_succ]
    refine wpMix_take (.int .i64 ap) (fun _ _ _ _ h => h) HS.out (by rfl) (fun W2 hW => by have q0 := hW.2.2.2.2.2.2.1; go_simp) ?_
    simp only [Act.put, List.setIfInBounds_toArray, List.set_cons_zero, List.set_cons_succ]
    refine wpMix_step (fun K hK => ?_)
    go_simp
    refine (HCA.out W1.drew (fun a u h => h)).mono ?_
    rintro r w3 ⟨rfl, hb⟩
    dsimp only
    have m : ∀ a u, W1.cell? a = some u → w3.cell? a = some u := sees_bel (W := W1.drew) hb
    have HS3 : Hid (w3.cell? ⟨io, s, none⟩ = some (.bool true) ∧ w3.cell? ⟨db, 0, none⟩ = some (.pointer (some ⟨d, 0, none⟩)) ∧ w3.cell? ⟨cb, 0, none⟩ = some (.int .i64 cls) ∧ w3.cell? ⟨nb, 0, none⟩ = some (.int .i64 now) ∧ w3.cell? ⟨ob, 0, none⟩ = some (.slice oa out.length oc) ∧ w3.cell? ⟨d, 66 + s, none⟩ = some (.bool false) ∧ w3.cell? ⟨d, 391 + s, none⟩ = some (.int .i64 ap) ∧ w3.cell? ⟨W.heap.size, 0, none⟩ = some (.int .i64 x1) ∧ w3.cell? ⟨W.heap.size, 1, none⟩ = some (.slice aa x2.length ac) ∧ w3.cell? ⟨W.heap.size, 2, none⟩ = some (.int .i64 x3) ∧ w3.cell? ⟨W.heap.size, 3, none⟩ = some (.int .i64 x4)) := Lib.hid (by obtain ⟨k0, k1, k2, k3, k4, k5, k6, l0, l1, l2, l3⟩ := HS.out; exact ⟨m _ _ k0, m _ _ k1, m _ _ k2, m _ _ k3, m _ _ k4, m _ _ k5, m _ _ k6, m _ _ l0, m _ _ l1, m _ _ l2, m _ _ l3⟩)
    have HB3 := Lib.hid (HB0.out.drew.trans (hb.mono HB0.out.size))
    refine hK _ _ HS3.out ?_
    clear hK K hb m
    refine wpMix_step (fun K hK => ?_); go_simp; refine hK _ _ HS3.out ?_; clear hK K
    refine wpMix_step (fun K hK => ?_); go_simp; refine hK _ _ HS3.out ?_; clear hK K
    refine wpMix_nil ?_
    go_wp2_with fail
    go_ret
    exact ⟨ret_bool (by rw [HQ.out]; simp), HB3.out⟩
  · have HS := Lib.hid (And.intro k0 (And.intro k1 (And.intro k2 (And.intro k3 (And.intro k4 (And.intro k5 (And.intro k6 (And.intro l0 (And.intro l1 (And.intro l2 l3))))))))))
    clear k0 k1 k2 k3 k4 k5 k6 l0 l1 l2 l3
    refine wp_mix [mT, mT, mT, mT, mT, mT, mT, mT, mT, mT, mT, mT, mT, mT, mT, mT, mT, mT, mT, mT, mT, mT, mT, mF, mF, mF] 1000 (fun W2 => W2.cell? ⟨io, s, none⟩ = some (.bool true) ∧ W2.cell? ⟨db, 0, none⟩ = some (.pointer (some ⟨d, 0, none⟩)) ∧ W2.cell? ⟨cb, 0, none⟩ = some (.int .i64 cls) ∧ W2.cell? ⟨nb, 0, none⟩ = some (.int .i64 now) ∧ W2.cell? ⟨ob, 0, none⟩ = some (.slice oa out.length oc) ∧ W2.cell? ⟨d, 66 + s, none⟩ = some (.bool true) ∧ W2.cell? ⟨d, 391 + s, none⟩ = some (.int .i64 ap) ∧ W2.cell? ⟨W.heap.size, 0, none⟩ = some (.int .i64 x1) ∧ W2.cell? ⟨W.heap.size, 1, none⟩ = some (.slice aa x2.length ac) ∧ W2.cell? ⟨W.heap.size, 2, none⟩ = some (.int .i64 x3) ∧ W2.cell? ⟨W.heap.size, 3, none⟩ = some (.int .i64 x4)) (by kernel_rfl) (by kernel_rfl) HS.out ?_
    refine wpMix_take (.int .i64 (s : Nat)) (fun _ _ _ _ h => h) HS.out (by rfl) (fun W2 hW => by go_simp) ?_
    simp only [Act.put, List.setIfInBounds_toArray, List.set_cons_zero, List.set_cons_succ]
    refine wpMix_take (.pointer (some ⟨io, s, none⟩)) (fun _ _ _ _ h => h) HS.out (by rfl) (fun W2 hW => by go_simp) ?_
    simp only [Act.put, List.setIfInBounds_toArray, List.set_cons_zero, List.set_cons_succ]
    refine wpMix_take (.bool true) (fun _ _ _ _ h => h) HS.out (by rfl) (fun W2 hW => by have q0 := hW.1; go_simp) ?_
    simp only [Act.put, List.setIfInBounds_toArray, List.set_cons_zero, List.set_cons_succ]
    refine wpMix_take (.bool true) (fun _ _ _ _ h => h) HS.out (by rfl) (fun W2 hW => by go_simp) ?_
    simp only [Act.put, List.setIfInBounds_toArray, List.set_cons_zero, List.set_cons_succ]
    refine wpMix_take (.pointer (some ⟨d, 0, none⟩)) (fun _ _ _ _ h => h) HS.out (by rfl) (fun W2 hW => by have q0 := hW.2.1; go_simp) ?_
    simp only [Act.put, List.setIfInBounds_toArray, List.set_cons_zero, List.set_cons_succ]
    refine wpMix_take (.int .i64 (s : Nat)) (fun _ _ _ _ h => h) HS.out (by rfl) (fun W2 hW => by go_simp) ?_
    simp only [Act.put, List.setIfInBounds_toArray, List.set_cons_zero, List.set_cons_succ]
    refine wpMix_take (.pointer (some ⟨d, 0, none⟩)) (fun _ _ _ _ h => h) HS.out (by rfl) (fun W2 hW => by go_simp) ?_
    simp only [Act.put, List.setIfInBounds_toArray, List.set_cons_zero, List.set_cons_succ]
    refine wpMix_take (.pointer (some ⟨d, 66, none⟩)) (fun _ _ _ _ h => h) HS.out (by rfl) (fun W2 hW => by go_simp) ?_
    simp only [Act.put, List.setIfInBounds_toArray, List.set_cons_zero, List.set_cons_succ]
    refine wpMix_take (.pointer (some ⟨d, 66 + s, none⟩)) (fun _ _ _ _ h => h) HS.out (by rfl) (fun W2 hW => by go_simp) ?_
    simp only [Act.put, List.setIfInBounds_toArray, List.set_cons_zero, List.set_cons_succ]
    refine wpMix_take (.bool true) (fun _ _ _ _ h => h) HS.out (by rfl) (fun W2 hW => by have q0 := hW.2.2.2.2.2.1; go_simp) ?_
    simp only [Act.put, List.setIfInBounds_toArray, List.set_cons_zero, List.set_cons_succ]
    refine wpMix_take (.bool false) (fun _ _ _ _ h => h) HS.out (by rfl) (fun W2 hW => by go_simp) ?_
    simp only [Act.put, List.setIfInBounds_toArray, List.set_cons_zero, List.set_cons_succ]
    refine wpMix_take (.bool false) (fun _ _ _ _ h => h) HS.out (by rfl) (fun W2 hW => by go_simp) ?_
    simp only [Act.put, List.setIfInBounds_toArray, List.set_cons_zero, List.set_cons_succ]
    refine wpMix_take (.bool false) (fun _ _ _ _ h => h) HS.out (by rfl) (fun W2 hW => by go_simp) ?_
    simp only [Act.put, List.setIfInBounds_toArray, List.set_cons_zero, List.set_cons_succ]
    refine wpMix_skip (fun _ _ _ _ h => h) HS.out (by rfl) ?_
    simp only [Act.put, List.setIfInBounds_toArray, List.set_cons_zero, List.set_cons_succ]
    refine wpMix_skip (fun _ _ _ _ h => h) HS.out (by rfl) ?_
    simp only [Act.put, List.setIfInBounds_toArray, List.set_cons_zero, List.set_cons_succ]
    refine wpMix_skip (fun _ _ _ _ h => h) HS.out (by rfl) ?_
    simp only [Act.put, List.setIfInBounds_toArray, List.set_cons_zero, List.set_cons_succ]
    refine wpMix_skip (fun _ _ _ _ h => h) HS.out (by rfl) ?_
    simp only [Act.put, List.setIfInBounds_toArray, List.set_cons_zero, List.set_cons_succ]
    refine wpMix_skip (fun _ _ _ _ h => h) HS.out (by rfl) ?_
    simp only [Act.put, List.setIfInBounds_toArray, List.set_cons_zero, List.set_cons_succ]
    refine wpMix_skip (fun _ _ _ _ h => h) HS.out (by rfl) ?_
    simp only [Act.put, List.setIfInBounds_toArray, List.set_cons_zero, List.set_cons_succ]
    refine wpMix_skip (fun _ _ _ _ h => h) HS.out (by rfl) ?_
    simp only [Act.put, List.setIfInBounds_toArray, List.set_cons_zero, List.set_cons_succ]
    refine wpMix_skip (fun _ _ _ _ h => h) HS.out (by rfl) ?_
    simp only [Act.put, List.setIfInBounds_toArray, List.set_cons_zero, List.set_cons_succ]
    refine wpMix_skip (fun _ _ _ _ h => h) HS.out (by rfl) ?_
    simp only [Act.put, List.setIfInBounds_toArray, List.set_cons_zero, List.set_cons_succ]
    refine wpMix_skip (fun _ _ _ _ h => h) HS.out (by rfl) ?_
    simp only [Act.put, List.setIfInBounds_toArray, List.set_cons_zero, List.set_cons_succ]
    refine wpMix_step (fun K hK => ?_); go_simp; refine hK _ _ HS.out ?_; clear hK K
    refine wpMix_step (fun K hK => ?_); go_simp; refine hK _ _ HS.out ?_; clear hK K
    refine wpMix_step (fun K hK => ?_); go_simp; refine hK _ _ HS.out ?_; clear hK K
    refine wpMix_nil ?_
    go_wp2_with fail
    go_ret
    exact ⟨ret_bool (by rw [HQ.out]; rfl), HB0.out.drew⟩
end Go.Proofs.YtgbihmafmmeicaaGreatDoor
namespace Go.Proofs.YtgbihmafmmeicaaGreatDoor
open Go.RowKit Mg Go.Shelf

abbrev openV (io db cb nb ob : Nat) : Value := .func (.func 57) #[] #[.pointer (some ⟨io, 0, none⟩), .pointer (some ⟨db, 0, none⟩), .pointer (some ⟨cb, 0, none⟩), .pointer (some ⟨nb, 0, none⟩), .pointer (some ⟨ob, 0, none⟩)]
def fe0 : FctE := ⟨⟨0, 0, 0, 0, .empty, 0, 0, .empty, .empty, [], [], ⟨0, [], 0, 0⟩, 0, 0, 0, .empty, .empty, 0, 0, 0⟩, none, 0, none, 0, none, 0⟩
theorem zero_fct (w : World) : (zeroValue 45).run Tryz.prog w = .ok (.agg fe0.cells) w := Tryz.zeroValue45 w
theorem gRev_by : ∀ (gs : List FctE) (s : Int) (l : ByteArray) (r : Int), gRev gs (key3 s l r) = (lastBy (fun e => isRev s l r e.f) gs).map (fun e => .agg e.cells)
  | [], _, _, _ => rfl
  | e :: gs, s, l, r => by
    unfold gRev lastBy
    rw [gRev_by gs s l r]
    cases lastBy (fun e => isRev s l r e.f) gs with
    | some g => rfl
    | none =>
      dsimp only [Option.map_none]
      have : (e.f.kind = 1 ∧ key3 s l r = key3 e.f.story e.f.lang e.f.rev) ↔ isRev s l r e.f = true := by
        rw [key3_inj]
        unfold isRev
        simp only [Bool.and_eq_true, decide_eq_true_eq]
        constructor
        · rintro ⟨h1, rfl, rfl, rfl⟩; exact ⟨⟨⟨h1, rfl⟩, rfl⟩, rfl⟩
        · rintro ⟨⟨⟨h1, rfl⟩, rfl⟩, rfl⟩; exact ⟨h1, rfl, rfl, rfl⟩
      by_cases h : isRev s l r e.f = true
      · rw [if_pos (this.2 h), if_pos h]; rfl
      · rw [if_neg (fun k => h (this.1 k)), if_neg h]; rfl
theorem DigAt.last {W : World} {B d : Nat} {gs : List FctE} (h : DigAt W B d gs) : ∃ mb, mb < W.heap.size ∧ W.cell? ⟨d, 456, none⟩ = some (.map (some mb)) ∧ ∀ W', W'.heap[mb]? = W.heap[mb]? → ∀ (s r : Int) (l : ByteArray), okI s → okI r → l.size ≤ maxLen →
    (Instr.lookup 79 (.map (some mb)) (key3 s l r) true).run Tryz.prog W' = .ok (.tuple #[.agg ((lastBy (fun e => isRev s l r e.f) gs).getD fe0).cells, .bool (lastBy (fun e => isRev s l r e.f) gs).isSome]) W' := by
  obtain ⟨fv, mb, n, _, h2, h3⟩ := h.at_
  refine ⟨mb, h2.lt, h3.cell (j := 456) (by omega), fun W' hW s r l hs hr hl => ?_⟩
  obtain ⟨kl, hkl⟩ := rev_key s r l hs hr hl
  rw [(h2.of_block hW).lookOk rev_keyed Tryz.underlying79 (zero_fct W') hkl, gRev_by]
  cases lastBy (fun e => isRev s l r e.f) gs <;> rfl

set_option maxRecDepth 100000 in
set_option maxHeartbeats 2000000 in
theorem ancestor_any {mem : Addr → Option Value} {W : World} {io db cb nb ob d B : Nat} {gs : List FctE} {cls now : Int} {ov : Value} {out : List Int} (h : OpenM W io db cb nb ob d B gs cls now ov out) (hgs : ∀ e ∈ gs, e.ok mem ∧ validF e.f = true) (hsee : Sees mem W) (x : FctE) (hx : FOK x.f) (hb0 : 0 ≤ x.f.base) (hb1 : x.f.base ≤ 100) :
    Calls Tryz.prog 78 #[.pointer (some ⟨d, 0, none⟩), .agg x.cells, openV io db cb nb ob] W fun e w' => e = .returned (.int .i64 (ancF (sceneOf gs cls now out) x.f.story x.f.lang 101 x.f.base)) ∧ Below W.heap.size W w' := by
  have H := Lib.hid h
  have HG := Lib.hid hgs
  have HS := Lib.hid hsee
  have hN : Hid ((W.alloc (.cells x.cells 45)).heap[W.heap.size]? = some (.cells x.cells 45 (0, 0))) := Lib.hid (World.alloc_heap_new W _)
  have k6 : (W.alloc (.cells x.cells 45)).cell? ⟨W.heap.size, 6, none⟩ = some (.int .i64 x.f.base) := blk_cell hN.out 6
  have HX := Lib.hid hx
  clear h hgs hsee hx
  obtain ⟨SC, hSC⟩ : ∃ SC, SC = sceneOf gs cls now out := ⟨_, rfl⟩
  rw [← hSC]
  have HSC := Lib.hid hSC
  clear hSC
  generalize hR : ancF SC x.f.story x.f.lang 101 x.f.base = RES
  have HR := Lib.hid hR
  clear hR
  go_enter Tryz.func78, Tryz.ntmps78
  go_wp2_with fail
  refine wpIn_wide.1 (wpIn_scope_straight (F := Fence.wide) (n := 5) (wpIn_wide.2 ?_))
  go_wp2_with fail
  refine wp_label ?_
  go_wp2_with fail
  clear k6
  have h00 : Hid (Below W.heap.size W (W.alloc (.cells x.cells 45))) := Lib.hid ((Below.refl _ W).alloc (Nat.le_refl _) _)
  go_loopw [7] (fun v wr => ∃ (n : Nat) (b : Int), v = .int .i64 b ∧ 0 ≤ b ∧ b < n ∧ n ≤ 101 ∧ ancF SC x.f.story x.f.lang n b = RES ∧ Below W.heap.size W wr ∧ wr.heap[W.heap.size]? = some (.cells x.cells 45 (0, 0))) (fun v _ => (intOf v).toNat)
  case atStart => exact ⟨101, x.f.base, rfl, hb0, by omega, Nat.le_refl _, HR.out, h00.out, hN.out⟩
  case round =>
    obtain ⟨n, b, rfl, hb2, hb3, hn, han, hbw, hxc⟩ := hrel
    have HA := Lib.hid han
    have HBW := Lib.hid hbw
    have HXC := Lib.hid hxc
    clear han hbw hxc
    obtain ⟨m, rfl⟩ : ∃ m, n = m + 1 := ⟨n - 1, by omega⟩
    by_cases hz : b = 0
    · subst hz
      have hres : Hid (RES = 0) := Lib.hid (by rw [← HA.out]; unfold ancF; rw [if_pos rfl])
      go_wp2_with fail
      rw [noGoto_ret]
      go_ret
      exact ⟨by rw [hres.out]; rfl, HBW.out⟩
    · have bz : (b != 0) = true := by simpa using hz
      have HZ := Lib.hid hz
      have HO := Lib.hid (H.out.bel HBW.out)
      obtain ⟨mb, hml, hm1, hm2⟩ := HO.out.dig.last
      have hokb : okI b := by unfold okI; omega
      have hlk := fun W' hW => hm2 W' hW x.f.story b x.f.lang HX.out.i3 hokb HX.out.s4
      obtain ⟨o, ho⟩ : ∃ o, o = lastBy (fun e => isRev x.f.story x.f.lang b e.f) gs := ⟨_, rfl⟩
      rw [← ho] at hlk
      have HLO := Lib.hid ho
      obtain ⟨X, hX⟩ : ∃ X, Hid (wr.heap[mb]? = X) := ⟨_, Lib.hid rfl⟩
      have HLK := Lib.hid hlk
      have HSS : Hid (wr.cell? ⟨d, 456, none⟩ = some (.map (some mb)) ∧ wr.cell? ⟨W.heap.size, 3, none⟩ = some (.int .i64 x.f.story) ∧ wr.cell? ⟨W.heap.size, 4, none⟩ = some (.string x.f.lang) ∧ wr.heap[mb]? = X) := Lib.hid ⟨hm1, blk_cell HXC.out 3, blk_cell HXC.out 4, hX.out⟩
      have HML := Lib.hid hml
      clear hml hm1 hm2 hokb hlk ho hz
      go_wp2_with fail
      refine wp_mix [mT, mT, mT, mT, mT, mT, mT, mT, mT, mT, mT, mT, mT, mT, mF, mF, mF] 1000 (fun W2 => W2.cell? ⟨d, 456, none⟩ = some (.map (some mb)) ∧ W2.cell? ⟨W.heap.size, 3, none⟩ = some (.int .i64 x.f.story) ∧ W2.cell? ⟨W.heap.size, 4, none⟩ = some (.string x.f.lang) ∧ W2.heap[mb]? = X) (by kernel_rfl) (by kernel_rfl) HSS.out ?_
      refine wpMix_take (.pointer (some ⟨d, 0, none⟩)) (fun _ _ _ _ h => h) HSS.out (by rfl) (fun W2 hW => by go_simp) ?_
      simp only [Act.put, List.setIfInBounds_toArray, List.set_cons_zero, List.set_cons_succ]
      refine wpMix_take (.pointer (some ⟨d, 0, none⟩)) (fun _ _ _ _ h => h) HSS.out (by rfl) (fun W2 hW => by go_simp) ?_
      simp only [Act.put, List.setIfInBounds_toArray, List.set_cons_zero, List.set_cons_succ]
      refine wpMix_take (.pointer (some ⟨d, 456, none⟩)) (fun _ _ _ _ h => h) HSS.out (by rfl) (fun W2 hW => by go_simp) ?_
      simp only [Act.put, List.setIfInBounds_toArray, List.set_cons_zero, List.set_cons_succ]
      refine wpMix_take (.map (some mb)) (fun _ _ _ _ h => h) HSS.out (by rfl) (fun W2 hW => by have q := hW.1; go_simp) ?_
      simp only [Act.put, List.setIfInBounds_toArray, List.set_cons_zero, List.set_cons_succ]
      refine wpMix_take (.pointer (some ⟨W.heap.size, 3, none⟩)) (fun _ _ _ _ h => h) HSS.out (by rfl) (fun W2 hW => by go_simp) ?_
      simp only [Act.put, List.setIfInBounds_toArray, List.set_cons_zero, List.set_cons_succ]
      refine wpMix_take (.int .i64 x.f.story) (fun _ _ _ _ h => h) HSS.out (by rfl) (fun W2 hW => by have q := hW.2.1; go_simp) ?_
      simp only [Act.put, List.setIfInBounds_toArray, List.set_cons_zero, List.set_cons_succ]
      refine wpMix_take (.pointer (some ⟨W.heap.size, 4, none⟩)) (fun _ _ _ _ h => h) HSS.out (by rfl) (fun W2 hW => by go_simp) ?_
      simp only [Act.put, List.setIfInBounds_toArray, List.set_cons_zero, List.set_cons_succ]
      refine wpMix_take (.string x.f.lang) (fun _ _ _ _ h => h) HSS.out (by rfl) (fun W2 hW => by have q := hW.2.2.1; go_simp) ?_
      simp only [Act.put, List.setIfInBounds_toArray, List.set_cons_zero, List.set_cons_succ]
      refine wpMix_take (.int .i64 b) (fun _ _ _ _ h => h) HSS.out (by rfl) (fun W2 hW => by go_simp) ?_
      simp only [Act.put, List.setIfInBounds_toArray, List.set_cons_zero, List.set_cons_succ]
      refine wpMix_take (.agg #[.int .i64 x.f.story, .string x.f.lang, .int .i64 b]) (fun _ _ _ _ h => h) HSS.out (by rfl) (fun W2 hW => by go_simp) ?_
      simp only [Act.put, List.setIfInBounds_toArray, List.set_cons_zero, List.set_cons_succ]
      refine wpMix_take (.tuple #[.agg (o.getD fe0).cells, .bool o.isSome]) (fun _ _ _ _ h => h) HSS.out (by rfl) (fun W2 hW => by have q := HLK.out W2 (hW.2.2.2.trans hX.out.symm); unfold key3 at q; go_simp) ?_
      simp only [Act.put, List.setIfInBounds_toArray, List.set_cons_zero, List.set_cons_succ]
      refine wpMix_take (.tuple #[.agg (o.getD fe0).cells, .bool o.isSome]) (fun _ _ _ _ h => h) HSS.out (by rfl) (fun W2 hW => by go_simp) ?_
      simp only [Act.put, List.setIfInBounds_toArray, List.set_cons_zero, List.set_cons_succ]
      refine wpMix_take (.agg (o.getD fe0).cells) (fun _ _ _ _ h => h) HSS.out (by rfl) (fun W2 hW => by go_simp) ?_
      simp only [Act.put, List.setIfInBounds_toArray, List.set_cons_zero, List.set_cons_succ]
      refine wpMix_take (.bool o.isSome) (fun _ _ _ _ h => h) HSS.out (by rfl) (fun W2 hW => by go_simp) ?_
      simp only [Act.put, List.setIfInBounds_toArray, List.set_cons_zero, List.set_cons_succ]
      obtain ⟨y, hy⟩ : ∃ y, y = o.getD fe0 := ⟨_, rfl⟩
      rw [← hy]
      have HY := Lib.hid hy
      have hsz : Hid (y.cells.size = 23) := Lib.hid rfl
      have hone := Lib.hid y.one
      clear hy
      have HSA : ∀ ob, Hid ((wr.alloc ob).drew.cell? ⟨d, 456, none⟩ = some (.map (some mb)) ∧ (wr.alloc ob).drew.cell? ⟨W.heap.size, 3, none⟩ = some (.int .i64 x.f.story) ∧ (wr.alloc ob).drew.cell? ⟨W.heap.size, 4, none⟩ = some (.string x.f.lang) ∧ (wr.alloc ob).drew.heap[mb]? = X) := fun ob => by
        have m := sees_bel (W := wr) (W' := (wr.alloc ob).drew) (((Below.refl _ wr).alloc (Nat.le_refl _) ob).drew)
        obtain ⟨q1, q2, q3, q4⟩ := HSS.out
        exact Lib.hid ⟨m _ _ q1, m _ _ q2, m _ _ q3, (Below.heap_alloc wr ob mb HML.out).trans q4⟩
      have HQA := Lib.hid HSA
      clear HSA
      refine wpMix_step (fun K hK => ?_); go_simp; refine hK _ _ (HQA.out _).out ?_; clear hK K
      refine wpMix_step (fun K hK => ?_)
      rw [if_pos (by rfl)]
      refine wp_fct_store (g := wr.heap.size) _ _ rfl (by simp [Act.eval]) (by simp [Act.eval]) (World.alloc_heap_new wr _) (by rfl) hsz.out hone.out ?_
      rw [show ∀ c, ((wr.alloc (.cells c 45)).drew).setRow wr.heap.size y.cells = (wr.alloc (.cells y.cells 45)).drew from fun c => by show ((wr.alloc (.cells c 45)).setRow wr.heap.size y.cells).drew = _; rw [World.setRow_alloc_new]]
      refine hK _ _ (HQA.out _).out ?_
      clear hK K
      refine wpMix_step (fun K hK => ?_); go_simp; refine hK _ _ (HQA.out _).out ?_; clear hK K
      refine wpMix_nil ?_
      generalize hW5 : World.drew (World.alloc wr _) = W5
      have HB5 : Hid (Below wr.heap.size wr W5 ∧ W5.heap[wr.heap.size]? = some (.cells y.cells 45 (0, 0))) := Lib.hid ⟨by rw [← hW5]; exact ((Below.refl _ wr).alloc (Nat.le_refl _) _).drew, by rw [← hW5]; exact World.alloc_heap_new wr _⟩
      clear hW5 HQA HSS
      have HO5 := Lib.hid (HO.out.bel HB5.out.1)
      have HX5 := Lib.hid ((HB5.out.1.block W.heap.size (hlt HXC.out)).trans HXC.out)
      have HW5 := Lib.hid (HBW.out.trans (HB5.out.1.mono HBW.out.size))
      cases ho : o with
      | none =>
        have hres : Hid (RES = 0) := Lib.hid (by
          rw [← HA.out]; unfold ancF; rw [if_neg HZ.out]
          have : lastRev SC.D x.f.story x.f.lang b = none := by rw [HSC.out]; show lastRev (gs.map FctE.f) _ _ _ = none; rw [lastRev_by, ← HLO.out, ho]; rfl
          rw [this])
        have hz0 : Hid (ancF SC x.f.story x.f.lang 101 0 = 0) := Lib.hid (by unfold ancF; rw [if_pos rfl])
        clear ho
        dsimp only [Option.isSome_none]
        go_wp2_with fail
        have hz := HZ.out
        refine ⟨⟨1, 0, rfl, by omega, by omega, by omega, by rw [hres.out]; unfold ancF; rw [if_pos rfl], HW5.out, HX5.out⟩, ?_⟩
        simp [intOf]
        omega
      | some p =>
        obtain ⟨hpm, hpr⟩ := lastBy_mem (HLO.out.symm.trans ho)
        obtain rfl : y = p := by rw [HY.out, ho]; rfl
        unfold isRev at hpr
        simp only [Bool.and_eq_true, decide_eq_true_eq] at hpr
        obtain ⟨⟨⟨hk1, hst⟩, hln⟩, hrv⟩ := hpr
        obtain ⟨hpok, hpv⟩ := HG.out y hpm
        obtain ⟨s, hs, hs1, hs64⟩ := good_story hpv (.inl hk1)
        obtain ⟨⟨hr1, hr2⟩, ⟨hba0, hba1⟩, _, _⟩ := revise_parts (validF_revise hpv hk1)
        have hlr : lastRev SC.D x.f.story x.f.lang b = some y.f := by rw [HSC.out]; show lastRev (gs.map FctE.f) _ _ _ = _; rw [lastRev_by, ← HLO.out, ho]; rfl
        have HF : Hid ((SC.isOpen (s : Nat) y.f.lab = true → RES = b) ∧ (SC.isOpen (s : Nat) y.f.lab = false → ancF SC x.f.story x.f.lang m y.f.base = RES)) := Lib.hid ⟨fun e => by rw [← HA.out]; unfold ancF; rw [if_neg HZ.out, hlr]; dsimp only; rw [hs, e, if_pos rfl], fun e => by
          have h2 := HA.out
          unfold ancF at h2
          rw [if_neg HZ.out, hlr] at h2
          dsimp only at h2
          rw [hs, e] at h2
          simpa using h2⟩
        have hse5 : Sees mem W5 := HS.out.bel HW5.out
        have HCA : Hid (Calls Tryz.prog 57 #[.int .i64 (s : Nat), .agg #[.int .i64 y.f.lab.till, y.av, .int .i64 y.f.lab.appr, .int .i64 y.f.lab.denied], .pointer (some ⟨io, 0, none⟩), .pointer (some ⟨db, 0, none⟩), .pointer (some ⟨cb, 0, none⟩), .pointer (some ⟨nb, 0, none⟩), .pointer (some ⟨ob, 0, none⟩)] W5 fun e w' => e = .returned (.bool (SC.isOpen (s : Nat) y.f.lab)) ∧ Below W5.heap.size W5 w') := Lib.hid (by
          rw [HSC.out]
          exact open_any HO5.out s (by omega) y.f.lab y.av (hpok.parts.2.2.mono (fun a u h => hse5 a u h)))
        generalize SC.isOpen (s : Nat) y.f.lab = q at HF HCA
        have c3 : W5.cell? ⟨wr.heap.size, 3, none⟩ = some (.int .i64 (s : Nat)) := by rw [← hs]; exact blk_cell HB5.out.2 3
        have c11 : W5.cell? ⟨wr.heap.size, 11, none⟩ = some (.int .i64 y.f.lab.till) := blk_cell HB5.out.2 11
        have c12 : W5.cell? ⟨wr.heap.size, 12, none⟩ = some y.av := blk_cell HB5.out.2 12
        have c13 : W5.cell? ⟨wr.heap.size, 13, none⟩ = some (.int .i64 y.f.lab.appr) := blk_cell HB5.out.2 13
        have c14 : W5.cell? ⟨wr.heap.size, 14, none⟩ = some (.int .i64 y.f.lab.denied) := blk_cell HB5.out.2 14
        have HNUM : Hid (0 ≤ y.f.base ∧ y.f.base < b) := Lib.hid ⟨hba0, by rw [← hrv]; exact hba1⟩
        clear ho hpm hk1 hst hln hrv hpok hpv hs hr1 hr2 hba0 hba1 hlr hse5
        dsimp only [Option.isSome_some]
        go_wp2_with fail
        refine HCA.out.mono ?_
        rintro e w6 ⟨rfl, hb6⟩
        have c6 : w6.cell? ⟨wr.heap.size, 6, none⟩ = some (.int .i64 y.f.base) := blk_cell ((hb6.block _ (hlt HB5.out.2)).trans HB5.out.2) 6
        have HX6 := Lib.hid ((hb6.block W.heap.size (hlt HX5.out)).trans HX5.out)
        have HW6 := Lib.hid (HW5.out.trans (hb6.mono HW5.out.size))
        clear hb6 c3 c11 c12 c13 c14
        cases q
        · go_wp2_with fail
          obtain ⟨n0, n1⟩ := HNUM.out
          refine ⟨⟨m, y.f.base, rfl, n0, by omega, by omega, HF.out.2 (by trivial), HW6.out, HX6.out⟩, ?_⟩
          simp [intOf]
          omega
        · have hres : Hid (RES = b) := Lib.hid (HF.out.1 (by trivial))
          clear c6
          go_wp2_with fail
          rw [noGoto_ret]
          go_ret
          exact ⟨by rw [hres.out]; rfl, HW6.out⟩
end Go.Proofs.YtgbihmafmmeicaaGreatDoor
namespace Go.Proofs.YtgbihmafmmeicaaGreatDoor
open Go.RowKit Mg Go.Shelf

abbrev nilS : Value := .slice none 0 0
def bareVals (l : List Blk) : List Value := l.flatMap fun x => blkVals (bareB x) nilS
def CRow (w : World) (B : Nat) (v : Value) (l : List Blk) : Prop := w.ownsRow B 56 9 v l.length (bareVals l)
theorem CRow.nil (w : World) (B : Nat) : CRow w B nilS [] := World.ownsRow_nil _ _ _ _
theorem CRow.sl {w : World} {B : Nat} {v : Value} {l : List Blk} (h : CRow w B v l) : ∃ ao cap, v = .slice ao l.length cap := by
  rcases h.2 with ⟨rfl, hz⟩ | ⟨g, cap, cur, rfl, _⟩
  · exact ⟨none, 0, by rw [hz]⟩
  · exact ⟨_, _, rfl⟩
theorem CRow.ge {w : World} {B : Nat} {v : Value} {l : List Blk} (h : CRow w B v l) : ∀ k, v.ownBlock = some k → B ≤ k ∧ k < w.heap.size := World.ownsRow.lt h
theorem CRow.same {w w' : World} {B : Nat} {v : Value} {l : List Blk} (h : CRow w B v l) (he : ∀ k, v.ownBlock = some k → w'.heap[k]? = w.heap[k]?) : CRow w' B v l := by
  refine ⟨h.1, ?_⟩
  rcases h.2 with hq | ⟨g, cap, cur, rfl, hb, hgg, rest⟩
  · exact .inl hq
  · exact .inr ⟨g, cap, cur, rfl, hb, (he g rfl).trans hgg, rest⟩
theorem bareVals_snoc (l : List Blk) (y : Blk) : bareVals (l ++ [y]) = bareVals l ++ blkVals (bareB y) nilS := by unfold bareVals; rw [List.flatMap_append]; simp
theorem bareVals_b (mem : Addr → Option Value) : ∀ l : List Blk, BVals mem (l.map bareB) (bareVals l)
  | [] => rfl
  | _ :: l => ⟨none, 0, bareVals l, IntsM.nil _, rfl, bareVals_b mem l⟩
theorem CRow.brow {w : World} {B : Nat} {v : Value} {l : List Blk} (h : CRow w B v l) : BRow w B v (l.map bareB) := ⟨bareVals l, by rw [List.length_map]; exact h, bareVals_b _ l⟩
section
variable {ops : Array Oper} {rest : List Oper} {o : Oper} {a : Act} {w : World} {Q : Exit → Act → World → Prop}
theorem wpList_app_bare (hgd : o.guard = none) (s x : Operand) (ho : o.op = .call { callee := .builtin .append, args := #[s, x], argTypes := #[43, 43] })
    (B : Nat) (v : Value) (l : List Blk) (hs : a.eval s = v) (hown : CRow w B v l) (y : Blk)
    (g c : Nat) (hx : a.eval x = .slice (some ⟨g, 0, none⟩) 1 c) (hc : w.heap[g]? = some (.cells (blkCells (bareB y) nilS) 56 (0, 0))) (hlen : l.length ≤ 100000) (hB : B ≤ w.heap.size)
    (h : ∀ v' w', CRow w' B v' (l ++ [y]) → w.grownBy w' v.ownBlock → wpList Tryz.prog ops Q rest (a.put o.dst v') w') : wpList Tryz.prog ops Q (o :: rest) a w := by
  refine wpList_plain hgd fun K hK => ?_
  obtain ⟨i0, hi0, hz0, hz1, hz2⟩ := info_parts blk_info
  obtain ⟨v', w', hr, g2, g3, _, _⟩ := run_append_own_at (P := Tryz.prog) w B 43 o.type 56 i0 _ 9 96 Tryz.underlying43 hi0 hz0 hz1 hz2 rfl (by decide) v l.length (bareVals l) hown ⟨g, 0, none⟩ 1 c (blkVals (bareB y) nilS) rfl
    (fun j u hj => by
      have e : (⟨g, 0, none⟩ : Addr).add j = ⟨g, j, none⟩ := by unfold Addr.add; by_cases h0 : j = 0 <;> simp [h0]
      rw [e, blk_cell hc]
      rw [← hj]; simp)
    (by simp [Value.oneCell']) (by unfold maxLen; omega) (by omega) hB
  unfold Oper.wp execOp
  simp only [ho, resolve, invoke, builtin, Sem.run_bind, Sem.run_pure, Result.andThen_ok, List.map_toArray, List.map_cons, List.map_nil, hs, hx, hr]
  exact hK _ _ (h v' w' (by unfold CRow; rw [List.length_append, bareVals_snoc]; exact g2) g3)
theorem str_info : (Tryz.prog.info? 9).map (fun i => (i.zero, i.size, i.bytes)) = some (some (.string .empty), 1, 16) := by kernel_rfl
def SRow (w : World) (B : Nat) (v : Value) (l : List ByteArray) : Prop := w.ownsRow B 9 1 v l.length (l.map Value.string)
theorem reads_strs {mem : Addr → Option Value} {ao : Option Addr} {cap : Nat} {l : List ByteArray} (h : StrsM mem (.slice ao l.length cap) l) (hs : Sees mem w) : Reads w w.heap.size 1 ao l.length (l.map Value.string) := by
  obtain ⟨ao', cap', b, o, e, _, _, h1, _, h2⟩ := h.open_ hs
  injection e with e1 e2 e3
  subst e1
  refine ⟨by simp, fun hn => ?_⟩
  refine ⟨_, h1 hn, ?_, fun j u hu => ?_⟩
  · have := World.block_lt_of_cell? w _ (h2 0 hn); simpa using this
  · rw [List.getElem?_map] at hu
    obtain ⟨y, hy, rfl⟩ := Option.map_eq_some_iff.1 hu
    obtain ⟨hj, rfl⟩ := List.getElem?_eq_some_iff.1 hy
    have := h2 j hj
    unfold Addr.add
    by_cases h0 : j = 0
    · subst h0; simp
    · simp [h0, this]
theorem wpList_app_strs {mem : Addr → Option Value} (hgd : o.guard = none) (s x : Operand) (ho : o.op = .call { callee := .builtin .append, args := #[s, x], argTypes := #[42, 42] })
    (hs : a.eval s = nilS) (ao : Option Addr) (cap : Nat) (l : List ByteArray) (hx : a.eval x = .slice ao l.length cap) (hi : StrsM mem (.slice ao l.length cap) l) (hsee : Sees mem w) (hlen : l.length ≤ 100000)
    (h : ∀ v' w', SRow w' w.heap.size v' l → w.grownBy w' none → wpList Tryz.prog ops Q rest (a.put o.dst v') w') : wpList Tryz.prog ops Q (o :: rest) a w := by
  obtain ⟨i0, hi0, hz0, hz1, hz2⟩ := info_parts str_info
  refine wpList_append_any w hgd s x 42 ho w.heap.size 9 i0 (.string .empty) 1 16 Tryz.underlying42 hi0 hz0 hz1 hz2 rfl (by decide) _ 0 [] hs (World.ownsRow_nil _ _ _ _) w.heap.size ao l.length cap (l.map Value.string) hx (reads_strs hi hsee) (fun u hu => by obtain ⟨y, _, rfl⟩ := List.mem_map.1 hu; rfl) (by unfold maxLen; omega) (by omega) (Nat.le_refl _) ?_
  intro v' w' h1 h2 _
  refine h v' w' ?_ h2
  unfold SRow
  simpa using h1
end
theorem SRow.same {w w' : World} {B : Nat} {v : Value} {l : List ByteArray} (h : SRow w B v l) (he : ∀ k, v.ownBlock = some k → w'.heap[k]? = w.heap[k]?) : SRow w' B v l := by
  refine ⟨h.1, ?_⟩
  rcases h.2 with hq | ⟨g, cap, cur, rfl, hb, hgg, rest⟩
  · exact .inl hq
  · exact .inr ⟨g, cap, cur, rfl, hb, (he g rfl).trans hgg, rest⟩
theorem SRow.ge {w : World} {B : Nat} {v : Value} {l : List ByteArray} (h : SRow w B v l) : ∀ k, v.ownBlock = some k → B ≤ k ∧ k < w.heap.size := World.ownsRow.lt h
theorem ancF_ok {c : Scn} {s : Int} {lang : ByteArray} (hD : ∀ p ∈ c.D, okI p.base) : ∀ (n : Nat) (b : Int), okI b → okI (ancF c s lang n b)
  | 0, _, _ => by unfold ancF okI; omega
  | n + 1, b, hb => by
    unfold ancF
    split
    · unfold okI; omega
    · split
      · unfold okI; omega
      · next p hp =>
        split
        · exact hb
        · exact ancF_ok hD n p.base (hD p (lastRev_mem hp).1)
theorem SRow.strs {w : World} {B : Nat} {v : Value} {l : List ByteArray} (h : SRow w B v l) (hl : ∀ s ∈ l, s.size ≤ maxLen) : StrsM (memFr w (fun k => k < B)) v l := by
  rcases h.2 with ⟨rfl, hz⟩ | ⟨g, cap, cur, rfl, hb, hgg, hn, hc, hs, ht⟩
  · have : l = [] := List.eq_nil_of_length_eq_zero hz
    subst this
    exact StrsM.nil _
  · refine ⟨g, 0, ⟨Nat.le_trans hn hc, some ⟨g, 0, none⟩, cap, rfl, hn, hc, fun _ => rfl⟩, hl, fun j hj => ?_⟩
    refine memFr_of ?_ (blk_free hgg _) (by show ¬ g < B; omega)
    rw [blk_cell hgg]
    have h5 : (cur.toList.take (l.length * 1))[j]? = (l.map Value.string)[j]? := by rw [ht]
    rw [List.getElem?_take_of_lt (by omega)] at h5
    rw [Nat.zero_add, ← Array.getElem?_toList, h5, List.getElem?_map, List.getElem?_eq_getElem hj]
    rfl
end Go.Proofs.YtgbihmafmmeicaaGreatDoor
namespace Go.Proofs.YtgbihmafmmeicaaGreatDoor
open Go.RowKit Mg Go.Shelf

def RevPost (SC : Scn) (x : Fct) (W : World) (e : Ending) (w' : World) : Prop := ∃ y : FctE, e = .returned (.agg y.cells) ∧ y.f = revisedF SC x ∧ y.ok (memFr w' (fun k => k < W.heap.size)) ∧ Below W.heap.size W w'
theorem blk_set {W : World} {g j : Nat} {cs : Array Value} {t : TypeId} {u : Value} (h : W.heap[g]? = some (.cells cs t (0, 0))) : (W.setCell ⟨g, j, none⟩ u).heap[g]? = some (.cells (cs.setIfInBounds j u) t (0, 0)) := by
  rw [setCell_eq_setRow W g j cs t (0, 0) u h]
  exact setRow_heap _ _ _ _ _ _ h
set_option maxRecDepth 100000 in
set_option maxHeartbeats 2000000 in
theorem revised_any {mem : Addr → Option Value} {W : World} {io db cb nb ob d B : Nat} {gs : List FctE} {cls now : Int} {ov : Value} {out : List Int} (h : OpenM W io db cb nb ob d B gs cls now ov out) (hgs : ∀ e ∈ gs, e.ok mem ∧ validF e.f = true) (hsee : Sees mem W) (x : FctE) (hx : x.ok mem) (hv : validF x.f = true) (hk : x.f.kind = 1) :
    Calls Tryz.prog 58 #[.pointer (some ⟨d, 0, none⟩), .agg x.cells, openV io db cb nb ob] W (RevPost (sceneOf gs cls now out) x.f W) := by
  have H := Lib.hid h
  have HG := Lib.hid hgs
  have HS := Lib.hid hsee
  obtain ⟨s, hs, hs1, hs64⟩ := good_story hv (.inl hk)
  have HTL : Hid (x.f.topics.length ≤ 100000) := Lib.hid (by
    have h1 := validF_revise hv hk
    unfold reviseOK topicsOK at h1
    simp only [Bool.and_eq_true, decide_eq_true_eq] at h1
    have := h1.1.1.2.1
    omega)
  have HTS : Hid (∀ z ∈ x.f.topics, z.size ≤ maxLen) := Lib.hid (by obtain ⟨_, _, _, h, _⟩ := hx.parts.1; exact h)
  have HVL : Hid (ValidL x.f.blocks) := Lib.hid (revise_parts (validF_revise hv hk)).2.2.1
  obtain ⟨ao', cap', b, o, e0, hcap, hcm, hao, hbl⟩ := hx.parts.2.1.open_
  have HX := Lib.hid hx
  have HV := Lib.hid (And.intro hv hs)
  have HKD := Lib.hid hk
  injection e0 with e1 e2 e3
  subst e1 e3
  obtain ⟨vba, hvba⟩ : ∃ v, v = x.ba := ⟨_, rfl⟩
  rw [← hvba] at hao
  have HAO := Lib.hid hao
  have HBL := Lib.hid hbl
  have hlen : (x.f.blocks.length : Int) ≤ 9223372036854775807 := by unfold maxLen at hcm; omega
  have hcs3 : x.cells[3]? = some (.int .i64 (s : Nat)) := by rw [← hs]; rfl
  have k10 : ∀ ob, ((W.alloc (.cells x.cells 45)).alloc ob).cell? ⟨W.heap.size, 10, none⟩ = some (.slice vba x.f.blocks.length x.bc) := fun ob => by
    rw [blk_cell (heap_new1 W _ ob), hvba]; rfl
  have h0 : Hid (Below W.heap.size W ((W.alloc (.cells x.cells 45)).alloc (.cells fe0.cells 45)) ∧ ((W.alloc (.cells x.cells 45)).alloc (.cells fe0.cells 45)).heap[W.heap.size]? = some (.cells x.cells 45 (0, 0)) ∧ ((W.alloc (.cells x.cells 45)).alloc (.cells fe0.cells 45)).heap[W.heap.size + 1]? = some (.cells fe0.cells 45 (0, 0))) :=
    Lib.hid ⟨((Below.refl _ W).alloc (Nat.le_refl _) _).alloc (by simp) _, heap_new1 W _ _, heap_new2 W _ _⟩
  have HC3 := Lib.hid hcs3
  clear hvba h hgs hsee hx hv hk hs hao hbl hcs3 hcap hcm
  obtain ⟨SC, hSC⟩ : ∃ SC, SC = sceneOf gs cls now out := ⟨_, rfl⟩
  rw [← hSC]
  have HSC := Lib.hid hSC
  clear hSC
  go_enter Tryz.func58, Tryz.ntmps58
  go_wp2_with fail
  clear k10
  go_loopw [13, 7] (fun i v wr => ∃ k : Nat, k ≤ x.f.blocks.length ∧ i = .int .i64 k ∧ CRow wr (W.heap.size + 2) v ((x.f.blocks.take k).filter fun y => SC.isOpen (s : Nat) y.lab) ∧ Below W.heap.size W wr ∧ wr.heap[W.heap.size]? = some (.cells x.cells 45 (0, 0)) ∧ wr.heap[W.heap.size + 1]? = some (.cells fe0.cells 45 (0, 0))) (fun i _ _ => x.f.blocks.length - (intOf i).toNat)
  case atStart => exact ⟨0, Nat.zero_le _, rfl, CRow.nil _ _, h0.out.1, h0.out.2.1, h0.out.2.2⟩
  case round =>
    obtain ⟨k, hk, rfl, hrow, hb, hx0, hx1⟩ := hrel
    obtain ⟨ra, rc, rfl⟩ := hrow.sl
    have HR := Lib.hid hrow
    have HB := Lib.hid hb
    have HX0 := Lib.hid hx0
    have HX1 := Lib.hid hx1
    by_cases hlt : k < x.f.blocks.length
    · obtain ⟨_, lo, lc, hints, c9⟩ := (HBL.out k hlt).nine (HS.out.bel hb)
      obtain ⟨c0, c1, c2, c3, c4, c5, c6, c7, c8⟩ := c9
      obtain rfl := HAO.out (by omega)
      have hbl : b < wr.heap.size := World.block_lt_of_cell? wr _ c0
      have hstep : (x.f.blocks.take (k + 1)).filter (fun y => SC.isOpen (s : Nat) y.lab) = (x.f.blocks.take k).filter (fun y => SC.isOpen (s : Nat) y.lab) ++ (if SC.isOpen (s : Nat) x.f.blocks[k].lab then [x.f.blocks[k]] else []) := by
        rw [List.take_succ_eq_append_getElem hlt, List.filter_append]; by_cases q : SC.isOpen (s : Nat) x.f.blocks[k].lab = true <;> simp [q]
      have HST := Lib.hid hstep
      have HI := Lib.hid hints
      clear hrow hb hx0 hx1 hstep hints
      generalize x.f.blocks[k] = y at *
      obtain ⟨id, kind, text, story, ref, ⟨till, after, appr, denied⟩⟩ := y
      dsimp only at *
      have hBn : Below wr.heap.size wr (wr.alloc (.cells #[.int .i64 id, .int .i64 kind, .string text, .int .i64 story, .int .i64 ref, .int .i64 till, .slice lo after.length lc, .int .i64 appr, .int .i64 denied] 56)) := (Below.refl _ wr).alloc (Nat.le_refl _) _
      have HON := Lib.hid ((H.out.bel HB.out).bel hBn)
      have HCA : Hid (Calls Tryz.prog 57 #[.int .i64 (s : Nat), .agg #[.int .i64 till, .slice lo after.length lc, .int .i64 appr, .int .i64 denied], .pointer (some ⟨io, 0, none⟩), .pointer (some ⟨db, 0, none⟩), .pointer (some ⟨cb, 0, none⟩), .pointer (some ⟨nb, 0, none⟩), .pointer (some ⟨ob, 0, none⟩)] (wr.alloc (.cells #[.int .i64 id, .int .i64 kind, .string text, .int .i64 story, .int .i64 ref, .int .i64 till, .slice lo after.length lc, .int .i64 appr, .int .i64 denied] 56)) fun e w' => e = .returned (.bool (SC.isOpen (s : Nat) ⟨till, after, appr, denied⟩)) ∧ Below (wr.alloc (.cells #[.int .i64 id, .int .i64 kind, .string text, .int .i64 story, .int .i64 ref, .int .i64 till, .slice lo after.length lc, .int .i64 appr, .int .i64 denied] 56)).heap.size (wr.alloc (.cells #[.int .i64 id, .int .i64 kind, .string text, .int .i64 story, .int .i64 ref, .int .i64 till, .slice lo after.length lc, .int .i64 appr, .int .i64 denied] 56)) w') := Lib.hid (by
        rw [HSC.out]
        have hse := (HS.out.bel HB.out).bel hBn
        exact open_any HON.out s (by omega) ⟨till, after, appr, denied⟩ (.slice lo after.length lc) (HI.out.mono (fun a u h => hse a u h)))
      generalize SC.isOpen (s : Nat) ⟨till, after, appr, denied⟩ = q at HST HCA
      have k3 : (wr.alloc (.cells #[.int .i64 id, .int .i64 kind, .string text, .int .i64 story, .int .i64 ref, .int .i64 till, .slice lo after.length lc, .int .i64 appr, .int .i64 denied] 56)).cell? ⟨W.heap.size, 3, none⟩ = some (.int .i64 (s : Nat)) := by
        rw [blk_cell ((hBn.block _ (Go.Proofs.YtgbihmafmmeicaaGreatDoor.hlt HX0.out)).trans HX0.out), HC3.out]
      have HBN := Lib.hid hBn
      clear hBn
      go_wp2_with fail
      refine HCA.out.mono ?_
      rintro e w3 ⟨rfl, hb3⟩
      have hh3 := (hb3.block wr.heap.size (by simp)).trans (World.alloc_heap_new wr (.cells #[.int .i64 id, .int .i64 kind, .string text, .int .i64 story, .int .i64 ref, .int .i64 till, .slice lo after.length lc, .int .i64 appr, .int .i64 denied] 56))
      have hw3 : Below wr.heap.size wr w3 := HBN.out.trans (hb3.mono HBN.out.size)
      have HR3 : Hid (∀ w', Upd (fun b => b = wr.heap.size) w3 w' → CRow w' (W.heap.size + 2) (.slice ra ((x.f.blocks.take k).filter fun y => SC.isOpen (s : Nat) y.lab).length rc) ((x.f.blocks.take k).filter fun y => SC.isOpen (s : Nat) y.lab)) := Lib.hid (fun w' hu => HR.out.same fun j hj => by
        have h1 := (HR.out.ge j hj).2
        exact (hu.block j (by have := hw3.size; omega) (by omega)).trans (hw3.block j h1))
      have HB3 := Lib.hid (And.intro (HB.out.trans (hw3.mono HB.out.size)) (And.intro ((hw3.block _ (Go.Proofs.YtgbihmafmmeicaaGreatDoor.hlt HX0.out)).trans HX0.out) ((hw3.block _ (Go.Proofs.YtgbihmafmmeicaaGreatDoor.hlt HX1.out)).trans HX1.out)))
      have hN2 : W.heap.size + 1 < wr.heap.size := Go.Proofs.YtgbihmafmmeicaaGreatDoor.hlt HX1.out
      have hgw3 : wr.heap.size < w3.heap.size := Go.Proofs.YtgbihmafmmeicaaGreatDoor.hlt hh3
      clear hb3 hw3 k3
      cases q
      · clear hh3
        go_wp2_with fail
        go_roundw
        case rel => exact ⟨k + 1, by omega, by go_num, by rw [HST.out]; simpa using HR3.out w3 (Upd.refl _ _), HB3.out.1, HB3.out.2.1, HB3.out.2.2⟩
        case measure => simp [intOf]; omega
      · have d0 := blk_cell hh3 0
        have d1 := blk_cell hh3 1
        have d2 := blk_cell hh3 2
        have d3 := blk_cell hh3 3
        have d4 := blk_cell hh3 4
        have d5 := blk_cell hh3 5
        have d6 := blk_cell hh3 6
        have d7 := blk_cell hh3 7
        have d8 := blk_cell hh3 8
        have f5 := blk_free hh3 5
        have f6 := blk_free hh3 6
        have f7 := blk_free hh3 7
        have f8 := blk_free hh3 8
        simp only [List.getElem?_toArray, List.getElem?_cons_zero, List.getElem?_cons_succ] at d0 d1 d2 d3 d4 d5 d6 d7 d8
        have HUP : Hid (∀ u5 u6 u7 u8 ob, Upd (fun b => b = wr.heap.size) w3 (((((w3.setCell ⟨wr.heap.size, 5, none⟩ u5).setCell ⟨wr.heap.size, 6, none⟩ u6).setCell ⟨wr.heap.size, 7, none⟩ u7).setCell ⟨wr.heap.size, 8, none⟩ u8).alloc ob)) := Lib.hid (fun u5 u6 u7 u8 ob => ((((((Upd.refl (fun b => b = wr.heap.size) w3).setCell (p := ⟨wr.heap.size, 5, none⟩) (.inl rfl) u5).setCell (p := ⟨wr.heap.size, 6, none⟩) (.inl rfl) u6).setCell (p := ⟨wr.heap.size, 7, none⟩) (.inl rfl) u7).setCell (p := ⟨wr.heap.size, 8, none⟩) (.inl rfl) u8).alloc ob))
        have HNB : Hid (∀ u5 u6 u7 u8 ob, (((((w3.setCell ⟨wr.heap.size, 5, none⟩ u5).setCell ⟨wr.heap.size, 6, none⟩ u6).setCell ⟨wr.heap.size, 7, none⟩ u7).setCell ⟨wr.heap.size, 8, none⟩ u8).alloc ob).heap[w3.heap.size]? = some ob) := Lib.hid (fun u5 u6 u7 u8 ob => by
          have h := World.alloc_heap_new ((((w3.setCell ⟨wr.heap.size, 5, none⟩ u5).setCell ⟨wr.heap.size, 6, none⟩ u6).setCell ⟨wr.heap.size, 7, none⟩ u7).setCell ⟨wr.heap.size, 8, none⟩ u8) ob
          simpa using h)
        have hfl : ((x.f.blocks.take k).filter fun y => SC.isOpen (s : Nat) y.lab).length ≤ 100000 := by
          have h1 := List.length_filter_le (fun y => SC.isOpen (s : Nat) y.lab) (x.f.blocks.take k)
          have h2 := (HVL.out).1
          have h3 : (x.f.blocks.take k).length ≤ x.f.blocks.length := by rw [List.length_take]; omega
          omega
        clear hh3
        go_wp2_with (at_builtin
                     go_must (refine wpList_app_bare rfl _ _ rfl (W.heap.size + 2) _ _ rfl (HR3.out _ (HUP.out _ _ _ _ _)) ⟨id, kind, text, story, ref, ⟨till, after, appr, denied⟩⟩ w3.heap.size 1 rfl (HNB.out _ _ _ _ _) hfl (by have := (HUP.out (.int .i64 0) nilS (.int .i64 0) (.int .i64 0) (.cells #[] 0)).size; simp; omega) ?_)
                     intro v4 w4 h4 hg4
                     have hu4 := ((HUP.out _ _ _ _ _).mono (G := fun j => j = wr.heap.size ∨ (Value.slice ra ((x.f.blocks.take k).filter fun y => SC.isOpen (s : Nat) y.lab).length rc).ownBlock = some j) (fun i e => .inl (.inl e))).grown hg4 (fun j e => .inl (.inr e))
                     have hge := HR.out.ge
                     have HF4 : Hid (Below W.heap.size W w4 ∧ w4.heap[W.heap.size]? = some (.cells x.cells 45 (0, 0)) ∧ w4.heap[W.heap.size + 1]? = some (.cells fe0.cells 45 (0, 0))) := Lib.hid ⟨HB3.out.1.trans (hu4.below (fun j e => by rcases e with e | e; omega; (have := (hge j e).1; omega)) (by have := HB3.out.1.size; omega)), (hu4.block _ (Go.Proofs.YtgbihmafmmeicaaGreatDoor.hlt HB3.out.2.1) (fun e => by rcases e with e | e; omega; (have := (hge _ e).1; omega))).trans HB3.out.2.1, (hu4.block _ (Go.Proofs.YtgbihmafmmeicaaGreatDoor.hlt HB3.out.2.2) (fun e => by rcases e with e | e; omega; (have := (hge _ e).1; omega))).trans HB3.out.2.2⟩
                     have H4 : Hid (CRow w4 (W.heap.size + 2) v4 ((x.f.blocks.take (k + 1)).filter fun y => SC.isOpen (s : Nat) y.lab)) := Lib.hid (by rw [HST.out]; exact h4)
                     clear hu4 hge h4 hg4 d0 d1 d2 d3 d4 d5 d6 d7 d8 f5 f6 f7 f8)
        go_roundw
        case rel => exact ⟨k + 1, by omega, by go_num, H4.out, HF4.out.1, HF4.out.2.1, HF4.out.2.2⟩
        case measure => simp [intOf]; omega
    · have e : k = x.f.blocks.length := by omega
      subst e
      have HL : Hid (CRow wr (W.heap.size + 2) (.slice ra ((x.f.blocks.take x.f.blocks.length).filter fun y => SC.isOpen (s : Nat) y.lab).length rc) (x.f.blocks.filter fun y => SC.isOpen (s : Nat) y.lab)) := Lib.hid (by have h := HR.out; rw [List.take_length] at h ⊢; exact h)
      have c9 : wr.cell? ⟨W.heap.size, 9, none⟩ = some x.tv := blk_cell HX0.out 9
      clear hrow hb hx0 hx1 HR
      have HT : Hid (StrsM mem (.slice x.ta x.f.topics.length x.tc) x.f.topics ∧ x.f.topics.length ≤ 100000) := Lib.hid ⟨HX.out.parts.1, HTL.out⟩
      have HSR := Lib.hid (HS.out.bel HB.out)
      go_wp2_with (first
        | (with_reducible refine at_fload_stand _ rfl ?_)
        | (at_builtin
           go_must (refine wpList_app_strs rfl _ _ rfl rfl x.ta x.tc x.f.topics rfl HT.out.1 HSR.out HT.out.2 ?_)
           intro v5 w5 h5 hg5
           have q0 := (hg5.block W.heap.size (Go.Proofs.YtgbihmafmmeicaaGreatDoor.hlt HX0.out) (by simp)).trans HX0.out
           have q1 := (hg5.block (W.heap.size + 1) (Go.Proofs.YtgbihmafmmeicaaGreatDoor.hlt HX1.out) (by simp)).trans HX1.out
           have H5 := Lib.hid (And.intro h5 (And.intro hg5 (And.intro q0 q1)))
           have d9 : w5.cell? ⟨W.heap.size, 9, none⟩ = some x.tv := blk_cell q0 9
           have d10 : w5.cell? ⟨W.heap.size, 10, none⟩ = some x.bv := blk_cell q0 10
           have d11 : w5.cell? ⟨W.heap.size, 11, none⟩ = some (.int .i64 x.f.lab.till) := blk_cell q0 11
           have d12 : w5.cell? ⟨W.heap.size, 12, none⟩ = some x.av := blk_cell q0 12
           have d13 : w5.cell? ⟨W.heap.size, 13, none⟩ = some (.int .i64 x.f.lab.appr) := blk_cell q0 13
           have d14 : w5.cell? ⟨W.heap.size, 14, none⟩ = some (.int .i64 x.f.lab.denied) := blk_cell q0 14
           have g9 := blk_free q0 9
           have g10 := blk_free q0 10
           have g11 := blk_free q0 11
           have g12 := blk_free q0 12
           have g13 := blk_free q0 13
           have g14 := blk_free q0 14
           obtain ⟨ta5, tc5, rfl⟩ : ∃ a c, v5 = .slice a x.f.topics.length c := by
             rcases h5.2 with ⟨e5, hz5⟩ | ⟨g5, cap5, cur5, e5, _⟩
             · exact ⟨none, 0, by rw [e5, hz5]⟩
             · exact ⟨_, _, e5⟩
           clear q0 q1 h5 hg5 c9))
      show wpList _ _ _ _ _ _
      generalize hW6 : (World.setCell (World.setCell (World.setCell (World.setCell (World.setCell (World.setCell w5 ⟨W.heap.size, 9, none⟩ _) ⟨W.heap.size, 10, none⟩ _) ⟨W.heap.size, 11, none⟩ _) ⟨W.heap.size, 12, none⟩ _) ⟨W.heap.size, 13, none⟩ _) ⟨W.heap.size, 14, none⟩ _) = W6
      obtain ⟨fb, hfb⟩ : ∃ fb, fb = x.f.blocks.filter fun y => SC.isOpen (s : Nat) y.lab := ⟨_, rfl⟩
      rw [← hfb] at HL hW6
      obtain ⟨y1, hy1⟩ : ∃ y1 : FctE, y1 = ⟨{ x.f with blocks := fb.map bareB, lab := lab0 }, ta5, tc5, ra, rc, none, 0⟩ := ⟨_, rfl⟩
      have hu6 : Upd (fun b => b = W.heap.size) w5 W6 := by
        rw [← hW6]
        exact ((((((Upd.refl (fun b => b = W.heap.size) w5).setCell (p := ⟨W.heap.size, 9, none⟩) (.inl rfl) _).setCell (p := ⟨W.heap.size, 10, none⟩) (.inl rfl) _).setCell (p := ⟨W.heap.size, 11, none⟩) (.inl rfl) _).setCell (p := ⟨W.heap.size, 12, none⟩) (.inl rfl) _).setCell (p := ⟨W.heap.size, 13, none⟩) (.inl rfl) _).setCell (p := ⟨W.heap.size, 14, none⟩) (.inl rfl) _
      have hc6 : W6.heap[W.heap.size]? = some (.cells y1.cells 45 (0, 0)) := by
        rw [← hW6, hy1]
        have h := blk_set (j := 14) (u := .int .i64 0) (blk_set (j := 13) (u := .int .i64 0) (blk_set (j := 12) (u := nilS) (blk_set (j := 11) (u := .int .i64 0) (blk_set (j := 10) (u := .slice ra fb.length rc) (blk_set (j := 9) (u := .slice ta5 x.f.topics.length tc5) H5.out.2.2.1)))))
        rw [show fb.length = (fb.map bareB).length by simp] at h ⊢
        exact h
      have hb5 : Below wr.heap.size wr w5 := (Below.refl _ wr).grown H5.out.2.1 (Nat.le_refl _) (fun k e => by cases e)
      have hz5 : W.heap.size + 1 < w5.heap.size := Go.Proofs.YtgbihmafmmeicaaGreatDoor.hlt H5.out.2.2.2
      have hW56 : Below W.heap.size w5 W6 := hu6.below (fun k e => by omega) (by omega)
      have HW6 : Hid (Below W.heap.size W W6) := Lib.hid ((HB.out.trans (hb5.mono HB.out.size)).trans hW56)
      have hq6 : W6.heap[W.heap.size + 1]? = some (.cells fe0.cells 45 (0, 0)) := (hu6.block _ hz5 (by omega)).trans H5.out.2.2.2
      have hxf := HX.out.fok
      have hfok : FOK y1.f := by
        rw [hy1]
        refine ⟨hxf.i0, hxf.i1, hxf.i2, hxf.i3, hxf.s4, hxf.i5, hxf.i6, hxf.s7, hxf.s8, ?_, ?_, ?_, hxf.i15, hxf.i16, hxf.i17, hxf.s18, hxf.s19, hxf.i20, hxf.i21, hxf.i22, fun z hz => ?_⟩
        · show okI 0; unfold okI; omega
        · show okI 0; unfold okI; omega
        · show okI 0; unfold okI; omega
        · obtain ⟨z0, hz0, rfl⟩ := List.mem_map.1 hz
          rw [hfb] at hz0
          exact hxf.bl z0 (List.mem_filter.1 hz0).1
      obtain ⟨⟨hr1, hr2⟩, ⟨hba0, hba1⟩, _, _⟩ := revise_parts (validF_revise HV.out.1 HKD.out)
      have HAN := ancestor_any (H.out.bel HW6.out) HG.out (HS.out.bel HW6.out) y1 hfok (by rw [hy1]; exact hba0) (by rw [hy1]; show x.f.base ≤ 100; omega)
      rw [show ancF (sceneOf gs cls now out) y1.f.story y1.f.lang 101 y1.f.base = ancF SC x.f.story x.f.lang 101 x.f.base by rw [hy1, HSC.out]] at HAN
      have HANC := Lib.hid HAN
      have hsz1 : Hid (y1.cells.size = 23) := Lib.hid rfl
      have HC6 := Lib.hid (And.intro hc6 hq6)
      have HY1 := Lib.hid (And.intro hy1 (And.intro hfb hfok))
      have HU6 := Lib.hid (And.intro hu6 hb5)
      generalize hRES : ancF SC x.f.story x.f.lang 101 x.f.base = RES at HANC
      have HRES := Lib.hid hRES
      clear hRES HAN hr1 hr2 hba0 hba1 hxf hfok hc6 hq6 hy1 hfb hu6 hb5 hW6 hW56
      go_wp2_with ((with_reducible refine at_fload _ rfl ?_); go_must (refine wpList_fct_load rfl _ rfl W.heap.size (by simp [Act.eval]) _ HC6.out.1 hsz1.out ?_))
      refine HANC.out.mono ?_
      rintro e w7 ⟨rfl, hb7⟩
      have h7 := (hb7.block W.heap.size (Go.Proofs.YtgbihmafmmeicaaGreatDoor.hlt HC6.out.1)).trans HC6.out.1
      have h71 := (hb7.block (W.heap.size + 1) (Go.Proofs.YtgbihmafmmeicaaGreatDoor.hlt HC6.out.2)).trans HC6.out.2
      have d6 : w7.cell? ⟨W.heap.size, 6, none⟩ = some (.int .i64 y1.f.base) := blk_cell h7 6
      have f6 := blk_free h7 6
      obtain ⟨y2, hy2⟩ : ∃ y2 : FctE, y2 = ⟨{ y1.f with base := RES }, y1.ta, y1.tc, y1.ba, y1.bc, y1.aa, y1.ac⟩ := ⟨_, rfl⟩
      have h8 : (w7.setCell ⟨W.heap.size, 6, none⟩ (.int .i64 RES)).heap[W.heap.size]? = some (.cells y2.cells 45 (0, 0)) := by rw [hy2]; exact blk_set h7
      have h81 : (w7.setCell ⟨W.heap.size, 6, none⟩ (.int .i64 RES)).heap[W.heap.size + 1]? = some (.cells fe0.cells 45 (0, 0)) := ((upd_cell w7 W.heap.size 6 (.int .i64 RES)).block _ (Go.Proofs.YtgbihmafmmeicaaGreatDoor.hlt h71) (by omega)).trans h71
      have HC8 := Lib.hid (And.intro h8 h81)
      have hsz2 : Hid (y2.cells.size = 23) := Lib.hid rfl
      have hone2 := Lib.hid y2.one
      have HY2 := Lib.hid hy2
      have HB7 := Lib.hid hb7
      clear h7 h71 h8 h81 hy2 hb7
      go_wp2_with (first
        | ((with_reducible refine at_fload _ rfl ?_); go_must (refine wpList_fct_load rfl _ rfl W.heap.size (by simp [Act.eval]) _ HC8.out.1 hsz2.out ?_))
        | ((with_reducible refine at_fstore _ _ rfl ?_); go_must (refine wpList_store_rowTo rfl 45 _ _ rfl rfl (W.heap.size + 1) _ (by simp [Act.eval, Act.put]) (by simp [Act.eval, Act.put]) 45 _ HC8.out.2 (by rw [fct_size, hsz2.out]) (by rw [hsz2.out]; rfl) hone2.out ?_)))
      obtain ⟨fs, hun⟩ := fct_under
      refine bodyPost_ret (results_cell_row (p := 6) (ty := 45) (by kernel_rfl) _ _ (W.heap.size + 1) _ y2.cells (0, 0) _ (by simp [Act.put]) (setRow_heap _ _ _ _ _ _ HC8.out.2) hun rfl (by rw [fct_size, hsz2.out])) rfl ?_
      have hz7 : W6.heap.size ≤ w7.heap.size := HB7.out.size
      have hz6 := HU6.out.1.size
      have hz5 : W.heap.size + 1 < w5.heap.size := Go.Proofs.YtgbihmafmmeicaaGreatDoor.hlt H5.out.2.2.2
      have hwr : wr.heap.size ≤ w5.heap.size := HU6.out.2.size
      have hN2 : W.heap.size + 1 < wr.heap.size := Go.Proofs.YtgbihmafmmeicaaGreatDoor.hlt HX1.out
      have hsame : ∀ k, k < w5.heap.size → W.heap.size + 2 ≤ k → ((w7.setCell ⟨W.heap.size, 6, none⟩ (.int .i64 RES)).setRow (W.heap.size + 1) y2.cells).heap[k]? = w5.heap[k]? := fun k h1 h2 =>
        (setRow_other _ _ _ _ (by omega)).trans (((upd_cell w7 W.heap.size 6 (.int .i64 RES)).block k (by omega) (by omega)).trans ((HB7.out.block k (by omega)).trans (HU6.out.1.block k h1 (by omega))))
      have hSR := H5.out.1.same (w' := (w7.setCell ⟨W.heap.size, 6, none⟩ (.int .i64 RES)).setRow (W.heap.size + 1) y2.cells) fun k hk => hsame k (H5.out.1.ge k hk).2 (by have := (H5.out.1.ge k hk).1; omega)
      have hCR := HL.out.same (w' := (w7.setCell ⟨W.heap.size, 6, none⟩ (.int .i64 RES)).setRow (W.heap.size + 1) y2.cells) fun k hk => by
        have h1 := HL.out.ge k hk
        exact (hsame k (by omega) h1.1).trans (HU6.out.2.block k h1.2)
      have hxf := HX.out.fok
      obtain ⟨hy1, hfb, hfok⟩ := HY1.out
      have hbase : okI RES := by
        rw [← HRES.out]
        refine ancF_ok (fun p hp => ?_) 101 _ hxf.i6
        rw [HSC.out] at hp
        obtain ⟨e, he, rfl⟩ := List.mem_map.1 (show p ∈ gs.map FctE.f from hp)
        exact (HG.out e he).1.fok.i6
      refine ⟨y2, rfl, ?_, ⟨?_, ?_⟩, ?_⟩
      · rw [HY2.out, hy1, hfb, ← HRES.out, ← HV.out.2]
        rfl
      · rw [HY2.out]
        exact ⟨hfok.i0, hfok.i1, hfok.i2, hfok.i3, hfok.s4, hfok.i5, hbase, hfok.s7, hfok.s8, hfok.i11, hfok.i13, hfok.i14, hfok.i15, hfok.i16, hfok.i17, hfok.s18, hfok.s19, hfok.i20, hfok.i21, hfok.i22, hfok.bl⟩
      · have hm : ∀ (B2 : Nat), W.heap.size ≤ B2 → ∀ a u, memFr ((w7.setCell ⟨W.heap.size, 6, none⟩ (.int .i64 RES)).setRow (W.heap.size + 1) y2.cells) (fun k => k < B2) a = some u → memFr ((w7.setCell ⟨W.heap.size, 6, none⟩ (.int .i64 RES)).setRow (W.heap.size + 1) y2.cells) (fun k => k < W.heap.size) a = some u := fun B2 hB2 =>
          memFr_mono (Upd.refl (fun _ => False) _) (fun k _ hf => ⟨fun g => hf (by omega), fun g => g⟩)
        have p1 := (hSR.strs HTS.out).mono (hm wr.heap.size (by omega))
        have p2 := (hCR.brow.blks (fun z hz => by
          obtain ⟨z0, hz0, rfl⟩ := List.mem_map.1 hz
          rw [hfb] at hz0
          exact hxf.bl z0 (List.mem_filter.1 hz0).1)).mono (hm (W.heap.size + 2) (by omega))
        generalize memFr ((w7.setCell ⟨W.heap.size, 6, none⟩ (.int .i64 RES)).setRow (W.heap.size + 1) y2.cells) (fun k => k < W.heap.size) = MM at p1 p2 ⊢
        rw [HY2.out, hy1]
        refine ⟨p1, ?_, IntsM.nil _⟩
        rw [List.take_length, ← hfb] at p2
        simpa [FctE.bv] using p2
      · exact HW6.out.trans ((HB7.out.mono HW6.out.size).trans (((upd_cell w7 W.heap.size 6 (.int .i64 RES)).below (fun k e => by omega) (by have := HW6.out.size; omega)).trans (below_setRow (Below.refl _ _) (by omega) _)))
end Go.Proofs.YtgbihmafmmeicaaGreatDoor
namespace Go.Proofs.YtgbihmafmmeicaaGreatDoor
open Go.RowKit Mg Go.Shelf

theorem and_all : ∀ a : Fin 64, ∀ b : Fin 64, bits BinOp.and IntKind.i64 ((a.1 * 64 + b.1 : Nat) : Int) 7 = (((a.1 * 64 + b.1) % 8 : Nat) : Int) ∧ bits BinOp.and IntKind.i64 ((a.1 * 64 + b.1 : Nat) : Int) 3 = (((a.1 * 64 + b.1) % 4 : Nat) : Int) ∧ bits BinOp.and IntKind.i64 ((a.1 * 64 + b.1 : Nat) : Int) 1 = (((a.1 * 64 + b.1) % 2 : Nat) : Int) := by decide +kernel
theorem and_low {k : Nat} (h : k < 4096) : bits BinOp.and IntKind.i64 ((k : Nat) : Int) 7 = ((k % 8 : Nat) : Int) ∧ bits BinOp.and IntKind.i64 ((k : Nat) : Int) 3 = ((k % 4 : Nat) : Int) ∧ bits BinOp.and IntKind.i64 ((k : Nat) : Int) 1 = ((k % 2 : Nat) : Int) := by
  have := and_all ⟨k / 64, by omega⟩ ⟨k % 64, by omega⟩
  have e : k / 64 * 64 + k % 64 = k := by omega
  simpa only [e] using this
theorem tab_get {w : World} {g : Nat} {l : List Int} (h : w.heap[g]? = some (.cells (l.map (Value.int .i64)).toArray 3 (0, 0))) {j : Nat} (hj : j < l.length) : w.cell? ⟨g, j, none⟩ = some (.int .i64 (l.getD j 0)) := by
  rw [blk_cell h]
  simp [List.getD, List.getElem?_eq_getElem hj]
theorem heap_old (w : World) (o : Obj) {k : Nat} {x : Obj} (h : w.heap[k]? = some x) : (w.alloc o).heap[k]? = some x := by
  have hk : k < w.heap.size := (Array.getElem?_eq_some_iff.1 h).1
  rw [← h]
  exact ((Below.refl _ w).alloc (Nat.le_refl _) o).block k hk
theorem heap4 (w : World) (o0 o1 o2 o3 : Obj) {W : World} (h : (((w.alloc o0).alloc o1).alloc o2).alloc o3 = W) :
    W.heap.size = w.heap.size + 4 ∧ W.heap[w.heap.size]? = some o0 ∧ W.heap[w.heap.size + 1]? = some o1 ∧ W.heap[w.heap.size + 1 + 1]? = some o2 ∧ W.heap[w.heap.size + 1 + 1 + 1]? = some o3 ∧ Below w.heap.size w W := by
  subst h
  have h0 := World.alloc_heap_new w o0
  have h1 := World.alloc_heap_new (w.alloc o0) o1
  have h2 := World.alloc_heap_new ((w.alloc o0).alloc o1) o2
  have h3 := World.alloc_heap_new (((w.alloc o0).alloc o1).alloc o2) o3
  have s0 : ∀ (v : World) (o : Obj), (v.alloc o).heap.size = v.heap.size + 1 := fun v o => by simp
  simp only [s0] at h1 h2 h3
  exact ⟨by simp, heap_old _ _ (heap_old _ _ (heap_old _ _ h0)), heap_old _ _ (heap_old _ _ h1), heap_old _ _ h2, h3, ((((Below.refl _ w).alloc (Nat.le_refl _) _).alloc (by simp) _).alloc (by simp; omega) _).alloc (by simp; omega) _⟩
theorem irow_lit {w : World} {B g : Nat} {l : List Int} (hB : B ≤ g) (hh : w.heap[g]? = some (.cells (l.map encI).toArray 3 (0, 0))) (hl : l.length ≤ 100) : IRow w B (.slice (some ⟨g, 0, none⟩) l.length l.length) l := by
  have h := row_of_cells (xs := l.map encI) hB hh (cap := l.length) (by simp) (by unfold maxLen; omega) (by simp) (fun j u hj => by
    rw [blk_cell hh]; simpa using hj)
  unfold IRow
  simpa using h
theorem lab_under : ∃ fs, Tryz.prog.underlying 34 = some (.struct fs) := ⟨_, Tryz.underlying34⟩
theorem lab_size : (Tryz.prog.info? 34).map (·.size) = some 4 := by kernel_rfl
theorem lab_set {W : World} {H : Nat} {v1 v2 v3 : Int} {av a0 a1 a2 a3 : Value} (h : W.heap[H]? = some (.cells #[a0, a1, a2, a3] 34 (0, 0))) : Upd (fun b => b = H) W ((((W.setCell ⟨H, 0, none⟩ (.int .i64 v1)).setCell ⟨H, 1, none⟩ av).setCell ⟨H, 2, none⟩ (.int .i64 v2)).setCell ⟨H, 3, none⟩ (.int .i64 v3)) ∧
    ((((W.setCell ⟨H, 0, none⟩ (.int .i64 v1)).setCell ⟨H, 1, none⟩ av).setCell ⟨H, 2, none⟩ (.int .i64 v2)).setCell ⟨H, 3, none⟩ (.int .i64 v3)).heap[H]? = some (.cells #[.int .i64 v1, av, .int .i64 v2, .int .i64 v3] 34 (0, 0)) := by
  refine ⟨((((Upd.refl (fun b => b = H) W).setCell (p := ⟨H, 0, none⟩) (.inl rfl) _).setCell (p := ⟨H, 1, none⟩) (.inl rfl) _).setCell (p := ⟨H, 2, none⟩) (.inl rfl) _).setCell (p := ⟨H, 3, none⟩) (.inl rfl) _, ?_⟩
  have h := blk_set (j := 3) (u := .int .i64 v3) (blk_set (j := 2) (u := .int .i64 v2) (blk_set (j := 1) (u := av) (blk_set (j := 0) (u := .int .i64 v1) h)))
  exact h
set_option maxRecDepth 100000 in
set_option maxHeartbeats 1000000 in
theorem mklab_any (n : Int) (hn : okI n) (w : World) :
    Calls Tryz.prog 51 #[.int .i64 n] w fun e w' => ∃ av, e = .returned (.agg (labCells (labelF n) av)) ∧ IRow w' w.heap.size av (labelF n).after ∧ Below w.heap.size w w' := by
  have c1 := fun W => pick_any n 4096 hn (by omega) (by omega) W
  obtain ⟨p0, p1⟩ := pickF_lt (c := n) (n := 4096) (by omega)
  obtain ⟨m, hm⟩ : ∃ m : Nat, pickF n 4096 = (m : Nat) := ⟨(pickF n 4096).toNat, by omega⟩
  rw [hm] at c1 p0 p1
  have HM := Lib.hid hm
  have hm4 : m < 4096 := by omega
  obtain ⟨j1, hj1⟩ : ∃ j, j = m % 8 := ⟨_, rfl⟩
  obtain ⟨j2, hj2⟩ : ∃ j, j = m / 128 % 4 := ⟨_, rfl⟩
  obtain ⟨j3, hj3⟩ : ∃ j, j = m / 512 % 8 := ⟨_, rfl⟩
  obtain ⟨j4, hj4⟩ : ∃ j, j = m / 8 % 4 := ⟨_, rfl⟩
  obtain ⟨j5, hj5⟩ : ∃ j, j = m / 32 % 4 := ⟨_, rfl⟩
  obtain ⟨j6, hj6⟩ : ∃ j, j = m / 32 % 2 := ⟨_, rfl⟩
  obtain ⟨j7, hj7⟩ : ∃ j, j = m / 64 % 2 := ⟨_, rfl⟩
  have a1 := (and_low hm4).1
  have a2 := (and_low (k := m / 128) (by omega)).2.1
  have a3 := (and_low (k := m / 512) (by omega)).1
  have a4 := (and_low (k := m / 8) (by omega)).2.1
  have a5 := (and_low (k := m / 32) (by omega)).2.1
  have a6 := (and_low (k := m / 32) (by omega)).2.2
  have a7 := (and_low (k := m / 64) (by omega)).2.2
  have hL : labelF n = ⟨([0, 0, 0, 5, 10, 15, 20, 20] : List Int).getD j1 0, if j4 = 2 then [1 + (j5 : Int)] else if j4 = 3 then [1 + (j6 : Int), 3 + (j7 : Int)] else [], ([0, 0, 1, 2] : List Int).getD j2 0, ([0, 0, 0, 1, 2, 3, 8, 15] : List Int).getD j3 0⟩ := by
    unfold labelF
    rw [hm, hj1, hj2, hj3, hj4, hj5, hj6, hj7]
    rfl
  obtain ⟨v1, hv1⟩ : ∃ v, v = ([0, 0, 0, 5, 10, 15, 20, 20] : List Int).getD j1 0 := ⟨_, rfl⟩
  obtain ⟨v2, hv2⟩ : ∃ v, v = ([0, 0, 1, 2] : List Int).getD j2 0 := ⟨_, rfl⟩
  obtain ⟨v3, hv3⟩ : ∃ v, v = ([0, 0, 0, 1, 2, 3, 8, 15] : List Int).getD j3 0 := ⟨_, rfl⟩
  rw [← hv1, ← hv2, ← hv3] at hL
  have HV := Lib.hid (And.intro hv1 (And.intro hv2 hv3))
  clear hv1 hv2 hv3
  rw [hL]
  rw [← hj1] at a1
  rw [← hj2] at a2
  rw [← hj3] at a3
  rw [← hj4] at a4
  rw [← hj5] at a5
  rw [← hj6] at a6
  rw [← hj7] at a7
  obtain ⟨l1, l2, l3, l4, l5, l6, l7⟩ : j1 < 8 ∧ j2 < 4 ∧ j3 < 8 ∧ j4 < 4 ∧ j5 < 4 ∧ j6 < 2 ∧ j7 < 2 := by omega
  have L1 : (j1 : Int) < 8 := by omega
  have L2 : (j2 : Int) < 4 := by omega
  have L3 : (j3 : Int) < 8 := by omega
  clear hj1 hj2 hj3 hj4 hj5 hj6 hj7
  push_cast at a2 a3 a4 a5 a6 a7
  clear hm hn hL
  go_enter Tryz.func51, Tryz.ntmps51
  go_wp2_with fail
  refine (c1 _).mono ?_
  rintro e w' ⟨rfl, rfl⟩
  go_wp2_with fail
  generalize hW : World.alloc (World.alloc (World.alloc (World.alloc w _) _) _) _ = W5
  obtain ⟨hz, e0, e1, e2, e3, hb⟩ := heap4 _ _ _ _ _ hW
  clear hW
  have t1 := tab_get (l := [0, 0, 0, 5, 10, 15, 20, 20]) e1 (j := j1) (by simpa using l1)
  rw [← HV.out.1] at t1
  have t2 := tab_get (l := [0, 0, 1, 2]) e2 (j := j2) (by simpa using l2)
  rw [← HV.out.2.1] at t2
  have t3 := tab_get (l := [0, 0, 0, 1, 2, 3, 8, 15]) e3 (j := j3) (by simpa using l3)
  rw [← HV.out.2.2] at t3
  have sl0 : W5.cell? ⟨w.heap.size, 0, none⟩ = some (.int .i64 0) := blk_cell e0 0
  have hfr := blk_free e0
  have HS := Lib.hid (And.intro t1 (And.intro t2 t3))
  have HE := Lib.hid (And.intro e0 (And.intro hz hb))
  clear e0 e1 e2 e3 hb t1 t2 t3
  generalize hL : w.heap.size = H at HS HE hz ⊢
  refine wp_mix [mT, mT, mT, mT, mT, mT, mT, mT, mT, mT, mT, mT, mT, mT, mT, mT, mT, mT, mF, mF] 1000 (fun W2 => W2.cell? ⟨H + 1, j1, none⟩ = some (.int .i64 v1) ∧ W2.cell? ⟨H + 1 + 1, j2, none⟩ = some (.int .i64 v2) ∧ W2.cell? ⟨H + 1 + 1 + 1, j3, none⟩ = some (.int .i64 v3)) (by kernel_rfl) (by kernel_rfl) HS.out ?_
  refine wpMix_take (.slice (some ⟨H + 1, 0, none⟩) 8 8) (fun _ _ _ _ h => h) HS.out (by rfl) (fun W2 hW => by go_simp) ?_
  simp only [Act.put, List.setIfInBounds_toArray, List.set_cons_zero, List.set_cons_succ]
  refine wpMix_take (.int .i64 (m : Nat)) (fun _ _ _ _ h => h) HS.out (by rfl) (fun W2 hW => by go_simp) ?_
  simp only [Act.put, List.setIfInBounds_toArray, List.set_cons_zero, List.set_cons_succ]
  refine wpMix_take (.int .i64 (j1 : Nat)) (fun _ _ _ _ h => h) HS.out (by rfl) (fun W2 hW => by go_simp) ?_
  simp only [Act.put, List.setIfInBounds_toArray, List.set_cons_zero, List.set_cons_succ]
  refine wpMix_take (.pointer (some ⟨H + 1, j1, none⟩)) (fun _ _ _ _ h => h) HS.out (by rfl) (fun W2 hW => by go_simp) ?_
  simp only [Act.put, List.setIfInBounds_toArray, List.set_cons_zero, List.set_cons_succ]
  refine wpMix_take (.int .i64 v1) (fun _ _ _ _ h => h) HS.out (by rfl) (fun W2 hW => by have q0 := hW.1; go_simp) ?_
  simp only [Act.put, List.setIfInBounds_toArray, List.set_cons_zero, List.set_cons_succ]
  refine wpMix_take (.slice (some ⟨H + 1 + 1, 0, none⟩) 4 4) (fun _ _ _ _ h => h) HS.out (by rfl) (fun W2 hW => by go_simp) ?_
  simp only [Act.put, List.setIfInBounds_toArray, List.set_cons_zero, List.set_cons_succ]
  refine wpMix_take (.int .i64 (m : Nat)) (fun _ _ _ _ h => h) HS.out (by rfl) (fun W2 hW => by go_simp) ?_
  simp only [Act.put, List.setIfInBounds_toArray, List.set_cons_zero, List.set_cons_succ]
  refine wpMix_take (.int .i64 ((m / 128 : Nat) : Int)) (fun _ _ _ _ h => h) HS.out (by rfl) (fun W2 hW => by go_simp) ?_
  simp only [Act.put, List.setIfInBounds_toArray, List.set_cons_zero, List.set_cons_succ]
  refine wpMix_take (.int .i64 (j2 : Nat)) (fun _ _ _ _ h => h) HS.out (by rfl) (fun W2 hW => by go_simp) ?_
  simp only [Act.put, List.setIfInBounds_toArray, List.set_cons_zero, List.set_cons_succ]
  refine wpMix_take (.pointer (some ⟨H + 1 + 1, j2, none⟩)) (fun _ _ _ _ h => h) HS.out (by rfl) (fun W2 hW => by go_simp) ?_
  simp only [Act.put, List.setIfInBounds_toArray, List.set_cons_zero, List.set_cons_succ]
  refine wpMix_take (.int .i64 v2) (fun _ _ _ _ h => h) HS.out (by rfl) (fun W2 hW => by have q0 := hW.2.1; go_simp) ?_
  simp only [Act.put, List.setIfInBounds_toArray, List.set_cons_zero, List.set_cons_succ]
  refine wpMix_take (.slice (some ⟨H + 1 + 1 + 1, 0, none⟩) 8 8) (fun _ _ _ _ h => h) HS.out (by rfl) (fun W2 hW => by go_simp) ?_
  simp only [Act.put, List.setIfInBounds_toArray, List.set_cons_zero, List.set_cons_succ]
  refine wpMix_take (.int .i64 (m : Nat)) (fun _ _ _ _ h => h) HS.out (by rfl) (fun W2 hW => by go_simp) ?_
  simp only [Act.put, List.setIfInBounds_toArray, List.set_cons_zero, List.set_cons_succ]
  refine wpMix_take (.int .i64 ((m / 512 : Nat) : Int)) (fun _ _ _ _ h => h) HS.out (by rfl) (fun W2 hW => by go_simp) ?_
  simp only [Act.put, List.setIfInBounds_toArray, List.set_cons_zero, List.set_cons_succ]
  refine wpMix_take (.int .i64 (j3 : Nat)) (fun _ _ _ _ h => h) HS.out (by rfl) (fun W2 hW => by go_simp) ?_
  simp only [Act.put, List.setIfInBounds_toArray, List.set_cons_zero, List.set_cons_succ]
  refine wpMix_take (.pointer (some ⟨H + 1 + 1 + 1, j3, none⟩)) (fun _ _ _ _ h => h) HS.out (by rfl) (fun W2 hW => by go_simp) ?_
  simp only [Act.put, List.setIfInBounds_toArray, List.set_cons_zero, List.set_cons_succ]
  refine wpMix_take (.int .i64 v3) (fun _ _ _ _ h => h) HS.out (by rfl) (fun W2 hW => by have q0 := hW.2.2; go_simp) ?_
  simp only [Act.put, List.setIfInBounds_toArray, List.set_cons_zero, List.set_cons_succ]
  refine wpMix_take (.agg (labCells ⟨v1, [], v2, v3⟩ nilS)) (fun _ _ _ _ h => h) HS.out (by rfl) (fun W2 hW => by go_simp) ?_
  simp only [Act.put, List.setIfInBounds_toArray, List.set_cons_zero, List.set_cons_succ]
  refine wpMix_step (fun K hK => ?_)
  go_simp
  generalize hW6 : (World.alloc W5 _).drew = W6
  have h6 : W6.heap[H + 4]? = some (.cells #[.int .i64 0, nilS, .int .i64 0, .int .i64 0] 34 (0, 0)) := by rw [← hW6, ← hz]; exact World.alloc_heap_new _ _
  have hb6 : Below W5.heap.size W5 W6 := by rw [← hW6]; exact ((Below.refl _ W5).alloc (Nat.le_refl _) _).drew
  have hs6 := sees_bel hb6
  have HS6 := Lib.hid (And.intro (hs6 _ _ HS.out.1) (And.intro (hs6 _ _ HS.out.2.1) (hs6 _ _ HS.out.2.2)))
  have HB6 := Lib.hid (And.intro hb6 h6)
  have k0 := blk_cell h6 0
  have k1 := blk_cell h6 1
  have k2 := blk_cell h6 2
  have k3 := blk_cell h6 3
  have f0 := blk_free h6 0
  have f1 := blk_free h6 1
  have f2 := blk_free h6 2
  have f3 := blk_free h6 3
  simp only [List.getElem?_toArray, List.getElem?_cons_zero, List.getElem?_cons_succ] at k0 k1 k2 k3
  clear hs6 hb6 h6 hW6
  refine hK _ _ HS6.out ?_
  clear hK K
  refine wpMix_step (fun K hK => ?_)
  go_simp
  generalize hW7 : World.setCell (World.setCell (World.setCell (World.setCell W6 _ _) _ _) _ _) _ _ = W7
  have hu7 : Upd (fun b => b = H + 4) W6 W7 := by
    rw [← hW7]
    exact ((((Upd.refl (fun b => b = H + 4) W6).setCell (p := ⟨H + 4, 0, none⟩) (.inl rfl) _).setCell (p := ⟨H + 4, 1, none⟩) (.inl rfl) _).setCell (p := ⟨H + 4, 2, none⟩) (.inl rfl) _).setCell (p := ⟨H + 4, 3, none⟩) (.inl rfl) _
  have h7 : W7.heap[H + 4]? = some (.cells #[.int .i64 v1, nilS, .int .i64 v2, .int .i64 v3] 34 (0, 0)) := by
    rw [← hW7]
    have h := blk_set (j := 3) (u := .int .i64 v3) (blk_set (j := 2) (u := .int .i64 v2) (blk_set (j := 1) (u := nilS) (blk_set (j := 0) (u := .int .i64 v1) HB6.out.2)))
    exact h
  have HS7 := Lib.hid (And.intro (hu7.cell_some HS6.out.1 (by show ¬ (H + 1 = H + 4); omega)) (And.intro (hu7.cell_some HS6.out.2.1 (by show ¬ (H + 1 + 1 = H + 4); omega)) (hu7.cell_some HS6.out.2.2 (by show ¬ (H + 1 + 1 + 1 = H + 4); omega))))
  have r6 : W6.heap[H]? = _ := (HB6.out.1.block H (by omega)).trans HE.out.1
  have r7 : W7.heap[H]? = _ := (hu7.block H (Go.Proofs.YtgbihmafmmeicaaGreatDoor.hlt r6) (by omega)).trans r6
  have HB7 : Hid (Below H w W7) := Lib.hid ((HE.out.2.2.trans (HB6.out.1.mono (by omega))).trans (hu7.below (fun i e => by omega) (by have := Go.Proofs.YtgbihmafmmeicaaGreatDoor.hlt r6; omega)))
  have HH7 := Lib.hid (And.intro h7 r7)
  clear k0 k1 k2 k3 f0 f1 f2 f3
  refine hK _ _ HS7.out ?_
  clear hK K hu7 h7 r6 r7 hW7 hfr sl0 HS6 HS
  have k0 := blk_cell HH7.out.1 0
  have k1 := blk_cell HH7.out.1 1
  have k2 := blk_cell HH7.out.1 2
  have k3 := blk_cell HH7.out.1 3
  have f0 := blk_free HH7.out.1 0
  have f1 := blk_free HH7.out.1 1
  have f2 := blk_free HH7.out.1 2
  have f3 := blk_free HH7.out.1 3
  have m0 := blk_cell HH7.out.2 0
  have m1 := blk_cell HH7.out.2 1
  have m2 := blk_cell HH7.out.2 2
  have m3 := blk_cell HH7.out.2 3
  have g0 := blk_free HH7.out.2 0
  have g1 := blk_free HH7.out.2 1
  have g2 := blk_free HH7.out.2 2
  have g3 := blk_free HH7.out.2 3
  simp only [List.getElem?_toArray, List.getElem?_cons_zero, List.getElem?_cons_succ] at k0 k1 k2 k3 m0 m1 m2 m3
  refine wpMix_nil ?_
  have z7 : H + 4 < W7.heap.size := Go.Proofs.YtgbihmafmmeicaaGreatDoor.hlt HH7.out.1
  have z7' : H < W7.heap.size := by omega
  rcases (show j4 = 0 ∨ j4 = 1 ∨ j4 = 2 ∨ j4 = 3 by omega) with rfl | rfl | rfl | rfl
  · go_wp2_with fail
    generalize hW8 : World.setCell (World.setCell (World.setCell (World.setCell W7 _ _) _ _) _ _) _ _ = W8
    obtain ⟨hu8, h8⟩ := lab_set (v1 := v1) (v2 := v2) (v3 := v3) (av := nilS) HH7.out.2
    rw [hW8] at hu8 h8
    obtain ⟨fs, hun⟩ := lab_under
    refine bodyPost_ret (results_cell_row (p := 2) (ty := 34) (by kernel_rfl) _ _ H _ (labCells ⟨v1, [], v2, v3⟩ nilS) (0, 0) _ (by simp) h8 hun rfl (by rw [lab_size]; rfl)) rfl ?_
    exact ⟨nilS, rfl, World.ownsRow_nil _ _ _ _, HB7.out.trans (hu8.below (fun i e => by omega) (by omega))⟩
  · go_wp2_with fail
    generalize hW8 : World.setCell (World.setCell (World.setCell (World.setCell W7 _ _) _ _) _ _) _ _ = W8
    obtain ⟨hu8, h8⟩ := lab_set (v1 := v1) (v2 := v2) (v3 := v3) (av := nilS) HH7.out.2
    rw [hW8] at hu8 h8
    obtain ⟨fs, hun⟩ := lab_under
    refine bodyPost_ret (results_cell_row (p := 2) (ty := 34) (by kernel_rfl) _ _ H _ (labCells ⟨v1, [], v2, v3⟩ nilS) (0, 0) _ (by simp) h8 hun rfl (by rw [lab_size]; rfl)) rfl ?_
    exact ⟨nilS, rfl, World.ownsRow_nil _ _ _ _, HB7.out.trans (hu8.below (fun i e => by omega) (by omega))⟩
  · go_wp2_with fail
    show bodyPost _ _ _ _ _ _
    generalize hW8 : World.alloc (World.setCell (World.setCell (World.setCell (World.setCell (World.setCell W7 _ _) _ _) _ _) _ _) _ _) _ = W8
    have h75 := (show (W7.setCell ⟨H + 4, 1, none⟩ (.slice (some ⟨W7.heap.size, 0, none⟩) 1 1)).heap[H]? = W7.heap[H]? from (upd_cell W7 (H + 4) 1 _).block H z7' (by omega)).trans HH7.out.2
    obtain ⟨hu8, h8⟩ := lab_set (v1 := v1) (v2 := v2) (v3 := v3) (av := .slice (some ⟨W7.heap.size, 0, none⟩) 1 1) h75
    generalize hW9 : World.setCell (World.setCell (World.setCell (World.setCell (World.setCell W7 _ _) _ _) _ _) _ _) _ _ = W9 at hu8 h8 hW8
    have z9 : W9.heap.size = W7.heap.size := by rw [← hW9]; simp
    have hb8 : Below H w W8 := by
      rw [← hW8]
      exact (HB7.out.trans (((upd_cell W7 (H + 4) 1 _).below (fun i e => by omega) (by omega)).trans (hu8.below (fun i e => by omega) (by simp; omega)))).alloc (by omega) _
    have h8' := heap_old _ (.cells (([1 + (j5 : Int)] : List Int).map encI).toArray 3 (0, 0)) h8
    have hn8 : W8.heap[W7.heap.size]? = some (.cells (([1 + (j5 : Int)] : List Int).map encI).toArray 3 (0, 0)) := by rw [← hW8, ← z9]; exact World.alloc_heap_new _ _
    rw [show World.alloc W9 (.cells (([1 + (j5 : Int)] : List Int).map encI).toArray 3 (0, 0)) = W8 from hW8] at h8'
    clear h8
    have h8 := h8'
    obtain ⟨fs, hun⟩ := lab_under
    refine bodyPost_ret (results_cell_row (p := 2) (ty := 34) (by kernel_rfl) _ _ H _ (labCells ⟨v1, [1 + (j5 : Int)], v2, v3⟩ (.slice (some ⟨W7.heap.size, 0, none⟩) 1 1)) (0, 0) _ (by simp) h8 hun rfl (by rw [lab_size]; rfl)) rfl ?_
    exact ⟨_, rfl, irow_lit (by omega) hn8 (by simp), hb8⟩
  · go_wp2_with fail
    show bodyPost _ _ _ _ _ _
    generalize hW8 : World.alloc (World.setCell (World.setCell (World.setCell (World.setCell (World.setCell W7 _ _) _ _) _ _) _ _) _ _) _ = W8
    have h75 := (show (W7.setCell ⟨H + 4, 1, none⟩ (.slice (some ⟨W7.heap.size, 0, none⟩) 2 2)).heap[H]? = W7.heap[H]? from (upd_cell W7 (H + 4) 1 _).block H z7' (by omega)).trans HH7.out.2
    obtain ⟨hu8, h8⟩ := lab_set (v1 := v1) (v2 := v2) (v3 := v3) (av := .slice (some ⟨W7.heap.size, 0, none⟩) 2 2) h75
    generalize hW9 : World.setCell (World.setCell (World.setCell (World.setCell (World.setCell W7 _ _) _ _) _ _) _ _) _ _ = W9 at hu8 h8 hW8
    have z9 : W9.heap.size = W7.heap.size := by rw [← hW9]; simp
    have hb8 : Below H w W8 := by
      rw [← hW8]
      exact (HB7.out.trans (((upd_cell W7 (H + 4) 1 _).below (fun i e => by omega) (by omega)).trans (hu8.below (fun i e => by omega) (by simp; omega)))).alloc (by omega) _
    have h8' := heap_old _ (.cells (([1 + (j6 : Int), 3 + (j7 : Int)] : List Int).map encI).toArray 3 (0, 0)) h8
    have hn8 : W8.heap[W7.heap.size]? = some (.cells (([1 + (j6 : Int), 3 + (j7 : Int)] : List Int).map encI).toArray 3 (0, 0)) := by rw [← hW8, ← z9]; exact World.alloc_heap_new _ _
    rw [show World.alloc W9 (.cells (([1 + (j6 : Int), 3 + (j7 : Int)] : List Int).map encI).toArray 3 (0, 0)) = W8 from hW8] at h8'
    clear h8
    have h8 := h8'
    obtain ⟨fs, hun⟩ := lab_under
    refine bodyPost_ret (results_cell_row (p := 2) (ty := 34) (by kernel_rfl) _ _ H _ (labCells ⟨v1, [1 + (j6 : Int), 3 + (j7 : Int)], v2, v3⟩ (.slice (some ⟨W7.heap.size, 0, none⟩) 2 2)) (0, 0) _ (by simp) h8 hun rfl (by rw [lab_size]; rfl)) rfl ?_
    exact ⟨_, rfl, irow_lit (by omega) hn8 (by simp), hb8⟩
end Go.Proofs.YtgbihmafmmeicaaGreatDoor
namespace Go.Proofs.YtgbihmafmmeicaaGreatDoor
open Go.RowKit Mg Go.Shelf Go.Maps

def PlM (w : World) (b n : Nat) (pl : Plc) : Prop := ∃ n' g, n' ≤ n ∧ KMap Tryz.prog 98 w b n' g ∧ ∀ s l i, (g (key3 s l i)).getD (.bool false) = .bool (pl s l i)
def plc0 : Plc := fun _ _ _ => false
def plcPut (s : Int) (l : ByteArray) (i : Int) (v : Bool) (pl : Plc) : Plc := fun s' l' i' => if s' = s ∧ l' = l ∧ i' = i then v else pl s' l' i'
theorem PlM.made {w : World} {b : Nat} (h : w.heap[b]? = some (.map #[] 0)) : PlM w b 0 plc0 := ⟨0, _, Nat.le_refl _, KMap.made _ _ h, fun _ _ _ => rfl⟩
theorem PlM.lt {w : World} {b n : Nat} {pl : Plc} (h : PlM w b n pl) : b < w.heap.size := by obtain ⟨_, _, _, h, _⟩ := h; exact h.lt
theorem PlM.block {w w' : World} {b n : Nat} {pl : Plc} (h : PlM w b n pl) (e : w'.heap[b]? = w.heap[b]?) : PlM w' b n pl := by
  obtain ⟨n', g, h1, h2, h3⟩ := h
  exact ⟨n', g, h1, h2.of_block e, h3⟩
theorem PlM.mono {w : World} {b n m : Nat} {pl : Plc} (h : PlM w b n pl) (e : n ≤ m) : PlM w b m pl := by
  obtain ⟨n', g, h1, h2, h3⟩ := h
  exact ⟨n', g, by omega, h2, h3⟩
theorem PlM.look {w : World} {b n : Nat} {pl : Plc} (h : PlM w b n pl) (s i : Int) (l : ByteArray) (hs : okI s) (hi : okI i) (hl : l.size ≤ maxLen) :
    (Instr.lookup 96 (.map (some b)) (key3 s l i) false).run Tryz.prog w = .ok (.bool (pl s l i)) w := by
  obtain ⟨n', g, _, h2, h3⟩ := h
  obtain ⟨kl, hkl⟩ := place_key s i l hs hi hl
  rw [h2.look place_keyed Tryz.underlying96 (Tryz.zeroValue4 w) hkl, h3]
theorem PlM.store {w : World} {b n : Nat} {pl : Plc} (h : PlM w b n pl) (hn : n < maxLen) (s i : Int) (l : ByteArray) (hs : okI s) (hi : okI i) (hl : l.size ≤ maxLen) (v : Bool) :
    ∃ w', (Instr.mapUpdate 96 (.map (some b)) (key3 s l i) (.bool v)).run Tryz.prog w = .ok () w' ∧ PlM w' b (n + 1) (plcPut s l i v pl) ∧ w.grownBy w' (some b) := by
  obtain ⟨n', g, h1, h2, h3⟩ := h
  obtain ⟨kl, hkl⟩ := place_key s i l hs hi hl
  obtain ⟨w', hr, hm, hg⟩ := h2.store place_keyed Tryz.underlying96 (by omega) hkl (.bool v)
  refine ⟨w', hr, ⟨n' + 1, _, by omega, hm, fun s' l' i' => ?_⟩, hg⟩
  unfold plcPut
  by_cases e : s' = s ∧ l' = l ∧ i' = i
  · rw [if_pos e, if_pos (key3_inj.2 e)]; rfl
  · rw [if_neg e, if_neg (fun h => e (key3_inj.1 h)), h3]
theorem memFr_below {W W' : World} {F : Nat → Prop} (hb : Below W.heap.size W W') : ∀ a u, memFr W F a = some u → memFr W' F a = some u := fun a u h => by
  obtain ⟨h1, h2, h3⟩ := memFr_lt a u h
  exact memFr_of ((hb.cell h1).trans (memFr_sees W F a u h)) ((hb.frozen h1).trans h3) h2
structure VisI (W0 : World) (n : Nat) (pl : Plc) (v : Value) (ys : List FctE) (wr : World) : Prop where
  bel : Below W0.heap.size W0 wr
  row : FRow wr (W0.heap.size + 1) v ys
  ok : ∀ e ∈ ys, e.ok (memFr wr fun b => b ≤ W0.heap.size ∨ v.ownBlock = some b)
  pl : PlM wr W0.heap.size n pl
section
variable {W0 wr w' : World} {n : Nat} {pl : Plc} {v : Value} {ys : List FctE}
theorem VisI.start {W0 : World} : VisI W0 0 plc0 (.slice none 0 0) [] (W0.alloc (.map #[] 0)) :=
  ⟨(Below.refl _ W0).alloc (Nat.le_refl _) _, FRow.nil _ _, (fun e he => by cases he), PlM.made (World.alloc_heap_new W0 _)⟩
theorem VisI.lt (h : VisI W0 n pl v ys wr) : W0.heap.size < wr.heap.size := h.pl.lt
theorem VisI.mono {m : Nat} (h : VisI W0 n pl v ys wr) (e : n ≤ m) : VisI W0 m pl v ys wr := ⟨h.bel, h.row, h.ok, h.pl.mono e⟩
theorem VisI.below (h : VisI W0 n pl v ys wr) (hb : Below wr.heap.size wr w') : VisI W0 n pl v ys w' :=
  ⟨h.bel.trans (hb.mono h.bel.size), h.row.same fun k hk => hb.block k (h.row.ge k hk).2, fun e he => (h.ok e he).mono (memFr_below hb), h.pl.block (hb.block _ h.lt)⟩
theorem VisI.put {n' : Nat} {pl' : Plc} (h : VisI W0 n pl v ys wr) (hp : PlM w' W0.heap.size n' pl') (hg : wr.grownBy w' (some W0.heap.size)) : VisI W0 n' pl' v ys w' := by
  have hu : Upd (fun b => b = W0.heap.size) wr w' := (Upd.refl _ wr).grown hg (fun b e => by injection e with e; exact .inl e.symm)
  refine ⟨h.bel.trans (hu.below (fun k e => by omega) (by have := h.lt; omega)), h.row.kept hu (fun k hk e => by have := (h.row.ge k hk).1; omega), fun e he => (h.ok e he).mono (memFr_mono hu fun k _ hf => ⟨hf, fun e => hf (.inl (by omega))⟩), hp⟩
theorem VisI.app {v' : Value} {y : FctE} {ob : Obj} (h : VisI W0 n pl v ys wr) (hy : y.ok (memFr wr fun b => b ≤ W0.heap.size ∨ v.ownBlock = some b)) (hr : FRow w' (W0.heap.size + 1) v' (ys ++ [y])) (hg : (wr.alloc ob).grownBy w' v.ownBlock)
    (hn : v'.ownBlock = v.ownBlock ∨ v'.ownBlock = some (wr.alloc ob).heap.size) : VisI W0 n pl v' (ys ++ [y]) w' := by
  have hge := h.row.ge
  have hlt := h.lt
  have hz : (wr.alloc ob).heap.size = wr.heap.size + 1 := by simp
  have hu : Upd (fun b => v.ownBlock = some b) wr w' := ((Upd.refl _ wr).alloc ob).grown hg (fun b e => .inl e)
  refine ⟨h.bel.trans (hu.below (fun k e => by have := hge k e; omega) (by omega)), hr, fun e he => ?_, h.pl.block (hu.block _ hlt (fun e => by have := hge _ e; omega))⟩
  have hm : ∀ a u, memFr wr (fun b => b ≤ W0.heap.size ∨ v.ownBlock = some b) a = some u → memFr w' (fun b => b ≤ W0.heap.size ∨ v'.ownBlock = some b) a = some u :=
    memFr_mono hu fun k hk hf => ⟨fun g => by
      rcases g with g | g
      · exact hf (.inl g)
      · rcases hn with e | e
        · exact hf (.inr (e ▸ g))
        · rw [e] at g; injection g with g; omega, fun g => hf (.inr g)⟩
  rcases List.mem_append.1 he with he | he
  · exact (h.ok e he).mono hm
  · obtain rfl : e = y := by simpa using he
    exact hy.mono hm
end
def stripE (x : FctE) : FctE := ⟨stripF x.f, none, 0, none, 0, none, 0⟩
theorem strip_ok {mem mem' : Addr → Option Value} {x : FctE} (h : x.ok mem) : (stripE x).ok mem' := by
  have hf := h.fok
  refine ⟨⟨hf.i0, hf.i1, hf.i2, hf.i3, hf.s4, hf.i5, hf.i6, hf.s7, hf.s8, ?_, ?_, ?_, hf.i15, hf.i16, hf.i17, hf.s18, hf.s19, hf.i20, hf.i21, hf.i22, fun z hz => by cases hz⟩, StrsM.nil _, ?_, IntsM.nil _⟩
  · show okI 0; unfold okI; omega
  · show okI 0; unfold okI; omega
  · show okI 0; unfold okI; omega
  · exact ⟨0, 0, sliceNil, fun j hj => absurd hj (by simp [stripE, stripF])⟩
end Go.Proofs.YtgbihmafmmeicaaGreatDoor
namespace Go.Proofs.YtgbihmafmmeicaaGreatDoor
open Go.RowKit Mg Go.Shelf Go.Maps

def loopsOf : Code → List Code
  | .loop c => c :: loopsOf c
  | .seq a b => loopsOf a ++ loopsOf b
  | .block _ c => loopsOf c
  | .scope c => loopsOf c
  | .cond _ a b => loopsOf a ++ loopsOf b
  | _ => []

section
variable {ops : Array Oper} {rest : List Oper} {o : Oper} {a : Act} {w : World} {Q : Exit → Act → World → Prop}
theorem wpList_fct_mid (hgd : o.guard = none) (x : Operand) (ho : o.op = .load 45 x) {b i : Nat} {e : FctE} (hx : a.eval x = .pointer (some ⟨b, i, none⟩)) (hc : e.at (fun p => w.cell? p) b i)
    (h : wpList Tryz.prog ops Q rest (a.put o.dst (.agg e.cells)) w) : wpList Tryz.prog ops Q (o :: rest) a w := by
  refine wpList_plain hgd fun K hK => ?_
  unfold Oper.wp
  rw [exec_fct_mid x ho hx hc]
  exact hK _ _ h
theorem at_fslice (parts : Array (Nat × Operand)) (_ : o.op = .buildSlice 25 1 parts) (h : wpList Tryz.prog ops Q (o :: rest) a w) : wpList Tryz.prog ops Q (o :: rest) a w := h
theorem wpList_fct_slice (hgd : o.guard = none) (parts : Array (Nat × Operand)) (ho : o.op = .buildSlice 25 1 parts) (e : FctE) (hf : (parts.map fun (i, x) => (i, a.eval x)).toList = [(0, .agg e.cells)])
    (h : wpList Tryz.prog ops Q rest (a.put o.dst (.slice (some ⟨w.heap.size, 0, none⟩) 1 1)) (w.alloc (.cells e.cells 45))) : wpList Tryz.prog ops Q (o :: rest) a w :=
  wpList_plain hgd fun _ hK => wp_fct_slice parts ho e hf (hK _ _ h)
theorem wpList_app_fct (hgd : o.guard = none) (s x : Operand) (ho : o.op = .call { callee := .builtin .append, args := #[s, x], argTypes := #[25, 25] })
    (B : Nat) (v : Value) (es : List FctE) (hs : a.eval s = v) (hown : FRow w B v es) (e : FctE) (g c : Nat) (hx : a.eval x = .slice (some ⟨g, 0, none⟩) 1 c) (hc : w.heap[g]? = some (.cells e.cells 45 (0, 0))) (hlen : es.length ≤ 100000) (hB : B ≤ w.heap.size)
    (h : ∀ v' w', FRow w' B v' (es ++ [e]) → w.grownBy w' v.ownBlock → (v'.ownBlock = v.ownBlock ∨ v'.ownBlock = some w.heap.size) → wpList Tryz.prog ops Q rest (a.put o.dst v') w') : wpList Tryz.prog ops Q (o :: rest) a w :=
  wpList_plain hgd fun _ hK => wp_app_fct s x ho B v es hs hown e g c hx hc hlen hB (fun v' w' h1 h2 h3 => hK _ _ (h v' w' h1 h2 h3))
end
structure VisC (mem : Addr → Option Value) (W0 : World) (io db cb nb ob d B : Nat) (gs : List FctE) (cls now : Int) (ov : Value) (out : List Int) (fa : Option Addr) (fc fb fo : Nat) (SC : Scn) : Prop where
  open_ : OpenM W0 io db cb nb ob d B gs cls now ov out
  good : ∀ e ∈ gs, e.ok mem ∧ validF e.f = true
  sees : Sees mem W0
  fa : 0 < gs.length → fa = some ⟨fb, fo, none⟩
  at_ : ∀ j (h : j < gs.length), gs[j].at (fun p => W0.cell? p) fb (fo + j * 23)
  len : gs.length ≤ 1000
  rng : ∀ s ∈ out, 1 ≤ s ∧ s ≤ 64
  sc : SC = sceneOf gs cls now out
def VisR (W0 : World) (SC : Scn) (k : Nat) (v i : Value) (w : World) : Prop := ∃ ys, i = .int .i64 k ∧ ys.map FctE.f = visK SC k ∧ VisI W0 (24 * k) (placesF SC (SC.D.take k)) v ys w
def NewB (W0 : World) (T : Nat) (cs : Array Value) (t : TypeId) (w : World) : Prop := W0.heap.size < T ∧ w.heap[T]? = some (.cells cs t (0, 0))
theorem seenAt_len (c : Scn) (pl : Plc) (f : Fct) : (seenAt c pl f).length ≤ 1 := by
  unfold seenAt
  repeat' split
  all_goals simp
theorem visGo_len (c : Scn) : ∀ (l : List Fct) (pl : Plc), (visGo c pl l).length ≤ l.length
  | [], _ => Nat.le_refl _
  | f :: r, pl => by
    unfold visGo
    have h1 := seenAt_len c pl f
    have h2 := visGo_len c r (placeF c pl f)
    rw [List.length_append, List.length_cons]
    omega
theorem visK_len (c : Scn) (k : Nat) : (visK c k).length ≤ k := by
  have h := visGo_len c (c.D.take k) (fun _ _ _ => false)
  rw [List.length_take] at h
  unfold visK
  omega
theorem VisC.next {mem : Addr → Option Value} {W0 : World} {io db cb nb ob d B : Nat} {gs : List FctE} {cls now : Int} {ov : Value} {out : List Int} {fa : Option Addr} {fc fb fo : Nat} {SC : Scn} (C : VisC mem W0 io db cb nb ob d B gs cls now ov out fa fc fb fo SC) {k : Nat} {x : FctE} (hk : k < gs.length) (hx : gs[k] = x) :
    visK SC (k + 1) = visK SC k ++ seenAt SC (placesF SC (SC.D.take k)) x.f ∧ placesF SC (SC.D.take (k + 1)) = placeF SC (placesF SC (SC.D.take k)) x.f := by
  have hD : SC.D = gs.map FctE.f := by rw [C.sc]; rfl
  have hk' : k < SC.D.length := by rw [hD, List.length_map]; exact hk
  have hg : SC.D[k] = x.f := by
    simp only [hD, List.getElem_map, hx]
  exact ⟨by rw [visK_succ SC hk', hg], by rw [places_succ SC hk', hg]⟩
theorem vis_skip {W0 : World} {SC : Scn} {k : Nat} {x : Fct} {v i : Value} {ys : List FctE} {w : World} (hn : visK SC (k + 1) = visK SC k ++ seenAt SC (placesF SC (SC.D.take k)) x ∧ placesF SC (SC.D.take (k + 1)) = placeF SC (placesF SC (SC.D.take k)) x)
    (hs : seenAt SC (placesF SC (SC.D.take k)) x = []) (hp : x.kind ≠ 1) (hi : i = .int .i64 (k + 1 : Nat)) (hys : ys.map FctE.f = visK SC k) (hI : VisI W0 (24 * k) (placesF SC (SC.D.take k)) v ys w) : VisR W0 SC (k + 1) v i w := by
  refine ⟨ys, hi, by rw [hn.1, hs, List.append_nil, hys], ?_⟩
  rw [hn.2]
  unfold placeF
  rw [if_neg hp]
  exact hI.mono (by omega)
theorem vis_show {W0 : World} {SC : Scn} {k : Nat} {x : Fct} {y : FctE} {v i : Value} {ys : List FctE} {w : World} (hn : visK SC (k + 1) = visK SC k ++ seenAt SC (placesF SC (SC.D.take k)) x ∧ placesF SC (SC.D.take (k + 1)) = placeF SC (placesF SC (SC.D.take k)) x)
    (hs : seenAt SC (placesF SC (SC.D.take k)) x = [y.f]) (hp : x.kind ≠ 1) (hi : i = .int .i64 (k + 1 : Nat)) (hys : ys.map FctE.f = visK SC k) (hI : VisI W0 (24 * k) (placesF SC (SC.D.take k)) v (ys ++ [y]) w) : VisR W0 SC (k + 1) v i w := by
  refine ⟨ys ++ [y], hi, by rw [hn.1, hs, List.map_append, hys]; rfl, ?_⟩
  rw [hn.2]
  unfold placeF
  rw [if_neg hp]
  exact hI.mono (by omega)
noncomputable def visBody : Code := ((Tryz.f42.body.map loopsOf).getD []).getD 1 .skip
set_option maxRecDepth 100000 in
set_option maxHeartbeats 4000000 in
theorem vis_k7 {mem : Addr → Option Value} {W0 : World} {io db cb nb ob d B : Nat} {gs : List FctE} {cls now : Int} {ov : Value} {out : List Int} {fa : Option Addr} {fc fb fo : Nat} {SC : Scn} (C : VisC mem W0 io db cb nb ob d B gs cls now ov out fa fc fb fo SC) (c0 c1 c2 c6 c9 c10 c14 c18 c20 c21 c22 c23 c24 c25 c26 c27 c28 c29 c30 c31 c32 c33 c34 c35 c36 c37 c38 c39 c40 c41 c42 c43 c139 : Value) (u15 u16 u17 u19 u47 u48 u49 u50 u51 u52 u53 u54 u55 u56 u57 u58 u59 u60 u61 u62 u63 u64 u65 u66 u67 u68 u69 u70 u71 u72 u73 u74 u75 u76 u77 u78 u79 u80 u81 u82 u83 u84 u85 u86 u87 u88 u89 u90 u91 u92 u93 u94 u95 u96 u97 u98 u99 u100 u101 u102 u103 u104 u105 u106 u107 u108 u109 u110 u111 u112 u113 u114 u115 u116 u117 u118 u119 u120 u121 u122 u123 u124 u125 u126 u127 u128 u129 u130 u131 u132 u133 u134 u135 u136 u137 u138 : Value) (v : Value) (k : Nat) (x : FctE) (hk : k < gs.length) (hx : gs[k] = x) (hkd : x.f.kind = 7) (wr : World) (hR : VisR W0 SC k v (.int .i64 k) wr) (Q : Exit → Act → World → Prop)
    (hQ : ∀ (u12 u15 u16 u17 u19 u46 u47 u48 u49 u50 u51 u52 u53 u54 u55 u56 u57 u58 u59 u60 u61 u62 u63 u64 u65 u66 u67 u68 u69 u70 u71 u72 u73 u74 u75 u76 u77 u78 u79 u80 u81 u82 u83 u84 u85 u86 u87 u88 u89 u90 u91 u92 u93 u94 u95 u96 u97 u98 u99 u100 u101 u102 u103 u104 u105 u106 u107 u108 u109 u110 u111 u112 u113 u114 u115 u116 u117 u118 u119 u120 u121 u122 u123 u124 u125 u126 u127 u128 u129 u130 u131 u132 u133 u134 u135 u136 u137 u138 : Value) (w2 : World), VisR W0 SC (k + 1) u12 u46 w2 → Q .normal ⟨#[c0, c1, c2, .pointer (some ⟨db, 0, none⟩), .pointer (some ⟨cb, 0, none⟩), .pointer (some ⟨nb, 0, none⟩), c6, .pointer (some ⟨ob, 0, none⟩), .pointer (some ⟨io, 0, none⟩), c9, c10, openV io db cb nb ob, u12, .map (some W0.heap.size), c14, u15, u16, u17, c18, u19, c20, c21, c22, c23, c24, c25, c26, c27, c28, c29, c30, c31, c32, c33, c34, c35, c36, c37, c38, c39, c40, c41, c42, c43, .slice fa gs.length fc, .int .i64 gs.length, u46, u47, u48, u49, u50, u51, u52, u53, u54, u55, u56, u57, u58, u59, u60, u61, u62, u63, u64, u65, u66, u67, u68, u69, u70, u71, u72, u73, u74, u75, u76, u77, u78, u79, u80, u81, u82, u83, u84, u85, u86, u87, u88, u89, u90, u91, u92, u93, u94, u95, u96, u97, u98, u99, u100, u101, u102, u103, u104, u105, u106, u107, u108, u109, u110, u111, u112, u113, u114, u115, u116, u117, u118, u119, u120, u121, u122, u123, u124, u125, u126, u127, u128, u129, u130, u131, u132, u133, u134, u135, u136, u137, u138, c139], []⟩ w2) :
    visBody.wp Tryz.prog Q ⟨#[c0, c1, c2, .pointer (some ⟨db, 0, none⟩), .pointer (some ⟨cb, 0, none⟩), .pointer (some ⟨nb, 0, none⟩), c6, .pointer (some ⟨ob, 0, none⟩), .pointer (some ⟨io, 0, none⟩), c9, c10, openV io db cb nb ob, v, .map (some W0.heap.size), c14, u15, u16, u17, c18, u19, c20, c21, c22, c23, c24, c25, c26, c27, c28, c29, c30, c31, c32, c33, c34, c35, c36, c37, c38, c39, c40, c41, c42, c43, .slice fa gs.length fc, .int .i64 gs.length, (.int .i64 k), u47, u48, u49, u50, u51, u52, u53, u54, u55, u56, u57, u58, u59, u60, u61, u62, u63, u64, u65, u66, u67, u68, u69, u70, u71, u72, u73, u74, u75, u76, u77, u78, u79, u80, u81, u82, u83, u84, u85, u86, u87, u88, u89, u90, u91, u92, u93, u94, u95, u96, u97, u98, u99, u100, u101, u102, u103, u104, u105, u106, u107, u108, u109, u110, u111, u112, u113, u114, u115, u116, u117, u118, u119, u120, u121, u122, u123, u124, u125, u126, u127, u128, u129, u130, u131, u132, u133, u134, u135, u136, u137, u138, c139], []⟩ wr := by
  conv => arg 2; whnf
  obtain ⟨ys, _, hys, hI⟩ := hR
  have HN := Lib.hid (C.next hk hx)
  obtain rfl := C.fa (by omega)
  have hat : Hid (x.at (fun p => wr.cell? p) fb (fo + k * 23)) := Lib.hid (fun j u hj => (hI.bel.cell (World.block_lt_of_cell? W0 _ (C.at_ k hk j u (by rw [hx]; exact hj)))).trans (C.at_ k hk j u (by rw [hx]; exact hj)))
  have hxm : x ∈ gs := by rw [← hx]; exact List.getElem_mem hk
  obtain ⟨hok, hvl⟩ := C.good x hxm
  have HOK := Lib.hid hok
  have HVL := Lib.hid hvl
  have hsz : Hid (x.cells.size = 23) := Lib.hid rfl
  have hone := Lib.hid x.one
  have HC := Lib.hid C
  have HI := Lib.hid hI
  have HYS := Lib.hid hys
  have HQ := Lib.hid hQ
  have HKD := Lib.hid hkd
  have hle := C.len
  have hlk : (k : Int) < gs.length := by omega
  have hyl : Hid (ys.length ≤ 1000) := Lib.hid (by have h1 := visK_len SC k; rw [← hys, List.length_map] at h1; omega)
  have HB1 : Hid (Below wr.heap.size wr (wr.alloc (.cells x.cells 45))) := Lib.hid ((Below.refl _ wr).alloc (Nat.le_refl _) _)
  have HNEW := Lib.hid (World.alloc_heap_new wr (.cells x.cells 45))
  have hsz1 : wr.heap.size < (wr.alloc (.cells x.cells 45)).heap.size := by simp
  clear hx hI hys hQ hkd hxm hok hvl C
  go_upto_region 16 with (first
    | ((with_reducible refine at_fload (.tmp 48) rfl ?_); go_must (refine wpList_fct_mid rfl _ rfl (by simp [Act.eval]) hat.out ?_))
    | ((with_reducible refine at_fstore _ _ rfl ?_); go_must (refine wpList_fct_new rfl _ _ rfl rfl _ _ _ (by simp [Act.eval]) (by simp [Act.eval]) (by rfl) hsz.out hone.out ?_)))
  generalize hT : wr.heap.size = T at *
  generalize hW1 : wr.alloc (.cells x.cells 45) = W1 at *
  clear hW1
  have k2 := blk_cell HNEW.out 2
  have k3 := blk_cell HNEW.out 3
  have f9 := blk_free HNEW.out 9
  have f10 := blk_free HNEW.out 10
  have f11 := blk_free HNEW.out 11
  have f12 := blk_free HNEW.out 12
  have f13 := blk_free HNEW.out 13
  have f14 := blk_free HNEW.out 14
  have k9 : W1.cell? ⟨T, 9, none⟩ = some x.tv := blk_cell HNEW.out 9
  have k10 : W1.cell? ⟨T, 10, none⟩ = some x.bv := blk_cell HNEW.out 10
  have k11 : W1.cell? ⟨T, 11, none⟩ = some (.int .i64 x.f.lab.till) := blk_cell HNEW.out 11
  have k12 : W1.cell? ⟨T, 12, none⟩ = some x.av := blk_cell HNEW.out 12
  have k13 : W1.cell? ⟨T, 13, none⟩ = some (.int .i64 x.f.lab.appr) := blk_cell HNEW.out 13
  have k14 : W1.cell? ⟨T, 14, none⟩ = some (.int .i64 x.f.lab.denied) := blk_cell HNEW.out 14
  rw [show x.cells[2]? = some (.int .i64 x.f.kind) from rfl, HKD.out] at k2
  rw [show x.cells[3]? = some (.int .i64 x.f.story) from rfl] at k3
  go_wp2_with (with_reducible refine at_fload_stand (.tmp 15) rfl ?_)
  show wpList _ _ _ _ _ _
  generalize hW6 : (World.setCell (World.setCell (World.setCell (World.setCell (World.setCell (World.setCell W1 ⟨T, 9, none⟩ _) ⟨T, 10, none⟩ _) ⟨T, 11, none⟩ _) ⟨T, 12, none⟩ _) ⟨T, 13, none⟩ _) ⟨T, 14, none⟩ _) = W6
  have hu6 : Upd (fun b => b = T) W1 W6 := by
    rw [← hW6]
    exact ((((((Upd.refl (fun b => b = T) W1).setCell (p := ⟨T, 9, none⟩) (.inl rfl) _).setCell (p := ⟨T, 10, none⟩) (.inl rfl) _).setCell (p := ⟨T, 11, none⟩) (.inl rfl) _).setCell (p := ⟨T, 12, none⟩) (.inl rfl) _).setCell (p := ⟨T, 13, none⟩) (.inl rfl) _).setCell (p := ⟨T, 14, none⟩) (.inl rfl) _
  have HC6 : Hid (W6.heap[T]? = some (.cells (stripE x).cells 45 (0, 0))) := Lib.hid (by
    rw [← hW6]
    exact blk_set (j := 14) (u := .int .i64 0) (blk_set (j := 13) (u := .int .i64 0) (blk_set (j := 12) (u := nilS) (blk_set (j := 11) (u := .int .i64 0) (blk_set (j := 10) (u := nilS) (blk_set (j := 9) (u := nilS) HNEW.out))))))
  have HB6 : Hid (Below T wr W6) := Lib.hid (HB1.out.trans (hu6.below (fun k e => by omega) (Nat.le_of_lt hsz1)))
  have HI6 := Lib.hid (HI.out.below (by rw [hT]; exact HB6.out))
  have hss : Hid ((stripE x).cells.size = 23) := Lib.hid rfl
  clear hW6 hu6 k2 k3 k9 k10 k11 k12 k13 k14 f9 f10 f11 f12 f13 f14
  go_wp2_with (first
    | ((with_reducible refine at_fload _ rfl ?_); go_must (refine wpList_fct_load rfl _ rfl T (by simp [Act.eval]) _ HC6.out hss.out ?_))
    | ((with_reducible refine at_fslice _ rfl ?_); go_must (refine wpList_fct_slice rfl _ rfl (stripE x) (by first | (simp [Act.eval]; done) | simp [Act.eval, Act.put]) ?_))
    | (at_builtin
       go_must (refine wpList_app_fct rfl _ _ rfl (W0.heap.size + 1) _ ys rfl (HI6.out.row.same fun k hk => Below.heap_alloc _ _ _ (HI6.out.row.ge k hk).2) (stripE x) W6.heap.size 1 rfl (World.alloc_heap_new _ _) (by have := hyl.out; omega) (by have := HI6.out.lt; simp; omega) ?_)
       intro v2 w2 h2 hg2 hn2
       have H2 := Lib.hid (HI6.out.app (strip_ok HOK.out) h2 hg2 hn2)
       clear h2 hg2 hn2))
  exact HQ.out _ _ _ _ _ _ _ _ _ _ _ _ _ _ _ _ _ _ _ _ _ _ _ _ _ _ _ _ _ _ _ _ _ _ _ _ _ _ _ _ _ _ _ _ _ _ _ _ _ _ _ _ _ _ _ _ _ _ _ _ _ _ _ _ _ _ _ _ _ _ _ _ _ _ _ _ _ _ _ _ _ _ _ _ _ _ _ _ _ _ _ _ _ _ _ _ _ _ w2 (vis_show (y := stripE x) HN.out (by unfold seenAt; rw [if_pos HKD.out]; rfl) (by rw [HKD.out]; decide) (by go_num) HYS.out H2.out)
set_option maxRecDepth 100000 in
set_option maxHeartbeats 4000000 in
theorem vis_k3 {mem : Addr → Option Value} {W0 : World} {io db cb nb ob d B : Nat} {gs : List FctE} {cls now : Int} {ov : Value} {out : List Int} {fa : Option Addr} {fc fb fo : Nat} {SC : Scn} (C : VisC mem W0 io db cb nb ob d B gs cls now ov out fa fc fb fo SC) (c0 c1 c2 c6 c9 c10 c14 c18 c20 c21 c22 c23 c24 c25 c26 c27 c28 c29 c30 c31 c32 c33 c34 c35 c36 c37 c38 c39 c40 c41 c42 c43 c139 : Value) (u15 u16 u17 u19 u47 u48 u49 u50 u51 u52 u53 u54 u55 u56 u57 u58 u59 u60 u61 u62 u63 u64 u65 u66 u67 u68 u69 u70 u71 u72 u73 u74 u75 u76 u77 u78 u79 u80 u81 u82 u83 u84 u85 u86 u87 u88 u89 u90 u91 u92 u93 u94 u95 u96 u97 u98 u99 u100 u101 u102 u103 u104 u105 u106 u107 u108 u109 u110 u111 u112 u113 u114 u115 u116 u117 u118 u119 u120 u121 u122 u123 u124 u125 u126 u127 u128 u129 u130 u131 u132 u133 u134 u135 u136 u137 u138 : Value) (v : Value) (k : Nat) (x : FctE) (hk : k < gs.length) (hx : gs[k] = x) (hkd : x.f.kind = 3) (wr : World) (hR : VisR W0 SC k v (.int .i64 k) wr) (Q : Exit → Act → World → Prop)
    (hQ : ∀ (u12 u15 u16 u17 u19 u46 u47 u48 u49 u50 u51 u52 u53 u54 u55 u56 u57 u58 u59 u60 u61 u62 u63 u64 u65 u66 u67 u68 u69 u70 u71 u72 u73 u74 u75 u76 u77 u78 u79 u80 u81 u82 u83 u84 u85 u86 u87 u88 u89 u90 u91 u92 u93 u94 u95 u96 u97 u98 u99 u100 u101 u102 u103 u104 u105 u106 u107 u108 u109 u110 u111 u112 u113 u114 u115 u116 u117 u118 u119 u120 u121 u122 u123 u124 u125 u126 u127 u128 u129 u130 u131 u132 u133 u134 u135 u136 u137 u138 : Value) (w2 : World), VisR W0 SC (k + 1) u12 u46 w2 → Q .normal ⟨#[c0, c1, c2, .pointer (some ⟨db, 0, none⟩), .pointer (some ⟨cb, 0, none⟩), .pointer (some ⟨nb, 0, none⟩), c6, .pointer (some ⟨ob, 0, none⟩), .pointer (some ⟨io, 0, none⟩), c9, c10, openV io db cb nb ob, u12, .map (some W0.heap.size), c14, u15, u16, u17, c18, u19, c20, c21, c22, c23, c24, c25, c26, c27, c28, c29, c30, c31, c32, c33, c34, c35, c36, c37, c38, c39, c40, c41, c42, c43, .slice fa gs.length fc, .int .i64 gs.length, u46, u47, u48, u49, u50, u51, u52, u53, u54, u55, u56, u57, u58, u59, u60, u61, u62, u63, u64, u65, u66, u67, u68, u69, u70, u71, u72, u73, u74, u75, u76, u77, u78, u79, u80, u81, u82, u83, u84, u85, u86, u87, u88, u89, u90, u91, u92, u93, u94, u95, u96, u97, u98, u99, u100, u101, u102, u103, u104, u105, u106, u107, u108, u109, u110, u111, u112, u113, u114, u115, u116, u117, u118, u119, u120, u121, u122, u123, u124, u125, u126, u127, u128, u129, u130, u131, u132, u133, u134, u135, u136, u137, u138, c139], []⟩ w2) :
    visBody.wp Tryz.prog Q ⟨#[c0, c1, c2, .pointer (some ⟨db, 0, none⟩), .pointer (some ⟨cb, 0, none⟩), .pointer (some ⟨nb, 0, none⟩), c6, .pointer (some ⟨ob, 0, none⟩), .pointer (some ⟨io, 0, none⟩), c9, c10, openV io db cb nb ob, v, .map (some W0.heap.size), c14, u15, u16, u17, c18, u19, c20, c21, c22, c23, c24, c25, c26, c27, c28, c29, c30, c31, c32, c33, c34, c35, c36, c37, c38, c39, c40, c41, c42, c43, .slice fa gs.length fc, .int .i64 gs.length, (.int .i64 k), u47, u48, u49, u50, u51, u52, u53, u54, u55, u56, u57, u58, u59, u60, u61, u62, u63, u64, u65, u66, u67, u68, u69, u70, u71, u72, u73, u74, u75, u76, u77, u78, u79, u80, u81, u82, u83, u84, u85, u86, u87, u88, u89, u90, u91, u92, u93, u94, u95, u96, u97, u98, u99, u100, u101, u102, u103, u104, u105, u106, u107, u108, u109, u110, u111, u112, u113, u114, u115, u116, u117, u118, u119, u120, u121, u122, u123, u124, u125, u126, u127, u128, u129, u130, u131, u132, u133, u134, u135, u136, u137, u138, c139], []⟩ wr := by
  conv => arg 2; whnf
  obtain ⟨ys, _, hys, hI⟩ := hR
  have HN := Lib.hid (C.next hk hx)
  obtain rfl := C.fa (by omega)
  have hat : Hid (x.at (fun p => wr.cell? p) fb (fo + k * 23)) := Lib.hid (fun j u hj => (hI.bel.cell (World.block_lt_of_cell? W0 _ (C.at_ k hk j u (by rw [hx]; exact hj)))).trans (C.at_ k hk j u (by rw [hx]; exact hj)))
  have hxm : x ∈ gs := by rw [← hx]; exact List.getElem_mem hk
  obtain ⟨hok, hvl⟩ := C.good x hxm
  have HOK := Lib.hid hok
  have HVL := Lib.hid hvl
  have hsz : Hid (x.cells.size = 23) := Lib.hid rfl
  have hone := Lib.hid x.one
  have HC := Lib.hid C
  have HI := Lib.hid hI
  have HYS := Lib.hid hys
  have HQ := Lib.hid hQ
  have HKD := Lib.hid hkd
  have hle := C.len
  have hlk : (k : Int) < gs.length := by omega
  have hyl : Hid (ys.length ≤ 1000) := Lib.hid (by have h1 := visK_len SC k; rw [← hys, List.length_map] at h1; omega)
  have HB1 : Hid (Below wr.heap.size wr (wr.alloc (.cells x.cells 45))) := Lib.hid ((Below.refl _ wr).alloc (Nat.le_refl _) _)
  have HNEW := Lib.hid (World.alloc_heap_new wr (.cells x.cells 45))
  have hsz1 : wr.heap.size < (wr.alloc (.cells x.cells 45)).heap.size := by simp
  clear hx hI hys hQ hkd hxm hok hvl C
  go_upto_region 16 with (first
    | ((with_reducible refine at_fload (.tmp 48) rfl ?_); go_must (refine wpList_fct_mid rfl _ rfl (by simp [Act.eval]) hat.out ?_))
    | ((with_reducible refine at_fstore _ _ rfl ?_); go_must (refine wpList_fct_new rfl _ _ rfl rfl _ _ _ (by simp [Act.eval]) (by simp [Act.eval]) (by rfl) hsz.out hone.out ?_)))
  generalize hT : wr.heap.size = T at *
  generalize hW1 : wr.alloc (.cells x.cells 45) = W1 at *
  clear hW1
  have k2 := blk_cell HNEW.out 2
  have k3 := blk_cell HNEW.out 3
  have f9 := blk_free HNEW.out 9
  have f10 := blk_free HNEW.out 10
  have f11 := blk_free HNEW.out 11
  have f12 := blk_free HNEW.out 12
  have f13 := blk_free HNEW.out 13
  have f14 := blk_free HNEW.out 14
  have k9 : W1.cell? ⟨T, 9, none⟩ = some x.tv := blk_cell HNEW.out 9
  have k10 : W1.cell? ⟨T, 10, none⟩ = some x.bv := blk_cell HNEW.out 10
  have k11 : W1.cell? ⟨T, 11, none⟩ = some (.int .i64 x.f.lab.till) := blk_cell HNEW.out 11
  have k12 : W1.cell? ⟨T, 12, none⟩ = some x.av := blk_cell HNEW.out 12
  have k13 : W1.cell? ⟨T, 13, none⟩ = some (.int .i64 x.f.lab.appr) := blk_cell HNEW.out 13
  have k14 : W1.cell? ⟨T, 14, none⟩ = some (.int .i64 x.f.lab.denied) := blk_cell HNEW.out 14
  rw [show x.cells[2]? = some (.int .i64 x.f.kind) from rfl, HKD.out] at k2
  rw [show x.cells[3]? = some (.int .i64 x.f.story) from rfl] at k3
  obtain ⟨s, hs, hs1, hs64⟩ := good_story HVL.out (by rw [HKD.out]; decide)
  have HS := Lib.hid hs
  have HO := Lib.hid (HC.out.open_.bel (HI.out.bel.trans (HB1.out.mono (by rw [← hT]; exact HI.out.bel.size))))
  have k0 := HO.out.tab.cell (j := s) (by omega)
  unfold inT at k0
  rw [hs] at k3
  clear hs
  have hs0 : (0 : Int) ≤ (s : Nat) := by omega
  have hs65 : ((s : Nat) : Int) < 65 := by omega
  generalize hq : decide (((s : Nat) : Int) ∈ out) = q at k0
  have HQQ := Lib.hid hq
  have HIN : Hid ((x.f.story ∈ SC.out) ↔ (((s : Nat) : Int) ∈ out)) := Lib.hid (by rw [HS.out, HC.out.sc]; exact Iff.rfl)
  have HBX := Lib.hid HB1.out
  clear hq
  cases q
  · go_wp2_with fail
    exact HQ.out _ _ _ _ _ _ _ _ _ _ _ _ _ _ _ _ _ _ _ _ _ _ _ _ _ _ _ _ _ _ _ _ _ _ _ _ _ _ _ _ _ _ _ _ _ _ _ _ _ _ _ _ _ _ _ _ _ _ _ _ _ _ _ _ _ _ _ _ _ _ _ _ _ _ _ _ _ _ _ _ _ _ _ _ _ _ _ _ _ _ _ _ _ _ _ _ _ _ _ (vis_skip HN.out (by unfold seenAt; rw [if_neg (by rw [HKD.out]; decide), if_pos (by rw [HKD.out]; decide), if_neg (fun h => of_decide_eq_false HQQ.out (HIN.out.1 h))]) (by rw [HKD.out]; decide) (by go_num) HYS.out (HI.out.below (by rw [hT]; exact HBX.out)))
  · clear HBX
    go_wp2_with (with_reducible refine at_fload_stand (.tmp 15) rfl ?_)
    show wpList _ _ _ _ _ _
    generalize hW6 : (World.setCell (World.setCell (World.setCell (World.setCell (World.setCell (World.setCell W1 ⟨T, 9, none⟩ _) ⟨T, 10, none⟩ _) ⟨T, 11, none⟩ _) ⟨T, 12, none⟩ _) ⟨T, 13, none⟩ _) ⟨T, 14, none⟩ _) = W6
    have hu6 : Upd (fun b => b = T) W1 W6 := by
      rw [← hW6]
      exact ((((((Upd.refl (fun b => b = T) W1).setCell (p := ⟨T, 9, none⟩) (.inl rfl) _).setCell (p := ⟨T, 10, none⟩) (.inl rfl) _).setCell (p := ⟨T, 11, none⟩) (.inl rfl) _).setCell (p := ⟨T, 12, none⟩) (.inl rfl) _).setCell (p := ⟨T, 13, none⟩) (.inl rfl) _).setCell (p := ⟨T, 14, none⟩) (.inl rfl) _
    have HC6 : Hid (W6.heap[T]? = some (.cells (stripE x).cells 45 (0, 0))) := Lib.hid (by
      rw [← hW6]
      exact blk_set (j := 14) (u := .int .i64 0) (blk_set (j := 13) (u := .int .i64 0) (blk_set (j := 12) (u := nilS) (blk_set (j := 11) (u := .int .i64 0) (blk_set (j := 10) (u := nilS) (blk_set (j := 9) (u := nilS) HNEW.out))))))
    have HB6 : Hid (Below T wr W6) := Lib.hid (HB1.out.trans (hu6.below (fun k e => by omega) (Nat.le_of_lt hsz1)))
    have HI6 := Lib.hid (HI.out.below (by rw [hT]; exact HB6.out))
    have hss : Hid ((stripE x).cells.size = 23) := Lib.hid rfl
    clear hW6 hu6 k2 k3 k9 k10 k11 k12 k13 k14 f9 f10 f11 f12 f13 f14
    go_wp2_with (first
      | ((with_reducible refine at_fload _ rfl ?_); go_must (refine wpList_fct_load rfl _ rfl T (by simp [Act.eval]) _ HC6.out hss.out ?_))
      | ((with_reducible refine at_fslice _ rfl ?_); go_must (refine wpList_fct_slice rfl _ rfl (stripE x) (by first | (simp [Act.eval]; done) | simp [Act.eval, Act.put]) ?_))
      | (at_builtin
         go_must (refine wpList_app_fct rfl _ _ rfl (W0.heap.size + 1) _ ys rfl (HI6.out.row.same fun k hk => Below.heap_alloc _ _ _ (HI6.out.row.ge k hk).2) (stripE x) W6.heap.size 1 rfl (World.alloc_heap_new _ _) (by have := hyl.out; omega) (by have := HI6.out.lt; simp; omega) ?_)
         intro v2 w2 h2 hg2 hn2
         have H2 := Lib.hid (HI6.out.app (strip_ok HOK.out) h2 hg2 hn2)
         clear h2 hg2 hn2))
    exact HQ.out _ _ _ _ _ _ _ _ _ _ _ _ _ _ _ _ _ _ _ _ _ _ _ _ _ _ _ _ _ _ _ _ _ _ _ _ _ _ _ _ _ _ _ _ _ _ _ _ _ _ _ _ _ _ _ _ _ _ _ _ _ _ _ _ _ _ _ _ _ _ _ _ _ _ _ _ _ _ _ _ _ _ _ _ _ _ _ _ _ _ _ _ _ _ _ _ _ _ w2 (vis_show (y := stripE x) HN.out (by unfold seenAt; rw [if_neg (by rw [HKD.out]; decide), if_pos (by rw [HKD.out]; decide), if_pos (HIN.out.2 (of_decide_eq_true HQQ.out))]; rfl) (by rw [HKD.out]; decide) (by go_num) HYS.out H2.out)
set_option maxRecDepth 100000 in
set_option maxHeartbeats 4000000 in
theorem vis_k6 {mem : Addr → Option Value} {W0 : World} {io db cb nb ob d B : Nat} {gs : List FctE} {cls now : Int} {ov : Value} {out : List Int} {fa : Option Addr} {fc fb fo : Nat} {SC : Scn} (C : VisC mem W0 io db cb nb ob d B gs cls now ov out fa fc fb fo SC) (c0 c1 c2 c6 c9 c10 c14 c18 c20 c21 c22 c23 c24 c25 c26 c27 c28 c29 c30 c31 c32 c33 c34 c35 c36 c37 c38 c39 c40 c41 c42 c43 c139 : Value) (u15 u16 u17 u19 u47 u48 u49 u50 u51 u52 u53 u54 u55 u56 u57 u58 u59 u60 u61 u62 u63 u64 u65 u66 u67 u68 u69 u70 u71 u72 u73 u74 u75 u76 u77 u78 u79 u80 u81 u82 u83 u84 u85 u86 u87 u88 u89 u90 u91 u92 u93 u94 u95 u96 u97 u98 u99 u100 u101 u102 u103 u104 u105 u106 u107 u108 u109 u110 u111 u112 u113 u114 u115 u116 u117 u118 u119 u120 u121 u122 u123 u124 u125 u126 u127 u128 u129 u130 u131 u132 u133 u134 u135 u136 u137 u138 : Value) (v : Value) (k : Nat) (x : FctE) (hk : k < gs.length) (hx : gs[k] = x) (hkd : x.f.kind = 6) (wr : World) (hR : VisR W0 SC k v (.int .i64 k) wr) (Q : Exit → Act → World → Prop)
    (hQ : ∀ (u12 u15 u16 u17 u19 u46 u47 u48 u49 u50 u51 u52 u53 u54 u55 u56 u57 u58 u59 u60 u61 u62 u63 u64 u65 u66 u67 u68 u69 u70 u71 u72 u73 u74 u75 u76 u77 u78 u79 u80 u81 u82 u83 u84 u85 u86 u87 u88 u89 u90 u91 u92 u93 u94 u95 u96 u97 u98 u99 u100 u101 u102 u103 u104 u105 u106 u107 u108 u109 u110 u111 u112 u113 u114 u115 u116 u117 u118 u119 u120 u121 u122 u123 u124 u125 u126 u127 u128 u129 u130 u131 u132 u133 u134 u135 u136 u137 u138 : Value) (w2 : World), VisR W0 SC (k + 1) u12 u46 w2 → Q .normal ⟨#[c0, c1, c2, .pointer (some ⟨db, 0, none⟩), .pointer (some ⟨cb, 0, none⟩), .pointer (some ⟨nb, 0, none⟩), c6, .pointer (some ⟨ob, 0, none⟩), .pointer (some ⟨io, 0, none⟩), c9, c10, openV io db cb nb ob, u12, .map (some W0.heap.size), c14, u15, u16, u17, c18, u19, c20, c21, c22, c23, c24, c25, c26, c27, c28, c29, c30, c31, c32, c33, c34, c35, c36, c37, c38, c39, c40, c41, c42, c43, .slice fa gs.length fc, .int .i64 gs.length, u46, u47, u48, u49, u50, u51, u52, u53, u54, u55, u56, u57, u58, u59, u60, u61, u62, u63, u64, u65, u66, u67, u68, u69, u70, u71, u72, u73, u74, u75, u76, u77, u78, u79, u80, u81, u82, u83, u84, u85, u86, u87, u88, u89, u90, u91, u92, u93, u94, u95, u96, u97, u98, u99, u100, u101, u102, u103, u104, u105, u106, u107, u108, u109, u110, u111, u112, u113, u114, u115, u116, u117, u118, u119, u120, u121, u122, u123, u124, u125, u126, u127, u128, u129, u130, u131, u132, u133, u134, u135, u136, u137, u138, c139], []⟩ w2) :
    visBody.wp Tryz.prog Q ⟨#[c0, c1, c2, .pointer (some ⟨db, 0, none⟩), .pointer (some ⟨cb, 0, none⟩), .pointer (some ⟨nb, 0, none⟩), c6, .pointer (some ⟨ob, 0, none⟩), .pointer (some ⟨io, 0, none⟩), c9, c10, openV io db cb nb ob, v, .map (some W0.heap.size), c14, u15, u16, u17, c18, u19, c20, c21, c22, c23, c24, c25, c26, c27, c28, c29, c30, c31, c32, c33, c34, c35, c36, c37, c38, c39, c40, c41, c42, c43, .slice fa gs.length fc, .int .i64 gs.length, (.int .i64 k), u47, u48, u49, u50, u51, u52, u53, u54, u55, u56, u57, u58, u59, u60, u61, u62, u63, u64, u65, u66, u67, u68, u69, u70, u71, u72, u73, u74, u75, u76, u77, u78, u79, u80, u81, u82, u83, u84, u85, u86, u87, u88, u89, u90, u91, u92, u93, u94, u95, u96, u97, u98, u99, u100, u101, u102, u103, u104, u105, u106, u107, u108, u109, u110, u111, u112, u113, u114, u115, u116, u117, u118, u119, u120, u121, u122, u123, u124, u125, u126, u127, u128, u129, u130, u131, u132, u133, u134, u135, u136, u137, u138, c139], []⟩ wr := by
  conv => arg 2; whnf
  obtain ⟨ys, _, hys, hI⟩ := hR
  have HN := Lib.hid (C.next hk hx)
  obtain rfl := C.fa (by omega)
  have hat : Hid (x.at (fun p => wr.cell? p) fb (fo + k * 23)) := Lib.hid (fun j u hj => (hI.bel.cell (World.block_lt_of_cell? W0 _ (C.at_ k hk j u (by rw [hx]; exact hj)))).trans (C.at_ k hk j u (by rw [hx]; exact hj)))
  have hxm : x ∈ gs := by rw [← hx]; exact List.getElem_mem hk
  obtain ⟨hok, hvl⟩ := C.good x hxm
  have HOK := Lib.hid hok
  have HVL := Lib.hid hvl
  have hsz : Hid (x.cells.size = 23) := Lib.hid rfl
  have hone := Lib.hid x.one
  have HC := Lib.hid C
  have HI := Lib.hid hI
  have HYS := Lib.hid hys
  have HQ := Lib.hid hQ
  have HKD := Lib.hid hkd
  have hle := C.len
  have hlk : (k : Int) < gs.length := by omega
  have hyl : Hid (ys.length ≤ 1000) := Lib.hid (by have h1 := visK_len SC k; rw [← hys, List.length_map] at h1; omega)
  have HB1 : Hid (Below wr.heap.size wr (wr.alloc (.cells x.cells 45))) := Lib.hid ((Below.refl _ wr).alloc (Nat.le_refl _) _)
  have HNEW := Lib.hid (World.alloc_heap_new wr (.cells x.cells 45))
  have hsz1 : wr.heap.size < (wr.alloc (.cells x.cells 45)).heap.size := by simp
  clear hx hI hys hQ hkd hxm hok hvl C
  go_upto_region 16 with (first
    | ((with_reducible refine at_fload (.tmp 48) rfl ?_); go_must (refine wpList_fct_mid rfl _ rfl (by simp [Act.eval]) hat.out ?_))
    | ((with_reducible refine at_fstore _ _ rfl ?_); go_must (refine wpList_fct_new rfl _ _ rfl rfl _ _ _ (by simp [Act.eval]) (by simp [Act.eval]) (by rfl) hsz.out hone.out ?_)))
  generalize hT : wr.heap.size = T at *
  generalize hW1 : wr.alloc (.cells x.cells 45) = W1 at *
  clear hW1
  have k2 := blk_cell HNEW.out 2
  have k3 := blk_cell HNEW.out 3
  have f9 := blk_free HNEW.out 9
  have f10 := blk_free HNEW.out 10
  have f11 := blk_free HNEW.out 11
  have f12 := blk_free HNEW.out 12
  have f13 := blk_free HNEW.out 13
  have f14 := blk_free HNEW.out 14
  have k9 : W1.cell? ⟨T, 9, none⟩ = some x.tv := blk_cell HNEW.out 9
  have k10 : W1.cell? ⟨T, 10, none⟩ = some x.bv := blk_cell HNEW.out 10
  have k11 : W1.cell? ⟨T, 11, none⟩ = some (.int .i64 x.f.lab.till) := blk_cell HNEW.out 11
  have k12 : W1.cell? ⟨T, 12, none⟩ = some x.av := blk_cell HNEW.out 12
  have k13 : W1.cell? ⟨T, 13, none⟩ = some (.int .i64 x.f.lab.appr) := blk_cell HNEW.out 13
  have k14 : W1.cell? ⟨T, 14, none⟩ = some (.int .i64 x.f.lab.denied) := blk_cell HNEW.out 14
  rw [show x.cells[2]? = some (.int .i64 x.f.kind) from rfl, HKD.out] at k2
  rw [show x.cells[3]? = some (.int .i64 x.f.story) from rfl] at k3
  obtain ⟨s, hs, hs1, hs64⟩ := good_story HVL.out (by rw [HKD.out]; decide)
  have HS := Lib.hid hs
  have HO := Lib.hid (HC.out.open_.bel (HI.out.bel.trans (HB1.out.mono (by rw [← hT]; exact HI.out.bel.size))))
  have k0 := HO.out.tab.cell (j := s) (by omega)
  unfold inT at k0
  rw [hs] at k3
  clear hs
  have hs0 : (0 : Int) ≤ (s : Nat) := by omega
  have hs65 : ((s : Nat) : Int) < 65 := by omega
  generalize hq : decide (((s : Nat) : Int) ∈ out) = q at k0
  have HQQ := Lib.hid hq
  have HIN : Hid ((x.f.story ∈ SC.out) ↔ (((s : Nat) : Int) ∈ out)) := Lib.hid (by rw [HS.out, HC.out.sc]; exact Iff.rfl)
  have HBX := Lib.hid HB1.out
  clear hq
  cases q
  · go_wp2_with fail
    exact HQ.out _ _ _ _ _ _ _ _ _ _ _ _ _ _ _ _ _ _ _ _ _ _ _ _ _ _ _ _ _ _ _ _ _ _ _ _ _ _ _ _ _ _ _ _ _ _ _ _ _ _ _ _ _ _ _ _ _ _ _ _ _ _ _ _ _ _ _ _ _ _ _ _ _ _ _ _ _ _ _ _ _ _ _ _ _ _ _ _ _ _ _ _ _ _ _ _ _ _ _ (vis_skip HN.out (by unfold seenAt; rw [if_neg (by rw [HKD.out]; decide), if_pos (by rw [HKD.out]; decide), if_neg (fun h => of_decide_eq_false HQQ.out (HIN.out.1 h))]) (by rw [HKD.out]; decide) (by go_num) HYS.out (HI.out.below (by rw [hT]; exact HBX.out)))
  · clear HBX
    go_wp2_with (with_reducible refine at_fload_stand (.tmp 15) rfl ?_)
    show wpList _ _ _ _ _ _
    generalize hW6 : (World.setCell (World.setCell (World.setCell (World.setCell (World.setCell (World.setCell W1 ⟨T, 9, none⟩ _) ⟨T, 10, none⟩ _) ⟨T, 11, none⟩ _) ⟨T, 12, none⟩ _) ⟨T, 13, none⟩ _) ⟨T, 14, none⟩ _) = W6
    have hu6 : Upd (fun b => b = T) W1 W6 := by
      rw [← hW6]
      exact ((((((Upd.refl (fun b => b = T) W1).setCell (p := ⟨T, 9, none⟩) (.inl rfl) _).setCell (p := ⟨T, 10, none⟩) (.inl rfl) _).setCell (p := ⟨T, 11, none⟩) (.inl rfl) _).setCell (p := ⟨T, 12, none⟩) (.inl rfl) _).setCell (p := ⟨T, 13, none⟩) (.inl rfl) _).setCell (p := ⟨T, 14, none⟩) (.inl rfl) _
    have HC6 : Hid (W6.heap[T]? = some (.cells (stripE x).cells 45 (0, 0))) := Lib.hid (by
      rw [← hW6]
      exact blk_set (j := 14) (u := .int .i64 0) (blk_set (j := 13) (u := .int .i64 0) (blk_set (j := 12) (u := nilS) (blk_set (j := 11) (u := .int .i64 0) (blk_set (j := 10) (u := nilS) (blk_set (j := 9) (u := nilS) HNEW.out))))))
    have HB6 : Hid (Below T wr W6) := Lib.hid (HB1.out.trans (hu6.below (fun k e => by omega) (Nat.le_of_lt hsz1)))
    have HI6 := Lib.hid (HI.out.below (by rw [hT]; exact HB6.out))
    have hss : Hid ((stripE x).cells.size = 23) := Lib.hid rfl
    clear hW6 hu6 k2 k3 k9 k10 k11 k12 k13 k14 f9 f10 f11 f12 f13 f14
    go_wp2_with (first
      | ((with_reducible refine at_fload _ rfl ?_); go_must (refine wpList_fct_load rfl _ rfl T (by simp [Act.eval]) _ HC6.out hss.out ?_))
      | ((with_reducible refine at_fslice _ rfl ?_); go_must (refine wpList_fct_slice rfl _ rfl (stripE x) (by first | (simp [Act.eval]; done) | simp [Act.eval, Act.put]) ?_))
      | (at_builtin
         go_must (refine wpList_app_fct rfl _ _ rfl (W0.heap.size + 1) _ ys rfl (HI6.out.row.same fun k hk => Below.heap_alloc _ _ _ (HI6.out.row.ge k hk).2) (stripE x) W6.heap.size 1 rfl (World.alloc_heap_new _ _) (by have := hyl.out; omega) (by have := HI6.out.lt; simp; omega) ?_)
         intro v2 w2 h2 hg2 hn2
         have H2 := Lib.hid (HI6.out.app (strip_ok HOK.out) h2 hg2 hn2)
         clear h2 hg2 hn2))
    exact HQ.out _ _ _ _ _ _ _ _ _ _ _ _ _ _ _ _ _ _ _ _ _ _ _ _ _ _ _ _ _ _ _ _ _ _ _ _ _ _ _ _ _ _ _ _ _ _ _ _ _ _ _ _ _ _ _ _ _ _ _ _ _ _ _ _ _ _ _ _ _ _ _ _ _ _ _ _ _ _ _ _ _ _ _ _ _ _ _ _ _ _ _ _ _ _ _ _ _ _ w2 (vis_show (y := stripE x) HN.out (by unfold seenAt; rw [if_neg (by rw [HKD.out]; decide), if_pos (by rw [HKD.out]; decide), if_pos (HIN.out.2 (of_decide_eq_true HQQ.out))]; rfl) (by rw [HKD.out]; decide) (by go_num) HYS.out H2.out)
set_option maxRecDepth 100000 in
set_option maxHeartbeats 4000000 in
theorem vis_k0 {mem : Addr → Option Value} {W0 : World} {io db cb nb ob d B : Nat} {gs : List FctE} {cls now : Int} {ov : Value} {out : List Int} {fa : Option Addr} {fc fb fo : Nat} {SC : Scn} (C : VisC mem W0 io db cb nb ob d B gs cls now ov out fa fc fb fo SC) (c0 c1 c2 c6 c9 c10 c14 c18 c20 c21 c22 c23 c24 c25 c26 c27 c28 c29 c30 c31 c32 c33 c34 c35 c36 c37 c38 c39 c40 c41 c42 c43 c139 : Value) (u15 u16 u17 u19 u47 u48 u49 u50 u51 u52 u53 u54 u55 u56 u57 u58 u59 u60 u61 u62 u63 u64 u65 u66 u67 u68 u69 u70 u71 u72 u73 u74 u75 u76 u77 u78 u79 u80 u81 u82 u83 u84 u85 u86 u87 u88 u89 u90 u91 u92 u93 u94 u95 u96 u97 u98 u99 u100 u101 u102 u103 u104 u105 u106 u107 u108 u109 u110 u111 u112 u113 u114 u115 u116 u117 u118 u119 u120 u121 u122 u123 u124 u125 u126 u127 u128 u129 u130 u131 u132 u133 u134 u135 u136 u137 u138 : Value) (v : Value) (k : Nat) (x : FctE) (hk : k < gs.length) (hx : gs[k] = x) (hkd : x.f.kind ≠ 1 ∧ x.f.kind ≠ 3 ∧ x.f.kind ≠ 4 ∧ x.f.kind ≠ 5 ∧ x.f.kind ≠ 6 ∧ x.f.kind ≠ 7) (wr : World) (hR : VisR W0 SC k v (.int .i64 k) wr) (Q : Exit → Act → World → Prop)
    (hQ : ∀ (u12 u15 u16 u17 u19 u46 u47 u48 u49 u50 u51 u52 u53 u54 u55 u56 u57 u58 u59 u60 u61 u62 u63 u64 u65 u66 u67 u68 u69 u70 u71 u72 u73 u74 u75 u76 u77 u78 u79 u80 u81 u82 u83 u84 u85 u86 u87 u88 u89 u90 u91 u92 u93 u94 u95 u96 u97 u98 u99 u100 u101 u102 u103 u104 u105 u106 u107 u108 u109 u110 u111 u112 u113 u114 u115 u116 u117 u118 u119 u120 u121 u122 u123 u124 u125 u126 u127 u128 u129 u130 u131 u132 u133 u134 u135 u136 u137 u138 : Value) (w2 : World), VisR W0 SC (k + 1) u12 u46 w2 → Q .normal ⟨#[c0, c1, c2, .pointer (some ⟨db, 0, none⟩), .pointer (some ⟨cb, 0, none⟩), .pointer (some ⟨nb, 0, none⟩), c6, .pointer (some ⟨ob, 0, none⟩), .pointer (some ⟨io, 0, none⟩), c9, c10, openV io db cb nb ob, u12, .map (some W0.heap.size), c14, u15, u16, u17, c18, u19, c20, c21, c22, c23, c24, c25, c26, c27, c28, c29, c30, c31, c32, c33, c34, c35, c36, c37, c38, c39, c40, c41, c42, c43, .slice fa gs.length fc, .int .i64 gs.length, u46, u47, u48, u49, u50, u51, u52, u53, u54, u55, u56, u57, u58, u59, u60, u61, u62, u63, u64, u65, u66, u67, u68, u69, u70, u71, u72, u73, u74, u75, u76, u77, u78, u79, u80, u81, u82, u83, u84, u85, u86, u87, u88, u89, u90, u91, u92, u93, u94, u95, u96, u97, u98, u99, u100, u101, u102, u103, u104, u105, u106, u107, u108, u109, u110, u111, u112, u113, u114, u115, u116, u117, u118, u119, u120, u121, u122, u123, u124, u125, u126, u127, u128, u129, u130, u131, u132, u133, u134, u135, u136, u137, u138, c139], []⟩ w2) :
    visBody.wp Tryz.prog Q ⟨#[c0, c1, c2, .pointer (some ⟨db, 0, none⟩), .pointer (some ⟨cb, 0, none⟩), .pointer (some ⟨nb, 0, none⟩), c6, .pointer (some ⟨ob, 0, none⟩), .pointer (some ⟨io, 0, none⟩), c9, c10, openV io db cb nb ob, v, .map (some W0.heap.size), c14, u15, u16, u17, c18, u19, c20, c21, c22, c23, c24, c25, c26, c27, c28, c29, c30, c31, c32, c33, c34, c35, c36, c37, c38, c39, c40, c41, c42, c43, .slice fa gs.length fc, .int .i64 gs.length, (.int .i64 k), u47, u48, u49, u50, u51, u52, u53, u54, u55, u56, u57, u58, u59, u60, u61, u62, u63, u64, u65, u66, u67, u68, u69, u70, u71, u72, u73, u74, u75, u76, u77, u78, u79, u80, u81, u82, u83, u84, u85, u86, u87, u88, u89, u90, u91, u92, u93, u94, u95, u96, u97, u98, u99, u100, u101, u102, u103, u104, u105, u106, u107, u108, u109, u110, u111, u112, u113, u114, u115, u116, u117, u118, u119, u120, u121, u122, u123, u124, u125, u126, u127, u128, u129, u130, u131, u132, u133, u134, u135, u136, u137, u138, c139], []⟩ wr := by
  conv => arg 2; whnf
  obtain ⟨ys, _, hys, hI⟩ := hR
  have HN := Lib.hid (C.next hk hx)
  obtain rfl := C.fa (by omega)
  have hat : Hid (x.at (fun p => wr.cell? p) fb (fo + k * 23)) := Lib.hid (fun j u hj => (hI.bel.cell (World.block_lt_of_cell? W0 _ (C.at_ k hk j u (by rw [hx]; exact hj)))).trans (C.at_ k hk j u (by rw [hx]; exact hj)))
  have hxm : x ∈ gs := by rw [← hx]; exact List.getElem_mem hk
  obtain ⟨hok, hvl⟩ := C.good x hxm
  have HOK := Lib.hid hok
  have HVL := Lib.hid hvl
  have hsz : Hid (x.cells.size = 23) := Lib.hid rfl
  have hone := Lib.hid x.one
  have HC := Lib.hid C
  have HI := Lib.hid hI
  have HYS := Lib.hid hys
  have HQ := Lib.hid hQ
  have HKD := Lib.hid hkd
  have hle := C.len
  have hlk : (k : Int) < gs.length := by omega
  have hyl : Hid (ys.length ≤ 1000) := Lib.hid (by have h1 := visK_len SC k; rw [← hys, List.length_map] at h1; omega)
  have HB1 : Hid (Below wr.heap.size wr (wr.alloc (.cells x.cells 45))) := Lib.hid ((Below.refl _ wr).alloc (Nat.le_refl _) _)
  have HNEW := Lib.hid (World.alloc_heap_new wr (.cells x.cells 45))
  have hsz1 : wr.heap.size < (wr.alloc (.cells x.cells 45)).heap.size := by simp
  clear hx hI hys hQ hkd hxm hok hvl C
  go_upto_region 16 with (first
    | ((with_reducible refine at_fload (.tmp 48) rfl ?_); go_must (refine wpList_fct_mid rfl _ rfl (by simp [Act.eval]) hat.out ?_))
    | ((with_reducible refine at_fstore _ _ rfl ?_); go_must (refine wpList_fct_new rfl _ _ rfl rfl _ _ _ (by simp [Act.eval]) (by simp [Act.eval]) (by rfl) hsz.out hone.out ?_)))
  generalize hT : wr.heap.size = T at *
  generalize hW1 : wr.alloc (.cells x.cells 45) = W1 at *
  clear hW1
  have k2 := blk_cell HNEW.out 2
  have k3 := blk_cell HNEW.out 3
  have f9 := blk_free HNEW.out 9
  have f10 := blk_free HNEW.out 10
  have f11 := blk_free HNEW.out 11
  have f12 := blk_free HNEW.out 12
  have f13 := blk_free HNEW.out 13
  have f14 := blk_free HNEW.out 14
  have k9 : W1.cell? ⟨T, 9, none⟩ = some x.tv := blk_cell HNEW.out 9
  have k10 : W1.cell? ⟨T, 10, none⟩ = some x.bv := blk_cell HNEW.out 10
  have k11 : W1.cell? ⟨T, 11, none⟩ = some (.int .i64 x.f.lab.till) := blk_cell HNEW.out 11
  have k12 : W1.cell? ⟨T, 12, none⟩ = some x.av := blk_cell HNEW.out 12
  have k13 : W1.cell? ⟨T, 13, none⟩ = some (.int .i64 x.f.lab.appr) := blk_cell HNEW.out 13
  have k14 : W1.cell? ⟨T, 14, none⟩ = some (.int .i64 x.f.lab.denied) := blk_cell HNEW.out 14
  rw [show x.cells[2]? = some (.int .i64 x.f.kind) from rfl] at k2
  rw [show x.cells[3]? = some (.int .i64 x.f.story) from rfl] at k3
  have b1 : (x.f.kind == 1) = false := by simpa using HKD.out.1
  have b3 : (x.f.kind == 3) = false := by simpa using HKD.out.2.1
  have b4 : (x.f.kind == 4) = false := by simpa using HKD.out.2.2.1
  have b5 : (x.f.kind == 5) = false := by simpa using HKD.out.2.2.2.1
  have b6 : (x.f.kind == 6) = false := by simpa using HKD.out.2.2.2.2.1
  have b7 : (x.f.kind == 7) = false := by simpa using HKD.out.2.2.2.2.2
  have HBX := Lib.hid HB1.out
  go_wp2_with fail
  exact HQ.out _ _ _ _ _ _ _ _ _ _ _ _ _ _ _ _ _ _ _ _ _ _ _ _ _ _ _ _ _ _ _ _ _ _ _ _ _ _ _ _ _ _ _ _ _ _ _ _ _ _ _ _ _ _ _ _ _ _ _ _ _ _ _ _ _ _ _ _ _ _ _ _ _ _ _ _ _ _ _ _ _ _ _ _ _ _ _ _ _ _ _ _ _ _ _ _ _ _ _ (vis_skip HN.out (by obtain ⟨h1, h3, h4, h5, h6, h7⟩ := HKD.out; unfold seenAt; rw [if_neg h7, if_neg (by omega), if_neg h5, if_neg h4, if_neg h1]) HKD.out.1 (by go_num) HYS.out (HI.out.below (by rw [hT]; exact HBX.out)))
set_option maxRecDepth 100000 in
set_option maxHeartbeats 4000000 in
theorem vis_k4 {mem : Addr → Option Value} {W0 : World} {io db cb nb ob d B : Nat} {gs : List FctE} {cls now : Int} {ov : Value} {out : List Int} {fa : Option Addr} {fc fb fo : Nat} {SC : Scn} (C : VisC mem W0 io db cb nb ob d B gs cls now ov out fa fc fb fo SC) (c0 c1 c2 c6 c9 c10 c14 c18 c20 c21 c22 c23 c24 c25 c26 c27 c28 c29 c30 c31 c32 c33 c34 c35 c36 c37 c38 c39 c40 c41 c42 c43 c139 : Value) (u15 u16 u17 u19 u47 u48 u49 u50 u51 u52 u53 u54 u55 u56 u57 u58 u59 u60 u61 u62 u63 u64 u65 u66 u67 u68 u69 u70 u71 u72 u73 u74 u75 u76 u77 u78 u79 u80 u81 u82 u83 u84 u85 u86 u87 u88 u89 u90 u91 u92 u93 u94 u95 u96 u97 u98 u99 u100 u101 u102 u103 u104 u105 u106 u107 u108 u109 u110 u111 u112 u113 u114 u115 u116 u117 u118 u119 u120 u121 u122 u123 u124 u125 u126 u127 u128 u129 u130 u131 u132 u133 u134 u135 u136 u137 u138 : Value) (v : Value) (k : Nat) (x : FctE) (hk : k < gs.length) (hx : gs[k] = x) (hkd : x.f.kind = 4) (wr : World) (hR : VisR W0 SC k v (.int .i64 k) wr) (Q : Exit → Act → World → Prop)
    (hQ : ∀ (u12 u15 u16 u17 u19 u46 u47 u48 u49 u50 u51 u52 u53 u54 u55 u56 u57 u58 u59 u60 u61 u62 u63 u64 u65 u66 u67 u68 u69 u70 u71 u72 u73 u74 u75 u76 u77 u78 u79 u80 u81 u82 u83 u84 u85 u86 u87 u88 u89 u90 u91 u92 u93 u94 u95 u96 u97 u98 u99 u100 u101 u102 u103 u104 u105 u106 u107 u108 u109 u110 u111 u112 u113 u114 u115 u116 u117 u118 u119 u120 u121 u122 u123 u124 u125 u126 u127 u128 u129 u130 u131 u132 u133 u134 u135 u136 u137 u138 : Value) (w2 : World), VisR W0 SC (k + 1) u12 u46 w2 → Q .normal ⟨#[c0, c1, c2, .pointer (some ⟨db, 0, none⟩), .pointer (some ⟨cb, 0, none⟩), .pointer (some ⟨nb, 0, none⟩), c6, .pointer (some ⟨ob, 0, none⟩), .pointer (some ⟨io, 0, none⟩), c9, c10, openV io db cb nb ob, u12, .map (some W0.heap.size), c14, u15, u16, u17, c18, u19, c20, c21, c22, c23, c24, c25, c26, c27, c28, c29, c30, c31, c32, c33, c34, c35, c36, c37, c38, c39, c40, c41, c42, c43, .slice fa gs.length fc, .int .i64 gs.length, u46, u47, u48, u49, u50, u51, u52, u53, u54, u55, u56, u57, u58, u59, u60, u61, u62, u63, u64, u65, u66, u67, u68, u69, u70, u71, u72, u73, u74, u75, u76, u77, u78, u79, u80, u81, u82, u83, u84, u85, u86, u87, u88, u89, u90, u91, u92, u93, u94, u95, u96, u97, u98, u99, u100, u101, u102, u103, u104, u105, u106, u107, u108, u109, u110, u111, u112, u113, u114, u115, u116, u117, u118, u119, u120, u121, u122, u123, u124, u125, u126, u127, u128, u129, u130, u131, u132, u133, u134, u135, u136, u137, u138, c139], []⟩ w2) :
    visBody.wp Tryz.prog Q ⟨#[c0, c1, c2, .pointer (some ⟨db, 0, none⟩), .pointer (some ⟨cb, 0, none⟩), .pointer (some ⟨nb, 0, none⟩), c6, .pointer (some ⟨ob, 0, none⟩), .pointer (some ⟨io, 0, none⟩), c9, c10, openV io db cb nb ob, v, .map (some W0.heap.size), c14, u15, u16, u17, c18, u19, c20, c21, c22, c23, c24, c25, c26, c27, c28, c29, c30, c31, c32, c33, c34, c35, c36, c37, c38, c39, c40, c41, c42, c43, .slice fa gs.length fc, .int .i64 gs.length, (.int .i64 k), u47, u48, u49, u50, u51, u52, u53, u54, u55, u56, u57, u58, u59, u60, u61, u62, u63, u64, u65, u66, u67, u68, u69, u70, u71, u72, u73, u74, u75, u76, u77, u78, u79, u80, u81, u82, u83, u84, u85, u86, u87, u88, u89, u90, u91, u92, u93, u94, u95, u96, u97, u98, u99, u100, u101, u102, u103, u104, u105, u106, u107, u108, u109, u110, u111, u112, u113, u114, u115, u116, u117, u118, u119, u120, u121, u122, u123, u124, u125, u126, u127, u128, u129, u130, u131, u132, u133, u134, u135, u136, u137, u138, c139], []⟩ wr := by
  conv => arg 2; whnf
  obtain ⟨ys, _, hys, hI⟩ := hR
  have HN := Lib.hid (C.next hk hx)
  obtain rfl := C.fa (by omega)
  have hat : Hid (x.at (fun p => wr.cell? p) fb (fo + k * 23)) := Lib.hid (fun j u hj => (hI.bel.cell (World.block_lt_of_cell? W0 _ (C.at_ k hk j u (by rw [hx]; exact hj)))).trans (C.at_ k hk j u (by rw [hx]; exact hj)))
  have hxm : x ∈ gs := by rw [← hx]; exact List.getElem_mem hk
  obtain ⟨hok, hvl⟩ := C.good x hxm
  have HOK := Lib.hid hok
  have HVL := Lib.hid hvl
  have hsz : Hid (x.cells.size = 23) := Lib.hid rfl
  have hone := Lib.hid x.one
  have HC := Lib.hid C
  have HI := Lib.hid hI
  have HYS := Lib.hid hys
  have HQ := Lib.hid hQ
  have HKD := Lib.hid hkd
  have hle := C.len
  have hlk : (k : Int) < gs.length := by omega
  have hyl : Hid (ys.length ≤ 1000) := Lib.hid (by have h1 := visK_len SC k; rw [← hys, List.length_map] at h1; omega)
  have HB1 : Hid (Below wr.heap.size wr (wr.alloc (.cells x.cells 45))) := Lib.hid ((Below.refl _ wr).alloc (Nat.le_refl _) _)
  have HNEW := Lib.hid (World.alloc_heap_new wr (.cells x.cells 45))
  have hsz1 : wr.heap.size < (wr.alloc (.cells x.cells 45)).heap.size := by simp
  clear hx hI hys hQ hkd hxm hok hvl C
  go_upto_region 16 with (first
    | ((with_reducible refine at_fload (.tmp 48) rfl ?_); go_must (refine wpList_fct_mid rfl _ rfl (by simp [Act.eval]) hat.out ?_))
    | ((with_reducible refine at_fstore _ _ rfl ?_); go_must (refine wpList_fct_new rfl _ _ rfl rfl _ _ _ (by simp [Act.eval]) (by simp [Act.eval]) (by rfl) hsz.out hone.out ?_)))
  generalize hT : wr.heap.size = T at *
  generalize hW1 : wr.alloc (.cells x.cells 45) = W1 at *
  clear hW1
  have k2 := blk_cell HNEW.out 2
  have k3 := blk_cell HNEW.out 3
  have f9 := blk_free HNEW.out 9
  have f10 := blk_free HNEW.out 10
  have f11 := blk_free HNEW.out 11
  have f12 := blk_free HNEW.out 12
  have f13 := blk_free HNEW.out 13
  have f14 := blk_free HNEW.out 14
  have k9 : W1.cell? ⟨T, 9, none⟩ = some x.tv := blk_cell HNEW.out 9
  have k10 : W1.cell? ⟨T, 10, none⟩ = some x.bv := blk_cell HNEW.out 10
  have k11 : W1.cell? ⟨T, 11, none⟩ = some (.int .i64 x.f.lab.till) := blk_cell HNEW.out 11
  have k12 : W1.cell? ⟨T, 12, none⟩ = some x.av := blk_cell HNEW.out 12
  have k13 : W1.cell? ⟨T, 13, none⟩ = some (.int .i64 x.f.lab.appr) := blk_cell HNEW.out 13
  have k14 : W1.cell? ⟨T, 14, none⟩ = some (.int .i64 x.f.lab.denied) := blk_cell HNEW.out 14
  rw [show x.cells[2]? = some (.int .i64 x.f.kind) from rfl, HKD.out] at k2
  rw [show x.cells[3]? = some (.int .i64 x.f.story) from rfl] at k3
  have HPL := (HI.out.below (by rw [hT]; exact HB1.out)).pl
  have hlk := HPL.look x.f.story x.f.block x.f.lang HOK.out.fok.i3 HOK.out.fok.i16 HOK.out.fok.s4
  unfold key3 at hlk
  have k4 : W1.cell? ⟨T, 4, none⟩ = some (.string x.f.lang) := blk_cell HNEW.out 4
  have k16 : W1.cell? ⟨T, 16, none⟩ = some (.int .i64 x.f.block) := blk_cell HNEW.out 16
  clear HPL
  generalize hq : placesF SC (List.take k SC.D) x.f.story x.f.lang x.f.block = q at hlk
  have HQQ := Lib.hid hq
  have HBX := Lib.hid HB1.out
  clear hq
  cases q
  · go_wp2_with fail
    exact HQ.out _ _ _ _ _ _ _ _ _ _ _ _ _ _ _ _ _ _ _ _ _ _ _ _ _ _ _ _ _ _ _ _ _ _ _ _ _ _ _ _ _ _ _ _ _ _ _ _ _ _ _ _ _ _ _ _ _ _ _ _ _ _ _ _ _ _ _ _ _ _ _ _ _ _ _ _ _ _ _ _ _ _ _ _ _ _ _ _ _ _ _ _ _ _ _ _ _ _ _ (vis_skip HN.out (by unfold seenAt; rw [if_neg (by rw [HKD.out]; decide), if_neg (by rw [HKD.out]; decide), if_neg (by rw [HKD.out]; decide), if_pos HKD.out, HQQ.out]; rfl) (by rw [HKD.out]; decide) (by go_num) HYS.out (HI.out.below (by rw [hT]; exact HBX.out)))
  · clear HBX
    go_wp2_with (with_reducible refine at_fload_stand (.tmp 15) rfl ?_)
    show wpList _ _ _ _ _ _
    generalize hW6 : (World.setCell (World.setCell (World.setCell (World.setCell (World.setCell (World.setCell W1 ⟨T, 9, none⟩ _) ⟨T, 10, none⟩ _) ⟨T, 11, none⟩ _) ⟨T, 12, none⟩ _) ⟨T, 13, none⟩ _) ⟨T, 14, none⟩ _) = W6
    have hu6 : Upd (fun b => b = T) W1 W6 := by
      rw [← hW6]
      exact ((((((Upd.refl (fun b => b = T) W1).setCell (p := ⟨T, 9, none⟩) (.inl rfl) _).setCell (p := ⟨T, 10, none⟩) (.inl rfl) _).setCell (p := ⟨T, 11, none⟩) (.inl rfl) _).setCell (p := ⟨T, 12, none⟩) (.inl rfl) _).setCell (p := ⟨T, 13, none⟩) (.inl rfl) _).setCell (p := ⟨T, 14, none⟩) (.inl rfl) _
    have HC6 : Hid (W6.heap[T]? = some (.cells (stripE x).cells 45 (0, 0))) := Lib.hid (by
      rw [← hW6]
      exact blk_set (j := 14) (u := .int .i64 0) (blk_set (j := 13) (u := .int .i64 0) (blk_set (j := 12) (u := nilS) (blk_set (j := 11) (u := .int .i64 0) (blk_set (j := 10) (u := nilS) (blk_set (j := 9) (u := nilS) HNEW.out))))))
    have HB6 : Hid (Below T wr W6) := Lib.hid (HB1.out.trans (hu6.below (fun k e => by omega) (Nat.le_of_lt hsz1)))
    have HI6 := Lib.hid (HI.out.below (by rw [hT]; exact HB6.out))
    have hss : Hid ((stripE x).cells.size = 23) := Lib.hid rfl
    clear hW6 hu6 k2 k3 k9 k10 k11 k12 k13 k14 f9 f10 f11 f12 f13 f14
    go_wp2_with (first
      | ((with_reducible refine at_fload _ rfl ?_); go_must (refine wpList_fct_load rfl _ rfl T (by simp [Act.eval]) _ HC6.out hss.out ?_))
      | ((with_reducible refine at_fslice _ rfl ?_); go_must (refine wpList_fct_slice rfl _ rfl (stripE x) (by first | (simp [Act.eval]; done) | simp [Act.eval, Act.put]) ?_))
      | (at_builtin
         go_must (refine wpList_app_fct rfl _ _ rfl (W0.heap.size + 1) _ ys rfl (HI6.out.row.same fun k hk => Below.heap_alloc _ _ _ (HI6.out.row.ge k hk).2) (stripE x) W6.heap.size 1 rfl (World.alloc_heap_new _ _) (by have := hyl.out; omega) (by have := HI6.out.lt; simp; omega) ?_)
         intro v2 w2 h2 hg2 hn2
         have H2 := Lib.hid (HI6.out.app (strip_ok HOK.out) h2 hg2 hn2)
         clear h2 hg2 hn2))
    exact HQ.out _ _ _ _ _ _ _ _ _ _ _ _ _ _ _ _ _ _ _ _ _ _ _ _ _ _ _ _ _ _ _ _ _ _ _ _ _ _ _ _ _ _ _ _ _ _ _ _ _ _ _ _ _ _ _ _ _ _ _ _ _ _ _ _ _ _ _ _ _ _ _ _ _ _ _ _ _ _ _ _ _ _ _ _ _ _ _ _ _ _ _ _ _ _ _ _ _ _ w2 (vis_show (y := stripE x) HN.out (by unfold seenAt; rw [if_neg (by rw [HKD.out]; decide), if_neg (by rw [HKD.out]; decide), if_neg (by rw [HKD.out]; decide), if_pos HKD.out, HQQ.out]; rfl) (by rw [HKD.out]; decide) (by go_num) HYS.out H2.out)
end Go.Proofs.YtgbihmafmmeicaaGreatDoor
namespace Go.Proofs.YtgbihmafmmeicaaGreatDoor

inductive Sched
  | done
  | take (i : Nat) (s : Sched)
  | only (i : Nat) (s : Sched)
  | last (i : Nat) (s : Sched)
  | either (i j : Nat) (s t : Sched)
def schB (md : Region.Mode) (ops : Array Oper) (fin : Nat) : Sched → Array Bool → Bool
  | .done, listed => (Region.ready md ops listed).isEmpty
  | .take i s, listed => (Region.ready md ops listed).contains i && Region.free md ops listed i && (decide (ops.size ≤ fin) || Region.waitsFor md ops fin i) && schB md ops fin s (listed.setIfInBounds i true)
  | .only i s, listed => decide (Region.ready md ops listed = [i]) && schB md ops fin s (listed.setIfInBounds i true)
  | .last i s, listed => decide (i = fin) && decide (Region.ready md ops listed = [i]) && schB md ops fin s (listed.setIfInBounds i true)
  | .either i j s t, listed => decide (Region.ready md ops listed = [i, j]) && schB md ops fin s (listed.setIfInBounds i true) && schB md ops fin t (listed.setIfInBounds j true)
def Sched.len : Sched → Nat
  | .done => 0
  | .take _ s => s.len + 1
  | .only _ s => s.len + 1
  | .last _ s => s.len + 1
  | .either _ _ s t => max s.len t.len + 1
def Sched.even : Sched → Nat → Bool
  | .done, n => n == 0
  | .take _ s, n + 1 => s.even n
  | .only _ s, n + 1 => s.even n
  | .last _ s, n + 1 => s.even n
  | .either _ _ s t, n + 1 => s.even n && t.even n
  | _, 0 => false
def oneSch (P : Program) (ops : Array Oper) (Q : Exit → Act → World → Prop) (S : World → Prop) (o : Oper) (X : Act → World → Prop) (a : Act) (w : World) : Prop :=
  if Region.wanted o (yielded ops a.tmps) then o.wp P a w (fun a' w' => S w' ∧ X a' w') Q else S w ∧ X (a.put o.dst undef) w
def lastSch (P : Program) (ops : Array Oper) (Q : Exit → Act → World → Prop) (o : Oper) (X : Act → World → Prop) (a : Act) (w : World) : Prop :=
  if Region.wanted o (yielded ops a.tmps) then o.wp P a w X Q else X (a.put o.dst undef) w
def wpSch (P : Program) (l : List Oper) (Q : Exit → Act → World → Prop) (S : World → Prop) : Sched → Act → World → Prop
  | .done, a, w => Q .normal a w
  | .take i s, a, w => ∃ o, l[i]? = some o ∧ (∀ v c a w, Q (.panic c) (Act.put a o.dst v) w → Q (.panic c) a w) ∧ S w ∧ ∃ v, YieldsIf P l.toArray S o v a ∧ wpSch P l Q S s (a.put o.dst v) w
  | .only i s, a, w => ∃ o, l[i]? = some o ∧ oneSch P l.toArray Q S o (wpSch P l Q S s) a w
  | .last i s, a, w => ∃ o, l[i]? = some o ∧ lastSch P l.toArray Q o (wpSch P l Q S s) a w
  | .either i j s t, a, w => (∃ o, l[i]? = some o ∧ oneSch P l.toArray Q S o (wpSch P l Q S s) a w) ∧ ∃ o, l[j]? = some o ∧ oneSch P l.toArray Q S o (wpSch P l Q S t) a w
section
variable {P : Program} {l : List Oper} {Q : Exit → Act → World → Prop} {md : Region.Mode} {S : World → Prop} {a : Act} {w : World} {fin : Nat}
theorem one_step {o : Oper} {X : Act → World → Prop} (h : ∀ K : Act → World → Prop, (∀ a w, S w → X a w → K a w) → if Region.wanted o (yielded l.toArray a.tmps) then o.wp P a w K Q else K (a.put o.dst undef) w) : oneSch P l.toArray Q S o X a w := by
  have := h (fun a' w' => S w' ∧ X a' w') (fun _ _ h1 h2 => ⟨h1, h2⟩)
  unfold oneSch
  split
  · rename_i hw; rw [if_pos hw] at this; exact this
  · rename_i hw; rw [if_neg hw] at this; exact this
theorem wpSch_only {i : Nat} {s : Sched} {o : Oper} (ho : l[i]? = some o) (h : ∀ K : Act → World → Prop, (∀ a w, S w → wpSch P l Q S s a w → K a w) → if Region.wanted o (yielded l.toArray a.tmps) then o.wp P a w K Q else K (a.put o.dst undef) w) : wpSch P l Q S (.only i s) a w :=
  ⟨o, ho, one_step h⟩
theorem wpSch_last {i : Nat} {s : Sched} {o : Oper} (ho : l[i]? = some o) (h : ∀ K : Act → World → Prop, (∀ a w, wpSch P l Q S s a w → K a w) → if Region.wanted o (yielded l.toArray a.tmps) then o.wp P a w K Q else K (a.put o.dst undef) w) : wpSch P l Q S (.last i s) a w :=
  ⟨o, ho, h _ (fun _ _ h => h)⟩
theorem wpSch_either {i j : Nat} {s t : Sched} {o o2 : Oper} (ho : l[i]? = some o) (ho2 : l[j]? = some o2)
    (h : ∀ K : Act → World → Prop, (∀ a w, S w → wpSch P l Q S s a w → K a w) → if Region.wanted o (yielded l.toArray a.tmps) then o.wp P a w K Q else K (a.put o.dst undef) w)
    (h2 : ∀ K : Act → World → Prop, (∀ a w, S w → wpSch P l Q S t a w → K a w) → if Region.wanted o2 (yielded l.toArray a.tmps) then o2.wp P a w K Q else K (a.put o2.dst undef) w) : wpSch P l Q S (.either i j s t) a w :=
  ⟨⟨o, ho, one_step h⟩, o2, ho2, one_step h2⟩
theorem wpSch_take {i : Nat} {s : Sched} {o : Oper} (ho : l[i]? = some o) (v : Value) (hQ : ∀ v c a w, Q (.panic c) (Act.put a o.dst v) w → Q (.panic c) a w) (hS : S w)
    (hw : Region.wanted o (yielded l.toArray a.tmps) = true) (hy : ∀ w, S w → (execOp a.eval o).run P w = .ok (.value v) w) (h : wpSch P l Q S s (a.put o.dst v) w) : wpSch P l Q S (.take i s) a w :=
  ⟨o, ho, hQ, hS, v, .inl ⟨hw, hy⟩, h⟩
theorem wpSch_done (h : Q .normal a w) : wpSch P l Q S .done a w := h
theorem op_one {i : Nat} {o : Oper} {X Y : Act → World → Prop} (ho : l[i]? = some o) (h : oneSch P l.toArray Q S o X a w) (hXY : ∀ a w, X a w → Y a w) : wpOp P l.toArray Q i (fun a' w' => (i ≠ fin → S w') ∧ Y a' w') a w := by
  unfold wpOp
  have h0 : l.toArray[i]? = some o := by simpa using ho
  simp only [h0]
  unfold oneSch at h
  split
  · rename_i hw
    rw [if_pos hw] at h
    exact .inl (Oper.wp_mono (fun a' w' h' => ⟨fun _ => h'.1, hXY _ _ h'.2⟩) h)
  · rename_i hw
    rw [if_neg hw] at h
    exact ⟨fun _ => h.1, hXY _ _ h.2⟩
theorem anyT_of_sch (hsel : Region.noSelect l.toArray = true) : ∀ (s : Sched) (n : Nat) (listed : Array Bool) (a : Act) (w : World), s.even n = true → schB md l.toArray fin s listed = true → wpSch P l Q S s a w → anyT P md l.toArray Q S fin n listed a w
  | .done, 0, _, _, _, _, hB, h => ⟨by simpa [schB] using hB, h⟩
  | .done, n + 1, _, _, _, hn, _, _ => by simp [Sched.even] at hn
  | .take _ _, 0, _, _, _, hn, _, _ => by simp [Sched.even] at hn
  | .only _ _, 0, _, _, _, hn, _, _ => by simp [Sched.even] at hn
  | .either _ _ _ _, 0, _, _, _, hn, _, _ => by simp [Sched.even] at hn
  | .last _ _, 0, _, _, _, hn, _, _ => by simp [Sched.even] at hn
  | .last i s, n + 1, listed, a, w, hn, hB, h => by
    obtain ⟨o, ho, h'⟩ := h
    simp only [schB, Bool.and_eq_true, decide_eq_true_eq] at hB
    refine ⟨fun h1 => (by rw [hB.1.2] at h1; cases h1), fun j hj => ?_⟩
    rw [hB.1.2] at hj
    obtain rfl : j = i := by simpa using hj
    have h0 : l.toArray[j]? = some o := by simpa using ho
    have hgo := fun a w h => anyT_of_sch hsel s n (listed.setIfInBounds j true) a w (by simpa [Sched.even] using hn) hB.2 h
    unfold wpOp
    simp only [h0]
    unfold lastSch at h'
    split
    · rename_i hw
      rw [if_pos hw] at h'
      exact .inl (Oper.wp_mono (fun a' w' h2 => ⟨fun hne => absurd hB.1.1 hne, hgo _ _ h2⟩) h')
    · rename_i hw
      rw [if_neg hw] at h'
      exact ⟨fun hne => absurd hB.1.1 hne, hgo _ _ h'⟩
  | .take i s, n + 1, listed, a, w, hn, hB, h => by
    obtain ⟨o, ho, hQ, hS, v, hy, h'⟩ := h
    have h0 : l.toArray[i]? = some o := by simpa using ho
    simp only [schB, Bool.and_eq_true, Bool.or_eq_true, decide_eq_true_eq] at hB
    exact anyT_take h0 (Region.noSelect_spec hsel) (fun c a w => hQ v c a w) hB.1.2 n listed a w (Region.free_spec h0 hB.1.1.2) (by simpa using hB.1.1.1) hy hS
      (anyT_of_sch hsel s n _ _ _ (by simpa [Sched.even] using hn) hB.2 h')
  | .only i s, n + 1, listed, a, w, hn, hB, h => by
    obtain ⟨o, ho, h'⟩ := h
    simp only [schB, Bool.and_eq_true, decide_eq_true_eq] at hB
    refine ⟨fun h1 => (by rw [hB.1] at h1; cases h1), fun j hj => ?_⟩
    rw [hB.1] at hj
    obtain rfl : j = i := by simpa using hj
    exact op_one ho h' (fun a w h => anyT_of_sch hsel s n _ a w (by simpa [Sched.even] using hn) hB.2 h)
  | .either i j s t, n + 1, listed, a, w, hn, hB, h => by
    obtain ⟨⟨o, ho, h1⟩, o2, ho2, h2⟩ := h
    simp only [schB, Bool.and_eq_true, decide_eq_true_eq] at hB
    simp only [Sched.even, Bool.and_eq_true] at hn
    refine ⟨fun h1 => (by rw [hB.1.1] at h1; cases h1), fun k hk => ?_⟩
    rw [hB.1.1] at hk
    rcases (by simpa using hk : k = i ∨ k = j) with rfl | rfl
    · exact op_one ho h1 (fun a w h => anyT_of_sch hsel s n _ a w hn.1 hB.1.2 h)
    · exact op_one ho2 h2 (fun a w h => anyT_of_sch hsel t n _ a w hn.2 hB.2 h)
def schOK (l : List Oper) (fin : Nat) (s : Sched) : Bool := Region.noSelect l.toArray && s.even l.length && schB .any l.toArray fin s (Array.replicate l.length false)
theorem sch_any (s : Sched) (fin : Nat) (S : World → Prop) (hB : schOK l fin s = true) (h : wpSch P l Q S s a w) : wpAny P .any l.toArray Q l.toArray.size (Array.replicate l.toArray.size false) a w := by
  unfold schOK at hB
  simp only [Bool.and_eq_true] at hB
  have := anyT_of_sch (md := .any) (Q := Q) (S := S) (fin := fin) hB.1.1 s l.length (Array.replicate l.length false) a w hB.1.2 hB.2 h
  exact anyT_any _ _ _ _ (by simpa using this)
theorem wp_sch {id : Nat} (s : Sched) (fin : Nat) (S : World → Prop) (hm : P.follows .mixedOrders = true) (hB : schOK l fin s = true) (_hS : S w.drew) (h : wpSch P l Q S s a w.drew) : (Code.region id l.toArray true).wp P Q a w :=
  wp_region_any hm (sch_any s fin S hB h)
end
end Go.Proofs.YtgbihmafmmeicaaGreatDoor
namespace Go.Proofs.YtgbihmafmmeicaaGreatDoor
open Go.RowKit Mg Go.Shelf

def items : Code → List Code
  | .seq a b => items a ++ items b
  | c => [c]
theorem exec_build {o : Oper} {a : Act} {W : World} (t : TypeId) (parts : Array (Nat × Operand)) (ho : o.op = .build t parts) (cells : Array Value) (hf : Tryz.prog.built t (parts.map fun (i, x) => (i, a.eval x)).toList = some cells) : (execOp a.eval o).run Tryz.prog W = .ok (.value (.agg cells)) W := by
  unfold execOp
  simp only [ho, Sem.run_bind, run_build W t _ cells hf, Result.andThen_ok]
  rfl
section
variable {o : Oper} {a : Act} {W : World} {K : Act → World → Prop} {Q : Exit → Act → World → Prop}
theorem wp_fct_put (x y : Operand) (ho : o.op = .store 45 x y) (g : Nat) (hx : a.eval x = .pointer (some ⟨g, 0, none⟩)) {cs old : Array Value} (hy : a.eval y = .agg cs) (hg : W.heap[g]? = some (.cells old 45 (0, 0))) (ho2 : old.size = 23) (hs : cs.size = 23) (h1 : cs.all (·.oneCell') = true)
    (h : K (a.put o.dst undef) (W.setRow g cs)) : o.wp Tryz.prog a W K Q := by
  unfold Oper.wp execOp
  simp only [ho, hx, hy, Instr.storeAt, Instr.sureAddr, Sem.run_bind, Sem.run_pure, Result.andThen_ok, run_storeVar_row W g 45 45 old cs hg (by rw [fct_size, hs]) (by omega) h1]
  exact h
end
theorem rev_built (r : Int) (ti : ByteArray) (a1 a3 a4 : Int) (ao : Option Addr) (n c : Nat) : Tryz.prog.built 45 [(2, .int .i64 1), (5, .int .i64 r), (7, .string ti), (8, .string ⟨#[97, 110, 110]⟩), (11, .agg #[.int .i64 a1, .slice ao n c, .int .i64 a3, .int .i64 a4])] = some #[.int .i64 0, .int .i64 0, .int .i64 1, .int .i64 0, .string .empty, .int .i64 r, .int .i64 0, .string ti, .string ⟨#[97, 110, 110]⟩, .slice none 0 0, .slice none 0 0, .int .i64 a1, .slice ao n c, .int .i64 a3, .int .i64 a4, .int .i64 0, .int .i64 0, .int .i64 0, .string .empty, .string .empty, .int .i64 0, .int .i64 0, .int .i64 0] := by kernel_rfl
theorem IRow.weaken {w : World} {B B' : Nat} {v : Value} {l : List Int} (h : IRow w B v l) (hB : B' ≤ B) : IRow w B' v l := by
  refine ⟨h.1, ?_⟩
  rcases h.2 with hq | ⟨g, cap, cur, rfl, hb, rest⟩
  · exact .inl hq
  · exact .inr ⟨g, cap, cur, rfl, by omega, rest⟩
def sixCells (x : Six) : Array Value := #[.int .i64 x.a, .int .i64 x.b, .int .i64 x.c, .int .i64 x.d, .int .i64 x.e, .int .i64 x.f]
def revE0 (x : Six) (aa : Option Addr) (ac : Nat) : FctE := ⟨{ fct0 with kind := 1, rev := 1 + pickF x.d 4, title := wordF (w64 (x.f + 1)), author := strL [97, 110, 110], lab := labelF x.e }, none, 0, none, 0, aa, ac⟩
def RevR1 (W1 : World) (x : Six) (T : Nat) (aa : Option Addr) (ac : Nat) (W : World) : Prop :=
  W.heap[T]? = some (.cells (revE0 x aa ac).cells 45 (0, 0)) ∧ W1.heap.size ≤ T ∧ IRow W W1.heap.size (.slice aa (labelF x.e).after.length ac) (labelF x.e).after ∧ (Value.slice aa (labelF x.e).after.length ac).ownBlock ≠ some T ∧ Below W1.heap.size W1 W
noncomputable def revR1 : Code := ((Tryz.f50.body.map items).getD []).getD 1 .skip
theorem w64_ok (x : Int) : okI (w64 x) := by unfold w64 okI; rw [IntKind.wrap_i64]; omega
theorem IRow.same_row {w : World} {B : Nat} {v : Value} {l : List Int} (h : IRow w B v l) (g : Nat) (cs : Array Value) (hn : v.ownBlock ≠ some g) : IRow (w.setRow g cs) B v l := by
  refine ⟨h.1, ?_⟩
  rcases h.2 with hq | ⟨g', cap, cur, rfl, hb, hgg, rest⟩
  · exact .inl hq
  · exact .inr ⟨g', cap, cur, rfl, hb, (setRow_other _ _ _ _ (fun e => hn (by rw [← e]; rfl))).trans hgg, rest⟩
set_option maxRecDepth 100000 in
set_option maxHeartbeats 4000000 in
theorem rev_r1 (x : Six) (hx : okI x.d ∧ okI x.e ∧ okI x.f) (A : Nat) (u0 u2 u3 u4 u5 u6 u7 u8 u9 u10 u11 u12 u13 u14 u15 u16 u17 u18 u19 u20 u21 u22 u23 u24 u25 u26 u27 u28 u29 u30 u31 u32 u33 u34 u35 u36 u37 u38 u39 u40 u41 u42 u43 u44 u45 u46 u47 u48 u49 u50 u51 u52 u53 u54 u55 u56 u57 u58 u59 u60 u61 u62 : Value) (W1 : World) (hA : W1.heap[A]? = some (.cells (sixCells x) 62 (0, 0))) (Q : Exit → Act → World → Prop)
    (hQ : ∀ (v5 v6 v7 v8 v9 v10 v11 v12 v13 v14 v15 v16 : Value) (T : Nat) (aa : Option Addr) (ac : Nat) (W : World), RevR1 W1 x T aa ac W → Q .normal ⟨#[u0, .pointer (some ⟨A, 0, none⟩), u2, .pointer (some ⟨T, 0, none⟩), u4, v5, v6, v7, v8, v9, v10, v11, v12, v13, v14, v15, v16, u17, u18, u19, u20, u21, u22, u23, u24, u25, u26, u27, u28, u29, u30, u31, u32, u33, u34, u35, u36, u37, u38, u39, u40, u41, u42, u43, u44, u45, u46, u47, u48, u49, u50, u51, u52, u53, u54, u55, u56, u57, u58, u59, u60, u61, u62], []⟩ W) (hP : ∀ c a a2 w2, a2.defers = a.defers → Q (.panic c) a w2 → Q (.panic c) a2 w2) :
    revR1.wp Tryz.prog Q ⟨#[u0, .pointer (some ⟨A, 0, none⟩), u2, u3, u4, u5, u6, u7, u8, u9, u10, u11, u12, u13, u14, u15, u16, u17, u18, u19, u20, u21, u22, u23, u24, u25, u26, u27, u28, u29, u30, u31, u32, u33, u34, u35, u36, u37, u38, u39, u40, u41, u42, u43, u44, u45, u46, u47, u48, u49, u50, u51, u52, u53, u54, u55, u56, u57, u58, u59, u60, u61, u62], []⟩ W1 := by
  have HQ := Lib.hid hQ
  have HP := Lib.hid hP
  have hA1 := Go.Proofs.YtgbihmafmmeicaaGreatDoor.hlt hA
  have HA : Hid (W1.drew.heap[A]? = some (.cells (sixCells x) 62 (0, 0))) := Lib.hid hA
  have HB : Hid (Below W1.heap.size W1 W1.drew) := Lib.hid ((Below.refl _ W1).drew)
  have c1 := Lib.hid (fun W => pick_any x.d 4 hx.1 (by omega) (by omega) W)
  have c2 := Lib.hid (fun W => word_any (w64 (x.f + 1)) (w64_ok _) W)
  have c3 := Lib.hid (fun W => mklab_any x.e hx.2.1 W)
  have HBU : Hid (∀ aa ac, Tryz.prog.built 45 [(2, .int .i64 1), (5, .int .i64 (1 + pickF x.d 4)), (7, .string (wordF (w64 (x.f + 1)))), (8, .string ⟨#[97, 110, 110]⟩), (11, .agg (labCells (labelF x.e) (.slice aa (labelF x.e).after.length ac)))] = some (revE0 x aa ac).cells) := Lib.hid (fun aa ac => rev_built _ _ _ _ _ _ _ _)
  have HCS : Hid (∀ aa ac, (Value.agg (revE0 x aa ac).cells) = .agg (revE0 x aa ac).cells) := Lib.hid (fun _ _ => rfl)
  obtain ⟨p0, p1⟩ := pickF_lt (c := x.d) (n := 4) (by omega)
  obtain ⟨pp, hpp⟩ : ∃ pp, pp = pickF x.d 4 := ⟨_, rfl⟩
  rw [← hpp] at c1 HBU p0 p1
  obtain ⟨LB, hLB⟩ : ∃ LB, LB = labelF x.e := ⟨_, rfl⟩
  have HLB := Lib.hid hLB
  rw [← hLB] at c3 HBU
  obtain ⟨WD, hWD⟩ : ∃ WD, WD = wordF (w64 (x.f + 1)) := ⟨_, rfl⟩
  rw [← hWD] at c2 HBU
  obtain ⟨hx1, hx2, hx3⟩ := hx
  clear hA hQ hP hpp hLB hWD hx1 hx2
  conv => arg 2; whnf
  refine wp_sch (.take 0 (.take 1 (.take 4 (.take 5 (.take 6 (.take 8 (.take 9 (.either 2 12 (.take 3 (.either 7 12 (.either 10 12 (.take 11 (.only 12 (.only 13 .done))) (.only 10 (.take 11 (.only 13 .done)))) (.only 7 (.only 10 (.take 11 (.only 13 .done)))))) (.only 2 (.take 3 (.only 7 (.only 10 (.take 11 (.only 13 .done)))))))))))))) 1000 (fun W2 => W2.heap[A]? = some (.cells (sixCells x) 62 (0, 0))) (by kernel_rfl) (by kernel_rfl) HA.out ?_
  obtain ⟨Wd, hWd⟩ : ∃ Wd, Wd = W1.drew := ⟨_, rfl⟩
  rw [← hWd] at HA HB ⊢
  clear hWd
  refine wpSch_take rfl (.pointer (some ⟨A, 3, none⟩)) (fun _ _ _ _ h => HP.out _ _ _ _ (by rfl) h) HA.out (by rfl) (fun W2 hW => by go_simp) ?_
  simp only [Act.put, List.setIfInBounds_toArray, List.set_cons_zero, List.set_cons_succ]
  refine wpSch_take rfl (.int .i64 x.d) (fun _ _ _ _ h => HP.out _ _ _ _ (by rfl) h) HA.out (by rfl) (fun W2 hW => by have q0 : W2.cell? ⟨A, 3, none⟩ = some (.int .i64 x.d) := blk_cell hW 3; go_simp) ?_
  simp only [Act.put, List.setIfInBounds_toArray, List.set_cons_zero, List.set_cons_succ]
  refine wpSch_take rfl (.pointer (some ⟨A, 5, none⟩)) (fun _ _ _ _ h => HP.out _ _ _ _ (by rfl) h) HA.out (by rfl) (fun W2 hW => by go_simp) ?_
  simp only [Act.put, List.setIfInBounds_toArray, List.set_cons_zero, List.set_cons_succ]
  refine wpSch_take rfl (.int .i64 x.f) (fun _ _ _ _ h => HP.out _ _ _ _ (by rfl) h) HA.out (by rfl) (fun W2 hW => by have q0 : W2.cell? ⟨A, 5, none⟩ = some (.int .i64 x.f) := blk_cell hW 5; go_simp) ?_
  simp only [Act.put, List.setIfInBounds_toArray, List.set_cons_zero, List.set_cons_succ]
  refine wpSch_take rfl (.int .i64 (w64 (x.f + 1))) (fun _ _ _ _ h => HP.out _ _ _ _ (by rfl) h) HA.out (by rfl) (fun W2 hW => by unfold w64; go_simp) ?_
  simp only [Act.put, List.setIfInBounds_toArray, List.set_cons_zero, List.set_cons_succ]
  refine wpSch_take rfl (.pointer (some ⟨A, 4, none⟩)) (fun _ _ _ _ h => HP.out _ _ _ _ (by rfl) h) HA.out (by rfl) (fun W2 hW => by go_simp) ?_
  simp only [Act.put, List.setIfInBounds_toArray, List.set_cons_zero, List.set_cons_succ]
  refine wpSch_take rfl (.int .i64 x.e) (fun _ _ _ _ h => HP.out _ _ _ _ (by rfl) h) HA.out (by rfl) (fun W2 hW => by have q0 : W2.cell? ⟨A, 4, none⟩ = some (.int .i64 x.e) := blk_cell hW 4; go_simp) ?_
  simp only [Act.put, List.setIfInBounds_toArray, List.set_cons_zero, List.set_cons_succ]
  refine wpSch_either rfl rfl (fun K hK => ?_) (fun K hK => ?_)
  · skip
    go_simp
    refine (c1.out _).mono ?_
    rintro e w1 ⟨rfl, rfl⟩
    dsimp only
    refine hK _ _ HA.out ?_
    clear hK K
    refine wpSch_take rfl (.int .i64 (1 + pp)) (fun _ _ _ _ h => HP.out _ _ _ _ (by rfl) h) HA.out (by rfl) (fun W2 hW => by go_simp; exact IntWalk.i64_in _ ⟨by omega, by omega⟩) ?_
    simp only [Act.put, List.setIfInBounds_toArray, List.set_cons_zero, List.set_cons_succ]
    refine wpSch_either rfl rfl (fun K hK => ?_) (fun K hK => ?_)
    · skip
      go_simp
      refine (c2.out _).mono ?_
      rintro e w2 ⟨rfl, hb2⟩
      dsimp only
      replace HA := Lib.hid ((hb2.block A (Go.Proofs.YtgbihmafmmeicaaGreatDoor.hlt HA.out)).trans HA.out)
      replace HB := Lib.hid (HB.out.trans (hb2.mono HB.out.size))
      refine hK _ _ HA.out ?_
      clear hK K hb2
      refine wpSch_either rfl rfl (fun K hK => ?_) (fun K hK => ?_)
      · skip
        go_simp
        refine (c3.out _).mono ?_
        rintro e w3 ⟨av, rfl, hr3, hb3⟩
        obtain ⟨aa, ac, rfl⟩ := hr3.shape
        dsimp only
        replace HA := Lib.hid ((hb3.block A (Go.Proofs.YtgbihmafmmeicaaGreatDoor.hlt HA.out)).trans HA.out)
        have HL := Lib.hid (hr3.weaken HB.out.size)
        replace HB := Lib.hid (HB.out.trans (hb3.mono HB.out.size))
        refine hK _ _ HA.out ?_
        clear hK K hb3 hr3
        refine wpSch_take rfl (.agg (revE0 x aa ac).cells) (fun _ _ _ _ h => HP.out _ _ _ _ (by rfl) h) HA.out (by rfl) (fun W2 hW => exec_build _ _ rfl _ (by simpa [Act.eval] using HBU.out aa ac)) ?_
        simp only [Act.put, List.setIfInBounds_toArray, List.set_cons_zero, List.set_cons_succ]
        refine wpSch_only rfl (fun K hK => ?_)
        go_simp
        generalize hw4 : World.alloc _ _ = w4
        have hn4 : w4.heap[(w3).heap.size]? = some (.cells fe0.cells 45 (0, 0)) := by rw [← hw4]; exact World.alloc_heap_new _ _
        have hbb4 : Below (w3).heap.size w3 w4 := by rw [← hw4]; exact (Below.refl _ _).alloc (Nat.le_refl _) _
        obtain ⟨T, hT4⟩ : ∃ T, T = (w3).heap.size := ⟨_, rfl⟩
        have hTB : W1.heap.size ≤ T := by rw [hT4]; exact HB.out.size
        have HNE : Hid ((Value.slice aa LB.after.length ac).ownBlock ≠ some T) := Lib.hid (fun e => by have := HL.out.lt _ e; omega)
        replace HL := Lib.hid (HL.out.bel hbb4)
        rw [← hT4] at hn4
        have HT := Lib.hid hn4
        replace HA := Lib.hid ((hbb4.block A (Go.Proofs.YtgbihmafmmeicaaGreatDoor.hlt HA.out)).trans HA.out)
        replace HB := Lib.hid (HB.out.trans (hbb4.mono HB.out.size))
        try simp only [World.drew_heap] at hT4
        try rw [← hT4]
        clear hw4 hn4 hbb4 hT4
        refine hK _ _ HA.out ?_
        clear hK K
        refine wpSch_only rfl (fun K hK => ?_)
        rw [if_pos (by rfl)]
        refine wp_fct_put _ _ rfl T (by simp [Act.eval]) (cs := (revE0 x aa ac).cells) (by simp only [Act.eval]; exact HCS.out aa ac) HT.out rfl rfl (revE0 x aa ac).one ?_
        have hAT : A ≠ T := by have := hA1; omega
        have HT2 : Hid ((World.setRow w4 T (revE0 x aa ac).cells).heap[T]? = some (.cells (revE0 x aa ac).cells 45 (0, 0))) := Lib.hid (setRow_heap _ _ _ _ _ _ HT.out)
        have HL2 := HL.out.same_row T (revE0 x aa ac).cells HNE.out
        have HB2 : Hid (Below W1.heap.size W1 (World.setRow w4 T (revE0 x aa ac).cells)) := Lib.hid (below_setRow HB.out hTB _)
        have HA2 := Lib.hid ((setRow_other w4 T A (revE0 x aa ac).cells hAT).trans HA.out)
        refine hK _ _ HA2.out ?_
        clear hK K
        refine wpSch_done ?_
        exact HQ.out _ _ _ _ _ _ _ _ _ _ _ _ T aa ac _ ⟨HT2.out, hTB, by rw [← HLB.out]; exact HL2, by rw [← HLB.out]; exact HNE.out, HB2.out⟩
      · skip
        go_simp
        generalize hw6 : World.alloc _ _ = w6
        have hn6 : w6.heap[(w2).heap.size]? = some (.cells fe0.cells 45 (0, 0)) := by rw [← hw6]; exact World.alloc_heap_new _ _
        have hbb6 : Below (w2).heap.size w2 w6 := by rw [← hw6]; exact (Below.refl _ _).alloc (Nat.le_refl _) _
        obtain ⟨T, hT6⟩ : ∃ T, T = (w2).heap.size := ⟨_, rfl⟩
        have hTB : W1.heap.size ≤ T := by rw [hT6]; exact HB.out.size
        rw [← hT6] at hn6
        have HT := Lib.hid hn6
        replace HA := Lib.hid ((hbb6.block A (Go.Proofs.YtgbihmafmmeicaaGreatDoor.hlt HA.out)).trans HA.out)
        replace HB := Lib.hid (HB.out.trans (hbb6.mono HB.out.size))
        try simp only [World.drew_heap] at hT6
        try rw [← hT6]
        clear hw6 hn6 hbb6 hT6
        refine hK _ _ HA.out ?_
        clear hK K
        refine wpSch_only rfl (fun K hK => ?_)
        go_simp
        refine (c3.out _).mono ?_
        rintro e w7 ⟨av, rfl, hr7, hb7⟩
        obtain ⟨aa, ac, rfl⟩ := hr7.shape
        dsimp only
        replace HA := Lib.hid ((hb7.block A (Go.Proofs.YtgbihmafmmeicaaGreatDoor.hlt HA.out)).trans HA.out)
        have hTl := Go.Proofs.YtgbihmafmmeicaaGreatDoor.hlt HT.out
        have HNE : Hid ((Value.slice aa LB.after.length ac).ownBlock ≠ some T) := Lib.hid (fun e => by have := hr7.ge _ e; omega)
        replace HT := Lib.hid ((hb7.block T hTl).trans HT.out)
        have HL := Lib.hid (hr7.weaken HB.out.size)
        replace HB := Lib.hid (HB.out.trans (hb7.mono HB.out.size))
        refine hK _ _ HA.out ?_
        clear hK K hb7 hr7
        refine wpSch_take rfl (.agg (revE0 x aa ac).cells) (fun _ _ _ _ h => HP.out _ _ _ _ (by rfl) h) HA.out (by rfl) (fun W2 hW => exec_build _ _ rfl _ (by simpa [Act.eval] using HBU.out aa ac)) ?_
        simp only [Act.put, List.setIfInBounds_toArray, List.set_cons_zero, List.set_cons_succ]
        refine wpSch_only rfl (fun K hK => ?_)
        rw [if_pos (by rfl)]
        refine wp_fct_put _ _ rfl T (by simp [Act.eval]) (cs := (revE0 x aa ac).cells) (by simp only [Act.eval]; exact HCS.out aa ac) HT.out rfl rfl (revE0 x aa ac).one ?_
        have hAT : A ≠ T := by have := hA1; omega
        have HT2 : Hid ((World.setRow w7 T (revE0 x aa ac).cells).heap[T]? = some (.cells (revE0 x aa ac).cells 45 (0, 0))) := Lib.hid (setRow_heap _ _ _ _ _ _ HT.out)
        have HL2 := HL.out.same_row T (revE0 x aa ac).cells HNE.out
        have HB2 : Hid (Below W1.heap.size W1 (World.setRow w7 T (revE0 x aa ac).cells)) := Lib.hid (below_setRow HB.out hTB _)
        have HA2 := Lib.hid ((setRow_other w7 T A (revE0 x aa ac).cells hAT).trans HA.out)
        refine hK _ _ HA2.out ?_
        clear hK K
        refine wpSch_done ?_
        exact HQ.out _ _ _ _ _ _ _ _ _ _ _ _ T aa ac _ ⟨HT2.out, hTB, by rw [← HLB.out]; exact HL2, by rw [← HLB.out]; exact HNE.out, HB2.out⟩
    · skip
      go_simp
      generalize hw9 : World.alloc _ _ = w9
      have hn9 : w9.heap[(Wd).heap.size]? = some (.cells fe0.cells 45 (0, 0)) := by rw [← hw9]; exact World.alloc_heap_new _ _
      have hbb9 : Below (Wd).heap.size Wd w9 := by rw [← hw9]; exact (Below.refl _ _).alloc (Nat.le_refl _) _
      obtain ⟨T, hT9⟩ : ∃ T, T = (Wd).heap.size := ⟨_, rfl⟩
      have hTB : W1.heap.size ≤ T := by rw [hT9]; exact HB.out.size
      rw [← hT9] at hn9
      have HT := Lib.hid hn9
      replace HA := Lib.hid ((hbb9.block A (Go.Proofs.YtgbihmafmmeicaaGreatDoor.hlt HA.out)).trans HA.out)
      replace HB := Lib.hid (HB.out.trans (hbb9.mono HB.out.size))
      try simp only [World.drew_heap] at hT9
      try rw [← hT9]
      clear hw9 hn9 hbb9 hT9
      refine hK _ _ HA.out ?_
      clear hK K
      refine wpSch_only rfl (fun K hK => ?_)
      go_simp
      refine (c2.out _).mono ?_
      rintro e w10 ⟨rfl, hb10⟩
      dsimp only
      replace HA := Lib.hid ((hb10.block A (Go.Proofs.YtgbihmafmmeicaaGreatDoor.hlt HA.out)).trans HA.out)
      replace HT := Lib.hid ((hb10.block T (Go.Proofs.YtgbihmafmmeicaaGreatDoor.hlt HT.out)).trans HT.out)
      replace HB := Lib.hid (HB.out.trans (hb10.mono HB.out.size))
      refine hK _ _ HA.out ?_
      clear hK K hb10
      refine wpSch_only rfl (fun K hK => ?_)
      go_simp
      refine (c3.out _).mono ?_
      rintro e w11 ⟨av, rfl, hr11, hb11⟩
      obtain ⟨aa, ac, rfl⟩ := hr11.shape
      dsimp only
      replace HA := Lib.hid ((hb11.block A (Go.Proofs.YtgbihmafmmeicaaGreatDoor.hlt HA.out)).trans HA.out)
      have hTl := Go.Proofs.YtgbihmafmmeicaaGreatDoor.hlt HT.out
      have HNE : Hid ((Value.slice aa LB.after.length ac).ownBlock ≠ some T) := Lib.hid (fun e => by have := hr11.ge _ e; omega)
      replace HT := Lib.hid ((hb11.block T hTl).trans HT.out)
      have HL := Lib.hid (hr11.weaken HB.out.size)
      replace HB := Lib.hid (HB.out.trans (hb11.mono HB.out.size))
      refine hK _ _ HA.out ?_
      clear hK K hb11 hr11
      refine wpSch_take rfl (.agg (revE0 x aa ac).cells) (fun _ _ _ _ h => HP.out _ _ _ _ (by rfl) h) HA.out (by rfl) (fun W2 hW => exec_build _ _ rfl _ (by simpa [Act.eval] using HBU.out aa ac)) ?_
      simp only [Act.put, List.setIfInBounds_toArray, List.set_cons_zero, List.set_cons_succ]
      refine wpSch_only rfl (fun K hK => ?_)
      rw [if_pos (by rfl)]
      refine wp_fct_put _ _ rfl T (by simp [Act.eval]) (cs := (revE0 x aa ac).cells) (by simp only [Act.eval]; exact HCS.out aa ac) HT.out rfl rfl (revE0 x aa ac).one ?_
      have hAT : A ≠ T := by have := hA1; omega
      have HT2 : Hid ((World.setRow w11 T (revE0 x aa ac).cells).heap[T]? = some (.cells (revE0 x aa ac).cells 45 (0, 0))) := Lib.hid (setRow_heap _ _ _ _ _ _ HT.out)
      have HL2 := HL.out.same_row T (revE0 x aa ac).cells HNE.out
      have HB2 : Hid (Below W1.heap.size W1 (World.setRow w11 T (revE0 x aa ac).cells)) := Lib.hid (below_setRow HB.out hTB _)
      have HA2 := Lib.hid ((setRow_other w11 T A (revE0 x aa ac).cells hAT).trans HA.out)
      refine hK _ _ HA2.out ?_
      clear hK K
      refine wpSch_done ?_
      exact HQ.out _ _ _ _ _ _ _ _ _ _ _ _ T aa ac _ ⟨HT2.out, hTB, by rw [← HLB.out]; exact HL2, by rw [← HLB.out]; exact HNE.out, HB2.out⟩
  · skip
    go_simp
    generalize hw13 : World.alloc _ _ = w13
    have hn13 : w13.heap[(Wd).heap.size]? = some (.cells fe0.cells 45 (0, 0)) := by rw [← hw13]; exact World.alloc_heap_new _ _
    have hbb13 : Below (Wd).heap.size Wd w13 := by rw [← hw13]; exact (Below.refl _ _).alloc (Nat.le_refl _) _
    obtain ⟨T, hT13⟩ : ∃ T, T = (Wd).heap.size := ⟨_, rfl⟩
    have hTB : W1.heap.size ≤ T := by rw [hT13]; exact HB.out.size
    rw [← hT13] at hn13
    have HT := Lib.hid hn13
    replace HA := Lib.hid ((hbb13.block A (Go.Proofs.YtgbihmafmmeicaaGreatDoor.hlt HA.out)).trans HA.out)
    replace HB := Lib.hid (HB.out.trans (hbb13.mono HB.out.size))
    try simp only [World.drew_heap] at hT13
    try rw [← hT13]
    clear hw13 hn13 hbb13 hT13
    refine hK _ _ HA.out ?_
    clear hK K
    refine wpSch_only rfl (fun K hK => ?_)
    go_simp
    refine (c1.out _).mono ?_
    rintro e w14 ⟨rfl, rfl⟩
    dsimp only
    refine hK _ _ HA.out ?_
    clear hK K
    refine wpSch_take rfl (.int .i64 (1 + pp)) (fun _ _ _ _ h => HP.out _ _ _ _ (by rfl) h) HA.out (by rfl) (fun W2 hW => by go_simp; exact IntWalk.i64_in _ ⟨by omega, by omega⟩) ?_
    simp only [Act.put, List.setIfInBounds_toArray, List.set_cons_zero, List.set_cons_succ]
    refine wpSch_only rfl (fun K hK => ?_)
    go_simp
    refine (c2.out _).mono ?_
    rintro e w15 ⟨rfl, hb15⟩
    dsimp only
    replace HA := Lib.hid ((hb15.block A (Go.Proofs.YtgbihmafmmeicaaGreatDoor.hlt HA.out)).trans HA.out)
    replace HT := Lib.hid ((hb15.block T (Go.Proofs.YtgbihmafmmeicaaGreatDoor.hlt HT.out)).trans HT.out)
    replace HB := Lib.hid (HB.out.trans (hb15.mono HB.out.size))
    refine hK _ _ HA.out ?_
    clear hK K hb15
    refine wpSch_only rfl (fun K hK => ?_)
    go_simp
    refine (c3.out _).mono ?_
    rintro e w16 ⟨av, rfl, hr16, hb16⟩
    obtain ⟨aa, ac, rfl⟩ := hr16.shape
    dsimp only
    replace HA := Lib.hid ((hb16.block A (Go.Proofs.YtgbihmafmmeicaaGreatDoor.hlt HA.out)).trans HA.out)
    have hTl := Go.Proofs.YtgbihmafmmeicaaGreatDoor.hlt HT.out
    have HNE : Hid ((Value.slice aa LB.after.length ac).ownBlock ≠ some T) := Lib.hid (fun e => by have := hr16.ge _ e; omega)
    replace HT := Lib.hid ((hb16.block T hTl).trans HT.out)
    have HL := Lib.hid (hr16.weaken HB.out.size)
    replace HB := Lib.hid (HB.out.trans (hb16.mono HB.out.size))
    refine hK _ _ HA.out ?_
    clear hK K hb16 hr16
    refine wpSch_take rfl (.agg (revE0 x aa ac).cells) (fun _ _ _ _ h => HP.out _ _ _ _ (by rfl) h) HA.out (by rfl) (fun W2 hW => exec_build _ _ rfl _ (by simpa [Act.eval] using HBU.out aa ac)) ?_
    simp only [Act.put, List.setIfInBounds_toArray, List.set_cons_zero, List.set_cons_succ]
    refine wpSch_only rfl (fun K hK => ?_)
    rw [if_pos (by rfl)]
    refine wp_fct_put _ _ rfl T (by simp [Act.eval]) (cs := (revE0 x aa ac).cells) (by simp only [Act.eval]; exact HCS.out aa ac) HT.out rfl rfl (revE0 x aa ac).one ?_
    have hAT : A ≠ T := by have := hA1; omega
    have HT2 : Hid ((World.setRow w16 T (revE0 x aa ac).cells).heap[T]? = some (.cells (revE0 x aa ac).cells 45 (0, 0))) := Lib.hid (setRow_heap _ _ _ _ _ _ HT.out)
    have HL2 := HL.out.same_row T (revE0 x aa ac).cells HNE.out
    have HB2 : Hid (Below W1.heap.size W1 (World.setRow w16 T (revE0 x aa ac).cells)) := Lib.hid (below_setRow HB.out hTB _)
    have HA2 := Lib.hid ((setRow_other w16 T A (revE0 x aa ac).cells hAT).trans HA.out)
    refine hK _ _ HA2.out ?_
    clear hK K
    refine wpSch_done ?_
    exact HQ.out _ _ _ _ _ _ _ _ _ _ _ _ T aa ac _ ⟨HT2.out, hTB, by rw [← HLB.out]; exact HL2, by rw [← HLB.out]; exact HNE.out, HB2.out⟩
end Go.Proofs.YtgbihmafmmeicaaGreatDoor
namespace Go.Proofs.YtgbihmafmmeicaaGreatDoor
open Go.RowKit Mg Go.Shelf

theorem blk_built2 (a0 : Int) (tx : ByteArray) (a5 a7 a8 : Int) (ao : Option Addr) (n c : Nat) : Tryz.prog.built 56 [(0, .int .i64 a0), (1, .int .i64 2), (2, .string tx), (5, .agg #[.int .i64 a5, .slice ao n c, .int .i64 a7, .int .i64 a8])] = some #[.int .i64 a0, .int .i64 2, .string tx, .int .i64 0, .int .i64 0, .int .i64 a5, .slice ao n c, .int .i64 a7, .int .i64 a8] := by kernel_rfl
section
variable {o : Oper} {a : Act} {W : World} {K : Act → World → Prop} {Q : Exit → Act → World → Prop}
theorem wp_app_blk (s x : Operand) (ho : o.op = .call { callee := .builtin .append, args := #[s, x], argTypes := #[43, 43] })
    (B : Nat) (v : Value) (l : List Blk) (hs : a.eval s = v) (hown : BRow W B v l) (y : Blk) (ao : Option Addr) (cap : Nat) (hi : IntsM (memFr W (fun k => k < B ∨ v.ownBlock = some k)) (.slice ao y.lab.after.length cap) y.lab.after)
    (g c : Nat) (hx : a.eval x = .slice (some ⟨g, 0, none⟩) 1 c) (hc : W.heap[g]? = some (.cells (blkCells y (.slice ao y.lab.after.length cap)) 56 (0, 0))) (hlen : l.length ≤ 100000) (hB : B ≤ W.heap.size)
    (h : ∀ v' w', BRow w' B v' (l ++ [y]) → W.grownBy w' v.ownBlock → K (a.put o.dst v') w') : o.wp Tryz.prog a W K Q := by
  obtain ⟨v', w', hr, h2, h3⟩ := run_app_blk hown y ao cap hi g c hc hlen hB o.type
  unfold Oper.wp execOp
  simp only [ho, resolve, invoke, builtin, Sem.run_bind, Sem.run_pure, Result.andThen_ok, List.map_toArray, List.map_cons, List.map_nil, hs, hx, hr]
  exact h v' w' h2 h3
end
theorem BRow.shape {w : World} {B : Nat} {v : Value} {l : List Blk} (h : BRow w B v l) : ∃ ao cap, v = .slice ao l.length cap := by
  obtain ⟨_, h, _⟩ := h
  rcases h.2 with ⟨rfl, hz⟩ | ⟨g, cap, cur, rfl, _⟩
  · exact ⟨none, 0, by rw [hz]⟩
  · exact ⟨_, _, rfl⟩
def revBlks (x : Six) (k : Nat) : List Blk := (List.range k).map (revBlkF x)
theorem revBlks_succ (x : Six) (k : Nat) : revBlks x (k + 1) = revBlks x k ++ [revBlkF x k] := by unfold revBlks; rw [List.range_succ, List.map_append]; rfl
theorem revBlks_len (x : Six) (k : Nat) : (revBlks x k).length = k := by unfold revBlks; simp
def revE (x : Six) (base : Int) (tl : List ByteArray) (ta : Option Addr) (tc : Nat) (aa : Option Addr) (ac k : Nat) (ba : Option Addr) (bc : Nat) : FctE :=
  ⟨{ fct0 with kind := 1, rev := 1 + pickF x.d 4, base := base, title := wordF (w64 (x.f + 1)), author := strL [97, 110, 110], topics := tl, blocks := revBlks x k, lab := labelF x.e }, ta, tc, ba, bc, aa, ac⟩
structure RevI (W1 : World) (x : Six) (T B : Nat) (base : Int) (tl : List ByteArray) (ta : Option Addr) (tc : Nat) (aa : Option Addr) (ac k : Nat) (W : World) : Prop where
  bel : Below W1.heap.size W1 W
  tn : W1.heap.size ≤ T
  tb : T < B
  bw : B ≤ W.heap.size
  tops : StrsM (memFr W fun b => b < W1.heap.size ∨ b = T ∨ B ≤ b) (.slice ta tl.length tc) tl
  after : IntsM (memFr W fun b => b < W1.heap.size ∨ b = T ∨ B ≤ b) (.slice aa (labelF x.e).after.length ac) (labelF x.e).after
  row : ∃ ba bc, W.heap[T]? = some (.cells (revE x base tl ta tc aa ac k ba bc).cells 45 (0, 0)) ∧ BRow W B (.slice ba (revBlks x k).length bc) (revBlks x k)
theorem RevI.upd {W1 W W' : World} {x : Six} {T B : Nat} {base : Int} {tl : List ByteArray} {ta : Option Addr} {tc : Nat} {aa : Option Addr} {ac k k' : Nat} {F : Nat → Prop} (h : RevI W1 x T B base tl ta tc aa ac k W) (hu : Upd F W W') (hF : ∀ b, F b → b = T ∨ B ≤ b)
    (hr : ∃ ba bc, W'.heap[T]? = some (.cells (revE x base tl ta tc aa ac k' ba bc).cells 45 (0, 0)) ∧ BRow W' B (.slice ba (revBlks x k').length bc) (revBlks x k')) : RevI W1 x T B base tl ta tc aa ac k' W' := by
  have htn := h.tn
  have htb := h.tb
  have hsz := h.bel.size
  have hus := hu.size
  have hm : ∀ a u, memFr W (fun b => b < W1.heap.size ∨ b = T ∨ B ≤ b) a = some u → memFr W' (fun b => b < W1.heap.size ∨ b = T ∨ B ≤ b) a = some u := memFr_mono hu (fun b _ hf => ⟨hf, fun g => hf (.inr (hF b g))⟩)
  exact ⟨h.bel.trans (hu.below (fun b g => by have := hF b g; omega) hsz), htn, htb, Nat.le_trans h.bw hus, h.tops.mono hm, h.after.mono hm, hr⟩
noncomputable def revBody : Code := ((Tryz.f50.body.map loopsOf).getD []).getD 0 .skip
section
variable {o : Oper} {a : Act} {W : World} {K : Act → World → Prop} {Q : Exit → Act → World → Prop}
theorem wp_blk_slice (parts : Array (Nat × Operand)) (ho : o.op = .buildSlice 43 1 parts) (cells : Array Value) (hf : (parts.map fun (i, x) => (i, a.eval x)).toList = [(0, .agg cells)])
    (hc : Instr.fill (fun i => some (i * 9, 9)) ((Array.range (1 * 9)).map ((Value.agg #[.int .i64 0, .int .i64 0, .string .empty, .int .i64 0, .int .i64 0, .int .i64 0, .slice none 0 0, .int .i64 0, .int .i64 0]).cells[· % (Value.agg #[.int .i64 0, .int .i64 0, .string .empty, .int .i64 0, .int .i64 0, .int .i64 0, .slice none 0 0, .int .i64 0, .int .i64 0]).cells.size]!)) [(0, .agg cells)] = some cells)
    (h : K (a.put o.dst (.slice (some ⟨W.heap.size, 0, none⟩) 1 1)) (W.alloc (.cells cells 56))) : o.wp Tryz.prog a W K Q := by
  obtain ⟨i0, hi0, hz0, hz1, hz2⟩ := info_parts blk_info
  refine wp_buildSlice 43 56 1 parts ho cells i0 _ Tryz.underlying43 hi0 hz0 (by rw [hz1]; decide) (by rw [hz1]; decide) ?_ h
  rw [hf, hz1]
  exact hc
end
theorem blk_fill (a0 : Int) (tx : ByteArray) (a5 a7 a8 : Int) (ao : Option Addr) (n c : Nat) : Instr.fill (fun i => some (i * 9, 9)) ((Array.range (1 * 9)).map ((Value.agg #[.int .i64 0, .int .i64 0, .string .empty, .int .i64 0, .int .i64 0, .int .i64 0, .slice none 0 0, .int .i64 0, .int .i64 0]).cells[· % (Value.agg #[.int .i64 0, .int .i64 0, .string .empty, .int .i64 0, .int .i64 0, .int .i64 0, .slice none 0 0, .int .i64 0, .int .i64 0]).cells.size]!)) [(0, .agg #[.int .i64 a0, .int .i64 2, .string tx, .int .i64 0, .int .i64 0, .int .i64 a5, .slice ao n c, .int .i64 a7, .int .i64 a8])] = some #[.int .i64 a0, .int .i64 2, .string tx, .int .i64 0, .int .i64 0, .int .i64 a5, .slice ao n c, .int .i64 a7, .int .i64 a8] := by kernel_rfl
theorem tdiv7 {n : Int} (h : okI n) : -1400000000000000000 ≤ n.tdiv 7 ∧ n.tdiv 7 ≤ 1400000000000000000 := by
  unfold okI at h
  rcases Int.le_total 0 n with h0 | h0
  · rw [Int.tdiv_eq_ediv_of_nonneg h0]
    omega
  · have e : n.tdiv 7 = -((-n) / 7) := by
      rw [← Int.tdiv_eq_ediv_of_nonneg (by omega), Int.neg_tdiv, Int.neg_neg]
    rw [e]
    omega
set_option maxRecDepth 100000 in
set_option maxHeartbeats 4000000 in
theorem rev_round (x : Six) (hx : okI x.c ∧ okI x.f) (A T B : Nat) (base : Int) (tl : List ByteArray) (ta : Option Addr) (tc : Nat) (aa : Option Addr) (ac : Nat) (c0 c2 c5 c6 c7 c8 c9 c10 c11 c12 c13 c14 c15 c16 c17 c18 c19 c20 c21 c22 c23 c24 c25 c26 c27 c28 c62 : Value) (u29 u30 u31 u32 u33 u34 u35 u36 u37 u38 u39 u40 u41 u42 u43 u44 u45 u46 u47 u48 u49 u50 u51 u52 u53 u54 u55 u56 u57 u58 u59 u60 u61 : Value) (k : Nat) (W1 wr : World) (hA1 : A < W1.heap.size) (hA : wr.heap[A]? = some (.cells (sixCells x) 62 (0, 0))) (hk : (k : Int) < pickF x.f 4) (hR : RevI W1 x T B base tl ta tc aa ac k wr) (Q : Exit → Act → World → Prop)
    (hQ : ∀ (u4 u29 u30 u31 u32 u33 u34 u35 u36 u37 u38 u39 u40 u41 u42 u43 u44 u45 u46 u47 u48 u49 u50 u51 u52 u53 u54 u55 u56 u57 u58 u59 u60 u61 : Value) (w2 : World), (u4 = .int .i64 ((k + 1 : Nat) : Int) ∧ RevI W1 x T B base tl ta tc aa ac (k + 1) w2) → Q .normal ⟨#[c0, .pointer (some ⟨A, 0, none⟩), c2, .pointer (some ⟨T, 0, none⟩), u4, c5, c6, c7, c8, c9, c10, c11, c12, c13, c14, c15, c16, c17, c18, c19, c20, c21, c22, c23, c24, c25, c26, c27, c28, u29, u30, u31, u32, u33, u34, u35, u36, u37, u38, u39, u40, u41, u42, u43, u44, u45, u46, u47, u48, u49, u50, u51, u52, u53, u54, u55, u56, u57, u58, u59, u60, u61, c62], []⟩ w2) (hP : ∀ c a a2 w2, a2.defers = a.defers → Q (.panic c) a w2 → Q (.panic c) a2 w2) :
    revBody.wp Tryz.prog Q ⟨#[c0, .pointer (some ⟨A, 0, none⟩), c2, .pointer (some ⟨T, 0, none⟩), (.int .i64 k), c5, c6, c7, c8, c9, c10, c11, c12, c13, c14, c15, c16, c17, c18, c19, c20, c21, c22, c23, c24, c25, c26, c27, c28, u29, u30, u31, u32, u33, u34, u35, u36, u37, u38, u39, u40, u41, u42, u43, u44, u45, u46, u47, u48, u49, u50, u51, u52, u53, u54, u55, u56, u57, u58, u59, u60, u61, c62], []⟩ wr := by
  have HQ := Lib.hid hQ
  have HP := Lib.hid hP
  have HRI0 : Hid (RevI W1 x T B base tl ta tc aa ac k wr.drew) := Lib.hid ⟨hR.bel.drew, hR.tn, hR.tb, hR.bw, hR.tops, hR.after, hR.row⟩
  obtain ⟨ba, bc, hT, hrow⟩ := hR.row
  have HAT : Hid (A < T ∧ T < B) := Lib.hid ⟨by have := hR.tn; omega, hR.tb⟩
  have HBW : Hid (B ≤ wr.heap.size) := Lib.hid hR.bw
  have c1 := Lib.hid (fun W => pick_any x.f 4 hx.2 (by omega) (by omega) W)
  have c2 := Lib.hid (fun W => pick_any x.c 3 hx.1 (by omega) (by omega) W)
  have c3 := Lib.hid (fun W => word_any (w64 (x.f + 3 * k)) (w64_ok _) W)
  obtain ⟨t0, t1⟩ := tdiv7 hx.2
  obtain ⟨q0, q1⟩ := pickF_lt (c := x.f) (n := 4) (by omega)
  obtain ⟨p0, p1⟩ := pickF_lt (c := x.c) (n := 3) (by omega)
  have c4 := Lib.hid (fun W => mklab_any (x.f.tdiv 7 + 131 * k) (by unfold okI; omega) W)
  obtain ⟨Y, hY⟩ : ∃ Y, Y = revBlkF x k := ⟨_, rfl⟩
  obtain ⟨YL, hYL⟩ : ∃ YL, YL = labelF (x.f.tdiv 7 + 131 * k) := ⟨_, rfl⟩
  have HY := Lib.hid hY
  have HYL : Hid (Y.lab = YL) := Lib.hid (by rw [hY, hYL]; rfl)
  obtain ⟨pc, hpc⟩ : ∃ pc, pc = pickF x.c 3 := ⟨_, rfl⟩
  obtain ⟨pf, hpf⟩ : ∃ pf, pf = pickF x.f 4 := ⟨_, rfl⟩
  obtain ⟨WD, hWD⟩ : ∃ WD, WD = wordF (w64 (x.f + 3 * k)) := ⟨_, rfl⟩
  have HBU : Hid (∀ ao cap, Tryz.prog.built 56 [(0, .int .i64 (1 + (k + pc) % 4)), (1, .int .i64 2), (2, .string WD), (5, .agg (labCells YL (.slice ao YL.after.length cap)))] = some (blkCells Y (.slice ao YL.after.length cap))) := Lib.hid (fun ao cap => by rw [hY, hYL, hpc, hWD]; exact blk_built2 _ _ _ _ _ _ _ _)
  have HFI : Hid (∀ ao cap, Instr.fill (fun i => some (i * 9, 9)) ((Array.range (1 * 9)).map ((Value.agg #[.int .i64 0, .int .i64 0, .string .empty, .int .i64 0, .int .i64 0, .int .i64 0, .slice none 0 0, .int .i64 0, .int .i64 0]).cells[· % (Value.agg #[.int .i64 0, .int .i64 0, .string .empty, .int .i64 0, .int .i64 0, .int .i64 0, .slice none 0 0, .int .i64 0, .int .i64 0]).cells.size]!)) [(0, .agg (blkCells Y (.slice ao YL.after.length cap)))] = some (blkCells Y (.slice ao YL.after.length cap))) := Lib.hid (fun ao cap => by rw [hY, hYL]; exact blk_fill _ _ _ _ _ _ _ _)
  rw [← hpc] at c2 p0 p1
  rw [← hpf] at c1 hk q0 q1
  rw [← hWD] at c3
  rw [← hYL] at c4
  have HBRW : Hid (BRow wr.drew B (.slice ba (revBlks x k).length bc) (revBlks x k)) := Lib.hid hrow
  have HSS : Hid (wr.drew.heap[A]? = some (.cells (sixCells x) 62 (0, 0)) ∧ wr.drew.heap[T]? = some (.cells (revE x base tl ta tc aa ac k ba bc).cells 45 (0, 0))) := Lib.hid ⟨hA, hT⟩
  have k5 : wr.cell? ⟨A, 5, none⟩ = some (.int .i64 x.f) := blk_cell hA 5
  obtain ⟨hx1, hx2⟩ := hx
  clear hQ hP hR hT hrow hA hY hYL hpc hpf hWD hx1 hx2
  conv => arg 2; whnf
  go_wp2_with fail
  refine (c1.out _).mono ?_
  rintro e w1 ⟨rfl, rfl⟩
  go_wp2_with fail
  refine wp_sch (.take 0 (.take 1 (.take 2 (.take 3 (.take 4 (.take 9 (.take 10 (.take 11 (.take 12 (.take 13 (.take 15 (.take 16 (.take 17 (.take 18 (.take 19 (.take 20 (.only 5 (.take 6 (.take 7 (.take 8 (.only 14 (.only 21 (.take 22 (.only 23 (.only 24 (.only 25 (.last 26 .done))))))))))))))))))))))))))) 26 (fun W2 => W2.heap[A]? = some (.cells (sixCells x) 62 (0, 0)) ∧ W2.heap[T]? = some (.cells (revE x base tl ta tc aa ac k ba bc).cells 45 (0, 0))) (by kernel_rfl) (by kernel_rfl) HSS.out ?_
  clear k5
  have hzd : wr.drew.heap.size = wr.heap.size := rfl
  obtain ⟨Wd, hWd⟩ : ∃ Wd, Wd = wr.drew := ⟨_, rfl⟩
  rw [← hWd] at HSS HBRW HRI0 hzd ⊢
  rw [← hzd] at HBW
  clear hWd hzd
  refine wpSch_take rfl (.pointer (some ⟨T, 10, none⟩)) (fun _ _ _ _ h => HP.out _ _ _ _ (by rfl) h) HSS.out (by rfl) (fun W2 hW => by go_simp) ?_
  simp only [Act.put, List.setIfInBounds_toArray, List.set_cons_zero, List.set_cons_succ]
  refine wpSch_take rfl (.slice ba (revBlks x k).length bc) (fun _ _ _ _ h => HP.out _ _ _ _ (by rfl) h) HSS.out (by rfl) (fun W2 hW => by have q0 : W2.cell? ⟨T, 10, none⟩ = some (.slice ba (revBlks x k).length bc) := blk_cell hW.2 10; go_simp) ?_
  simp only [Act.put, List.setIfInBounds_toArray, List.set_cons_zero, List.set_cons_succ]
  refine wpSch_take rfl (.int .i64 k) (fun _ _ _ _ h => HP.out _ _ _ _ (by rfl) h) HSS.out (by rfl) (fun W2 hW => by go_simp) ?_
  simp only [Act.put, List.setIfInBounds_toArray, List.set_cons_zero, List.set_cons_succ]
  refine wpSch_take rfl (.pointer (some ⟨A, 2, none⟩)) (fun _ _ _ _ h => HP.out _ _ _ _ (by rfl) h) HSS.out (by rfl) (fun W2 hW => by go_simp) ?_
  simp only [Act.put, List.setIfInBounds_toArray, List.set_cons_zero, List.set_cons_succ]
  refine wpSch_take rfl (.int .i64 x.c) (fun _ _ _ _ h => HP.out _ _ _ _ (by rfl) h) HSS.out (by rfl) (fun W2 hW => by have q0 : W2.cell? ⟨A, 2, none⟩ = some (.int .i64 x.c) := blk_cell hW.1 2; go_simp) ?_
  simp only [Act.put, List.setIfInBounds_toArray, List.set_cons_zero, List.set_cons_succ]
  refine wpSch_take rfl (.pointer (some ⟨A, 5, none⟩)) (fun _ _ _ _ h => HP.out _ _ _ _ (by rfl) h) HSS.out (by rfl) (fun W2 hW => by go_simp) ?_
  simp only [Act.put, List.setIfInBounds_toArray, List.set_cons_zero, List.set_cons_succ]
  refine wpSch_take rfl (.int .i64 x.f) (fun _ _ _ _ h => HP.out _ _ _ _ (by rfl) h) HSS.out (by rfl) (fun W2 hW => by have q0 : W2.cell? ⟨A, 5, none⟩ = some (.int .i64 x.f) := blk_cell hW.1 5; go_simp) ?_
  simp only [Act.put, List.setIfInBounds_toArray, List.set_cons_zero, List.set_cons_succ]
  refine wpSch_take rfl (.int .i64 k) (fun _ _ _ _ h => HP.out _ _ _ _ (by rfl) h) HSS.out (by rfl) (fun W2 hW => by go_simp) ?_
  simp only [Act.put, List.setIfInBounds_toArray, List.set_cons_zero, List.set_cons_succ]
  refine wpSch_take rfl (.int .i64 (3 * k)) (fun _ _ _ _ h => HP.out _ _ _ _ (by rfl) h) HSS.out (by rfl) (fun W2 hW => by go_simp; exact IntWalk.i64_in _ ⟨by omega, by omega⟩) ?_
  simp only [Act.put, List.setIfInBounds_toArray, List.set_cons_zero, List.set_cons_succ]
  refine wpSch_take rfl (.int .i64 (w64 (x.f + 3 * k))) (fun _ _ _ _ h => HP.out _ _ _ _ (by rfl) h) HSS.out (by rfl) (fun W2 hW => by unfold w64; go_simp) ?_
  simp only [Act.put, List.setIfInBounds_toArray, List.set_cons_zero, List.set_cons_succ]
  refine wpSch_take rfl (.pointer (some ⟨A, 5, none⟩)) (fun _ _ _ _ h => HP.out _ _ _ _ (by rfl) h) HSS.out (by rfl) (fun W2 hW => by go_simp) ?_
  simp only [Act.put, List.setIfInBounds_toArray, List.set_cons_zero, List.set_cons_succ]
  refine wpSch_take rfl (.int .i64 x.f) (fun _ _ _ _ h => HP.out _ _ _ _ (by rfl) h) HSS.out (by rfl) (fun W2 hW => by have q0 : W2.cell? ⟨A, 5, none⟩ = some (.int .i64 x.f) := blk_cell hW.1 5; go_simp) ?_
  simp only [Act.put, List.setIfInBounds_toArray, List.set_cons_zero, List.set_cons_succ]
  refine wpSch_take rfl (.int .i64 (x.f.tdiv 7)) (fun _ _ _ _ h => HP.out _ _ _ _ (by rfl) h) HSS.out (by rfl) (fun W2 hW => by go_simp; exact IntWalk.i64_in _ ⟨by omega, by omega⟩) ?_
  simp only [Act.put, List.setIfInBounds_toArray, List.set_cons_zero, List.set_cons_succ]
  refine wpSch_take rfl (.int .i64 k) (fun _ _ _ _ h => HP.out _ _ _ _ (by rfl) h) HSS.out (by rfl) (fun W2 hW => by go_simp) ?_
  simp only [Act.put, List.setIfInBounds_toArray, List.set_cons_zero, List.set_cons_succ]
  refine wpSch_take rfl (.int .i64 (131 * k)) (fun _ _ _ _ h => HP.out _ _ _ _ (by rfl) h) HSS.out (by rfl) (fun W2 hW => by go_simp; exact IntWalk.i64_in _ ⟨by omega, by omega⟩) ?_
  simp only [Act.put, List.setIfInBounds_toArray, List.set_cons_zero, List.set_cons_succ]
  refine wpSch_take rfl (.int .i64 (x.f.tdiv 7 + 131 * k)) (fun _ _ _ _ h => HP.out _ _ _ _ (by rfl) h) HSS.out (by rfl) (fun W2 hW => by go_simp; exact IntWalk.i64_in _ ⟨by omega, by omega⟩) ?_
  simp only [Act.put, List.setIfInBounds_toArray, List.set_cons_zero, List.set_cons_succ]
  refine wpSch_only rfl (fun K hK => ?_)
  go_simp
  refine (c2.out _).mono ?_
  rintro e w1 ⟨rfl, rfl⟩
  dsimp only
  refine hK _ _ HSS.out ?_
  clear hK K
  refine wpSch_take rfl (.int .i64 (k + pc)) (fun _ _ _ _ h => HP.out _ _ _ _ (by rfl) h) HSS.out (by rfl) (fun W2 hW => by go_simp; exact IntWalk.i64_in _ ⟨by omega, by omega⟩) ?_
  simp only [Act.put, List.setIfInBounds_toArray, List.set_cons_zero, List.set_cons_succ]
  refine wpSch_take rfl (.int .i64 ((k + pc) % 4)) (fun _ _ _ _ h => HP.out _ _ _ _ (by rfl) h) HSS.out (by rfl) (fun W2 hW => by go_simp; exact Int.tmod_eq_emod_of_nonneg (by omega)) ?_
  simp only [Act.put, List.setIfInBounds_toArray, List.set_cons_zero, List.set_cons_succ]
  refine wpSch_take rfl (.int .i64 (1 + (k + pc) % 4)) (fun _ _ _ _ h => HP.out _ _ _ _ (by rfl) h) HSS.out (by rfl) (fun W2 hW => by go_simp; exact IntWalk.i64_in _ ⟨by omega, by omega⟩) ?_
  simp only [Act.put, List.setIfInBounds_toArray, List.set_cons_zero, List.set_cons_succ]
  refine wpSch_only rfl (fun K hK => ?_)
  go_simp
  refine (c3.out _).mono ?_
  rintro e w2 ⟨rfl, hb2⟩
  dsimp only
  have HSS2 : Hid (w2.heap[A]? = some (.cells (sixCells x) 62 (0, 0)) ∧ w2.heap[T]? = some (.cells (revE x base tl ta tc aa ac k ba bc).cells 45 (0, 0))) := Lib.hid ⟨(hb2.block _ (Go.Proofs.YtgbihmafmmeicaaGreatDoor.hlt HSS.out.1)).trans HSS.out.1, (hb2.block _ (Go.Proofs.YtgbihmafmmeicaaGreatDoor.hlt HSS.out.2)).trans HSS.out.2⟩
  have HB2 : Hid (Below Wd.heap.size Wd w2) := Lib.hid hb2
  refine hK _ _ HSS2.out ?_
  clear hK K hb2 HSS
  refine wpSch_only rfl (fun K hK => ?_)
  go_simp
  refine (c4.out _).mono ?_
  rintro e w3 ⟨av, rfl, hr3, hb3⟩
  obtain ⟨ao, cap, rfl⟩ := hr3.shape
  dsimp only
  have HSS : Hid (w3.heap[A]? = some (.cells (sixCells x) 62 (0, 0)) ∧ w3.heap[T]? = some (.cells (revE x base tl ta tc aa ac k ba bc).cells 45 (0, 0))) := Lib.hid ⟨(hb3.block _ (Go.Proofs.YtgbihmafmmeicaaGreatDoor.hlt HSS2.out.1)).trans HSS2.out.1, (hb3.block _ (Go.Proofs.YtgbihmafmmeicaaGreatDoor.hlt HSS2.out.2)).trans HSS2.out.2⟩
  have HB3 : Hid (Below Wd.heap.size Wd w3) := Lib.hid (HB2.out.trans (hb3.mono HB2.out.size))
  have HR3 : Hid (IRow w3 Wd.heap.size (.slice ao YL.after.length cap) YL.after) := Lib.hid (hr3.weaken HB2.out.size)
  refine hK _ _ HSS.out ?_
  clear hK K hb3 hr3 HSS2
  refine wpSch_take rfl (.agg (blkCells Y (.slice ao YL.after.length cap))) (fun _ _ _ _ h => HP.out _ _ _ _ (by rfl) h) HSS.out (by rfl) (fun W2 hW => exec_build _ _ rfl _ (by simpa [Act.eval] using HBU.out ao cap)) ?_
  simp only [Act.put, List.setIfInBounds_toArray, List.set_cons_zero, List.set_cons_succ]
  refine wpSch_only rfl (fun K hK => ?_)
  rw [if_pos (by rfl)]
  refine wp_blk_slice _ rfl (blkCells Y (.slice ao YL.after.length cap)) (by simp [Act.eval]) (HFI.out ao cap) ?_
  obtain ⟨w4, hw4⟩ : ∃ w4, w4 = w3.alloc (.cells (blkCells Y (.slice ao YL.after.length cap)) 56) := ⟨_, rfl⟩
  have hb4 : Below w3.heap.size w3 w4 := by rw [hw4]; exact (Below.refl _ w3).alloc (Nat.le_refl _) _
  have HN4 : Hid (w4.heap[w3.heap.size]? = some (.cells (blkCells Y (.slice ao YL.after.length cap)) 56 (0, 0))) := Lib.hid (by rw [hw4]; exact World.alloc_heap_new _ _)
  rw [← hw4]
  have HSS4 : Hid (w4.heap[A]? = some (.cells (sixCells x) 62 (0, 0)) ∧ w4.heap[T]? = some (.cells (revE x base tl ta tc aa ac k ba bc).cells 45 (0, 0))) := Lib.hid ⟨(hb4.block _ (Go.Proofs.YtgbihmafmmeicaaGreatDoor.hlt HSS.out.1)).trans HSS.out.1, (hb4.block _ (Go.Proofs.YtgbihmafmmeicaaGreatDoor.hlt HSS.out.2)).trans HSS.out.2⟩
  have HB4 : Hid (Below Wd.heap.size Wd w4) := Lib.hid (HB3.out.trans (hb4.mono HB3.out.size))
  have HR4 := Lib.hid (HR3.out.bel hb4)
  refine hK _ _ HSS4.out ?_
  clear hK K hb4 hw4 HSS HR3
  simp only [Act.put, List.setIfInBounds_toArray, List.set_cons_zero, List.set_cons_succ]
  refine wpSch_only rfl (fun K hK => ?_)
  rw [if_pos (by rfl)]
  have HBR : Hid (BRow w4 B (.slice ba (revBlks x k).length bc) (revBlks x k)) := Lib.hid (HBRW.out.kept (Upd.of_below HB4.out) (fun k h => .inr h))
  refine wp_app_blk _ _ rfl B _ (revBlks x k) (by simp [Act.eval]) HBR.out Y ao cap (by rw [show Y.lab = YL from HYL.out]; exact HR4.out.intsFr (fun b hb => by
    have h1 := HR4.out.ge b hb
    have h2 := HBW.out
    intro h
    rcases h with h | h
    · omega
    · have := HBRW.out.ge b h; omega)) w3.heap.size 1 (by simp [Act.eval]) (by rw [show Y.lab = YL from HYL.out]; exact HN4.out) (by rw [revBlks_len]; omega) (by have := HB4.out.size; have := HBW.out; omega) ?_
  intro v5 w5 h5 hg5
  obtain ⟨ba5, bc5, rfl⟩ := h5.shape
  have hge := HBRW.out.ge
  have hu5 : Upd (fun b => (Value.slice ba (revBlks x k).length bc).ownBlock = some b ∨ B ≤ b) Wd w5 := ((Upd.of_below HB4.out).mono (G := fun b => (Value.slice ba (revBlks x k).length bc).ownBlock = some b ∨ B ≤ b) (fun i e => .inr e)).grown hg5 (fun b e => .inl (.inl e))
  have hAT := HAT.out
  have HSS5 : Hid (w5.heap[A]? = some (.cells (sixCells x) 62 (0, 0)) ∧ w5.heap[T]? = some (.cells (revE x base tl ta tc aa ac k ba bc).cells 45 (0, 0))) := Lib.hid ⟨(hg5.block A (Go.Proofs.YtgbihmafmmeicaaGreatDoor.hlt HSS4.out.1) (fun e => by have := hge _ e.symm; omega)).trans HSS4.out.1, (hg5.block T (Go.Proofs.YtgbihmafmmeicaaGreatDoor.hlt HSS4.out.2) (fun e => by have := hge _ e.symm; omega)).trans HSS4.out.2⟩
  have H5 : Hid (BRow w5 B (.slice ba5 (revBlks x k ++ [Y]).length bc5) (revBlks x k ++ [Y])) := Lib.hid h5
  have HU5 := Lib.hid hu5
  refine hK _ _ HSS5.out ?_
  clear hK K h5 hg5 hu5 hge
  simp only [Act.put, List.setIfInBounds_toArray, List.set_cons_zero, List.set_cons_succ]
  refine wpSch_only rfl (fun K hK => ?_)
  go_simp
  refine hK _ _ HSS5.out ?_
  clear hK K
  have kt : w5.cell? ⟨T, 10, none⟩ = some (.slice ba (revBlks x k).length bc) := blk_cell HSS5.out.2 10
  have ft := blk_free HSS5.out.2 10
  refine wpSch_last rfl (fun K hK => ?_)
  go_simp
  refine hK _ _ ?_
  clear hK K kt ft
  refine wpSch_done ?_
  have h6 := blk_set (j := 10) (u := .slice ba5 (revBlks x k ++ [Y]).length bc5) HSS5.out.2
  have hu6 : Upd (fun b => b = T ∨ B ≤ b) Wd (w5.setCell ⟨T, 10, none⟩ (.slice ba5 (revBlks x k ++ [Y]).length bc5)) := (HU5.out.mono (G := fun b => b = T ∨ B ≤ b) (fun b e => .inl (by rcases e with e | e; exact .inr (HBRW.out.ge b e).1; exact .inr e))).trans (upd_cell w5 T 10 _) (fun b e => .inl (.inl e))
  have hbr6 := H5.out.kept (upd_cell w5 T 10 (.slice ba5 (revBlks x k ++ [Y]).length bc5)) (fun b e => .inl (by have := HAT.out; omega))
  have HRI : Hid (RevI W1 x T B base tl ta tc aa ac (k + 1) (w5.setCell ⟨T, 10, none⟩ (.slice ba5 (revBlks x k ++ [Y]).length bc5))) := Lib.hid (HRI0.out.upd hu6 (fun b e => e) ⟨ba5, bc5, by rw [h6, HY.out]; unfold revE; rw [revBlks_succ]; rfl, by rw [revBlks_succ, ← HY.out]; exact hbr6⟩)
  clear h6 hu6 hbr6
  go_wp2_with fail
  exact HQ.out _ _ _ _ _ _ _ _ _ _ _ _ _ _ _ _ _ _ _ _ _ _ _ _ _ _ _ _ _ _ _ _ _ _ _ ⟨by go_num, by have h := HRI.out; simp only [List.length_append, List.length_cons, List.length_nil, Nat.zero_add] at h; exact h⟩
set_option maxRecDepth 100000 in
set_option maxHeartbeats 4000000 in
theorem rev_loop (x : Six) (hx : okI x.c ∧ okI x.f) (A T B : Nat) (base : Int) (tl : List ByteArray) (ta : Option Addr) (tc : Nat) (aa : Option Addr) (ac : Nat) (c0 c2 c5 c6 c7 c8 c9 c10 c11 c12 c13 c14 c15 c16 c17 c18 c19 c20 c21 c22 c23 c24 c25 c26 c27 c28 c62 : Value) (u4 u29 u30 u31 u32 u33 u34 u35 u36 u37 u38 u39 u40 u41 u42 u43 u44 u45 u46 u47 u48 u49 u50 u51 u52 u53 u54 u55 u56 u57 u58 u59 u60 u61 : Value) (W1 wr : World) (hA1 : W1.heap[A]? = some (.cells (sixCells x) 62 (0, 0))) (hR : RevI W1 x T B base tl ta tc aa ac 0 wr) (hu : u4 = .int .i64 0) (Q : Exit → Act → World → Prop)
    (hQ : ∀ (u4 u29 u30 u31 u32 u33 u34 u35 u36 u37 u38 u39 u40 u41 u42 u43 u44 u45 u46 u47 u48 u49 u50 u51 u52 u53 u54 u55 u56 u57 u58 u59 u60 u61 : Value) (w2 : World), RevI W1 x T B base tl ta tc aa ac (pickF x.f 4).toNat w2 → Q (.exit 0) ⟨#[c0, .pointer (some ⟨A, 0, none⟩), c2, .pointer (some ⟨T, 0, none⟩), u4, c5, c6, c7, c8, c9, c10, c11, c12, c13, c14, c15, c16, c17, c18, c19, c20, c21, c22, c23, c24, c25, c26, c27, c28, u29, u30, u31, u32, u33, u34, u35, u36, u37, u38, u39, u40, u41, u42, u43, u44, u45, u46, u47, u48, u49, u50, u51, u52, u53, u54, u55, u56, u57, u58, u59, u60, u61, c62], []⟩ w2) (hP : ∀ c a a2 w2, a2.defers = a.defers → Q (.panic c) a w2 → Q (.panic c) a2 w2) :
    (Code.loop revBody).wp Tryz.prog Q ⟨#[c0, .pointer (some ⟨A, 0, none⟩), c2, .pointer (some ⟨T, 0, none⟩), u4, c5, c6, c7, c8, c9, c10, c11, c12, c13, c14, c15, c16, c17, c18, c19, c20, c21, c22, c23, c24, c25, c26, c27, c28, u29, u30, u31, u32, u33, u34, u35, u36, u37, u38, u39, u40, u41, u42, u43, u44, u45, u46, u47, u48, u49, u50, u51, u52, u53, u54, u55, u56, u57, u58, u59, u60, u61, c62], []⟩ wr := by
  obtain ⟨q0, q1⟩ := pickF_lt (c := x.f) (n := 4) (by omega)
  refine wp_loop (fun a w => ∃ U : Nat → Value, (∃ k, k ≤ (pickF x.f 4).toNat ∧ U 4 = .int .i64 (k : Nat) ∧ RevI W1 x T B base tl ta tc aa ac k w) ∧ a = ⟨#[c0, .pointer (some ⟨A, 0, none⟩), c2, .pointer (some ⟨T, 0, none⟩), U 4, c5, c6, c7, c8, c9, c10, c11, c12, c13, c14, c15, c16, c17, c18, c19, c20, c21, c22, c23, c24, c25, c26, c27, c28, U 29, U 30, U 31, U 32, U 33, U 34, U 35, U 36, U 37, U 38, U 39, U 40, U 41, U 42, U 43, U 44, U 45, U 46, U 47, U 48, U 49, U 50, U 51, U 52, U 53, U 54, U 55, U 56, U 57, U 58, U 59, U 60, U 61, c62], []⟩) (fun a _ => 4 - (intOf (a.tmps.getD 4 undef)).toNat) ⟨fun i => ([undef, undef, undef, undef, u4, undef, undef, undef, undef, undef, undef, undef, undef, undef, undef, undef, undef, undef, undef, undef, undef, undef, undef, undef, undef, undef, undef, undef, undef, u29, u30, u31, u32, u33, u34, u35, u36, u37, u38, u39, u40, u41, u42, u43, u44, u45, u46, u47, u48, u49, u50, u51, u52, u53, u54, u55, u56, u57, u58, u59, u60, u61, undef] : List Value).getD i undef, ⟨0, Nat.zero_le _, hu, hR⟩, rfl⟩ ?_
  rintro a w2 ⟨U, ⟨k, hk, e, hR2⟩, rfl⟩
  have hA2 : w2.heap[A]? = some (.cells (sixCells x) 62 (0, 0)) := (hR2.bel.block _ (Go.Proofs.YtgbihmafmmeicaaGreatDoor.hlt hA1)).trans hA1
  by_cases hlt : (k : Int) < pickF x.f 4
  · rw [e]
    refine rev_round x hx A T B base tl ta tc aa ac _ _ _ _ _ _ _ _ _ _ _ _ _ _ _ _ _ _ _ _ _ _ _ _ _ _ _ _ _ _ _ _ _ _ _ _ _ _ _ _ _ _ _ _ _ _ _ _ _ _ _ _ _ _ _ _ _ _ _ _ k W1 w2 (Go.Proofs.YtgbihmafmmeicaaGreatDoor.hlt hA1) hA2 hlt hR2 _ ?_ (fun c a a2 w2 e h => hP c a a2 w2 e h)
    rintro u4 u29 u30 u31 u32 u33 u34 u35 u36 u37 u38 u39 u40 u41 u42 u43 u44 u45 u46 u47 u48 u49 u50 u51 u52 u53 u54 u55 u56 u57 u58 u59 u60 u61 w3 ⟨e3, hR3⟩
    refine ⟨⟨fun i => ([undef, undef, undef, undef, u4, undef, undef, undef, undef, undef, undef, undef, undef, undef, undef, undef, undef, undef, undef, undef, undef, undef, undef, undef, undef, undef, undef, undef, undef, u29, u30, u31, u32, u33, u34, u35, u36, u37, u38, u39, u40, u41, u42, u43, u44, u45, u46, u47, u48, u49, u50, u51, u52, u53, u54, u55, u56, u57, u58, u59, u60, u61, undef] : List Value).getD i undef, ⟨k + 1, by omega, e3, hR3⟩, rfl⟩, ?_⟩
    show 4 - (intOf u4).toNat < 4 - (intOf (.int .i64 (k : Nat))).toNat
    rw [e3]
    simp [intOf]; omega
  · obtain rfl : k = (pickF x.f 4).toNat := by omega
    rw [e]
    have HQ := Lib.hid hQ
    have HR := Lib.hid hR2
    have c1 := Lib.hid (fun W => pick_any x.f 4 hx.2 (by omega) (by omega) W)
    obtain ⟨pf, hpf⟩ : ∃ pf, pf = pickF x.f 4 := ⟨_, rfl⟩
    have hcast : ((pickF x.f 4).toNat : Int) = pickF x.f 4 := by omega
    rw [hcast]
    rw [← hpf] at c1 q0 q1 ⊢
    have k5 : w2.cell? ⟨A, 5, none⟩ = some (.int .i64 x.f) := blk_cell hA2 5
    clear hQ hR2 e hR hlt hk hx hA2 hA1 hpf hcast hu
    conv => arg 2; whnf
    go_wp2_with fail
    refine (c1.out _).mono ?_
    rintro e w1 ⟨rfl, rfl⟩
    go_wp2_with fail
    exact HQ.out _ _ _ _ _ _ _ _ _ _ _ _ _ _ _ _ _ _ _ _ _ _ _ _ _ _ _ _ _ _ _ _ _ _ _ HR.out
end Go.Proofs.YtgbihmafmmeicaaGreatDoor
namespace Go.Proofs.YtgbihmafmmeicaaGreatDoor
open Go.RowKit Mg Go.Shelf

def FctPost (f : Fct) (W : World) (e : Ending) (w' : World) : Prop := ∃ y : FctE, e = .returned (.agg y.cells) ∧ y.f = f ∧ y.ok (memFr w' fun k => k < W.heap.size) ∧ Below W.heap.size W w'
theorem getD_ok {l : List Int} (h : ∀ x ∈ l, okI x) (j : Nat) : okI (l.getD j 0) := by
  rw [List.getD_eq_getElem?_getD]
  cases e : l[j]? with
  | none => show okI 0; unfold okI; omega
  | some x => exact h x (List.mem_of_getElem? e)
theorem label_ok (n : Int) : okI (labelF n).till ∧ okI (labelF n).appr ∧ okI (labelF n).denied := by
  refine ⟨getD_ok (fun x hx => ?_) _, getD_ok (fun x hx => ?_) _, getD_ok (fun x hx => ?_) _⟩
  all_goals
    simp only [List.mem_cons, List.not_mem_nil, or_false] at hx
    unfold okI
    omega
theorem word_size (n : Int) : (wordF n).size = 12 := by unfold wordF wordL; rfl
theorem revBlk_ok (x : Six) (k : Nat) : (revBlkF x k).text.size ≤ maxLen ∧ okI (revBlkF x k).kind ∧ okI (revBlkF x k).id := by
  unfold revBlkF
  dsimp only
  rw [word_size]
  obtain ⟨p0, p1⟩ := pickF_lt (c := x.c) (n := 3) (by omega)
  refine ⟨by unfold maxLen; omega, by unfold okI; omega, ?_⟩
  unfold okI
  omega
theorem revE_ok (x : Six) (tl : List ByteArray) (ta : Option Addr) (tc : Nat) (aa : Option Addr) (ac k : Nat) (ba : Option Addr) (bc : Nat) : FOK (revE x (pickF x.e (1 + pickF x.d 4)) tl ta tc aa ac k ba bc).f := by
  obtain ⟨d0, d1⟩ := pickF_lt (c := x.d) (n := 4) (by omega)
  obtain ⟨e0, e1⟩ := pickF_lt (c := x.e) (n := 1 + pickF x.d 4) (by omega)
  obtain ⟨l1, l2, l3⟩ := label_ok x.e
  have z : okI 0 := by unfold okI; omega
  have m0 : (str0).size ≤ maxLen := by unfold maxLen str0; show 0 ≤ _; omega
  refine ⟨z, z, by show okI 1; unfold okI; omega, z, m0, by show okI (1 + pickF x.d 4); unfold okI; omega, by show okI (pickF x.e (1 + pickF x.d 4)); unfold okI; omega, ?_, ?_, l1, l2, l3, z, z, z, m0, m0, z, z, z, fun y hy => ?_⟩
  · show (wordF _).size ≤ maxLen
    rw [word_size]; unfold maxLen; omega
  · show 3 ≤ maxLen
    unfold maxLen; omega
  · obtain ⟨j, _, rfl⟩ := List.mem_map.1 (show y ∈ revBlks x k from hy)
    exact revBlk_ok x j
set_option maxRecDepth 100000 in
set_option maxHeartbeats 4000000 in
theorem revision_any (x : Six) (hx : okI x.c ∧ okI x.d ∧ okI x.e ∧ okI x.f) (w : World) : Calls Tryz.prog 50 #[.agg (sixCells x)] w (FctPost (revF x) w) := by
  have hHB : Hid (Below w.heap.size w ((w.alloc (.cells (sixCells x) 62)).alloc (.cells fe0.cells 45))) := Lib.hid (((Below.refl _ w).alloc (Nat.le_refl _) _).alloc (by simp) _)
  have HA0 := Lib.hid (heap_new1 w (.cells (sixCells x) 62) (.cells fe0.cells 45))
  have HZ0 := Lib.hid (heap_new2 w (.cells (sixCells x) 62) (.cells fe0.cells 45))
  have HN0 : Hid (((w.alloc (.cells (sixCells x) 62)).alloc (.cells fe0.cells 45)).heap.size = w.heap.size + 2) := Lib.hid (by simp)
  have HX := Lib.hid hx
  obtain ⟨d0, d1⟩ := pickF_lt (c := x.d) (n := 4) (by omega)
  have c1 := Lib.hid (fun W => pick_any x.e (1 + pickF x.d 4) hx.2.2.1 (by omega) (by omega) W)
  clear hx
  go_enter Tryz.func50, Tryz.ntmps50
  go_upto_region 1 with fail
  generalize hW1 : World.alloc (World.alloc w _) _ = W1
  rw [show (w.alloc (.cells (sixCells x) 62)).alloc (.cells fe0.cells 45) = W1 from hW1] at hHB HA0 HZ0 HN0
  clear hW1
  refine rev_r1 x ⟨HX.out.2.1, HX.out.2.2.1, HX.out.2.2.2⟩ w.heap.size _ _ _ _ _ _ _ _ _ _ _ _ _ _ _ _ _ _ _ _ _ _ _ _ _ _ _ _ _ _ _ _ _ _ _ _ _ _ _ _ _ _ _ _ _ _ _ _ _ _ _ _ _ _ _ _ _ _ _ _ _ _ W1 HA0.out _ ?_ (fun c a a2 w2 e h => ⟨e.trans h.1, h.2⟩)
  intro v5 v6 v7 v8 v9 v10 v11 v12 v13 v14 v15 v16 T aa ac W2 hR1
  obtain ⟨hT, hTn, hL, hne, hb⟩ := hR1
  obtain ⟨base, hbase⟩ : ∃ b, b = pickF x.e (1 + pickF x.d 4) := ⟨_, rfl⟩
  obtain ⟨pd, hpd⟩ : ∃ p, p = pickF x.d 4 := ⟨_, rfl⟩
  have HBASE := Lib.hid hbase
  rw [← hbase, ← hpd] at c1
  have k5 : W2.cell? ⟨T, 5, none⟩ = some (.int .i64 (1 + pd)) := by rw [hpd]; exact blk_cell hT 5
  have k6 : W2.cell? ⟨T, 6, none⟩ = some (.int .i64 0) := blk_cell hT 6
  have f6 := blk_free hT 6
  have ka : ∀ j, W2.cell? ⟨w.heap.size, j, none⟩ = (sixCells x)[j]? := fun j => by rw [← blk_cell HA0.out j]; exact hb.cell (p := ⟨w.heap.size, j, none⟩) (Go.Proofs.YtgbihmafmmeicaaGreatDoor.hlt HA0.out)
  have k4 : W2.cell? ⟨w.heap.size, 4, none⟩ = some (.int .i64 x.e) := ka 4
  have k55 : W2.cell? ⟨w.heap.size, 5, none⟩ = some (.int .i64 x.f) := ka 5
  have hlT := Go.Proofs.YtgbihmafmmeicaaGreatDoor.hlt hT
  have hnA : w.heap.size ≠ T := by have := HN0.out; omega
  have HT3 : Hid ((W2.setCell ⟨T, 6, none⟩ (.int .i64 base)).heap[T]? = some (.cells (revE x base [] none 0 aa ac 0 none 0).cells 45 (0, 0))) := Lib.hid (blk_set hT)
  have hu3 := upd_cell W2 T 6 (.int .i64 base)
  have HB3 : Hid (Below W1.heap.size W1 (W2.setCell ⟨T, 6, none⟩ (.int .i64 base))) := Lib.hid (hb.trans (hu3.below (fun k e => by omega) hb.size))
  have HL3 : Hid (IRow (W2.setCell ⟨T, 6, none⟩ (.int .i64 base)) W1.heap.size (.slice aa (labelF x.e).after.length ac) (labelF x.e).after) := Lib.hid (hL.kept hu3 (fun k hk e => hne (by rw [hk, e])))
  have HNE := Lib.hid hne
  have HTn := Lib.hid hTn
  clear hT hTn hL hne hb hbase hpd d0 d1 ka hu3
  go_wp2_with fail
  refine (c1.out _).mono ?_
  rintro e w1 ⟨rfl, rfl⟩
  go_upto_region 3 with fail
  have k55 : (W2.setCell ⟨T, 6, none⟩ (.int .i64 base)).cell? ⟨w.heap.size, 5, none⟩ = some (.int .i64 x.f) := by
    rw [show (W2.setCell ⟨T, 6, none⟩ (.int .i64 base)).cell? ⟨w.heap.size, 5, none⟩ = W2.cell? ⟨w.heap.size, 5, none⟩ from (upd_cell W2 T 6 (.int .i64 base)).cell (p := ⟨w.heap.size, 5, none⟩) (World.block_lt_of_cell? _ _ k55) hnA]
    exact k55
  clear k4 k5 k6 f6 c1
  generalize hW3 : W2.setCell ⟨T, 6, none⟩ (.int .i64 base) = W3 at *
  clear hW3
  have HEND : Hid (∀ (tl : List ByteArray) (ta : Option Addr) (tc : Nat) (B : Nat) (ba : Option Addr) (bc : Nat) (W4 : World), (revF x).topics = tl → RevI W1 x T B base tl ta tc aa ac (pickF x.f 4).toNat W4 → W4.heap[T]? = some (.cells (revE x base tl ta tc aa ac (pickF x.f 4).toNat ba bc).cells 45 (0, 0)) → BRow W4 B (.slice ba (revBlks x (pickF x.f 4).toNat).length bc) (revBlks x (pickF x.f 4).toNat) →
      FctPost (revF x) w (.returned (.agg (revE x base tl ta tc aa ac (pickF x.f 4).toNat ba bc).cells)) (W4.setRow (w.heap.size + 1) (revE x base tl ta tc aa ac (pickF x.f 4).toNat ba bc).cells)) := Lib.hid (fun tl ta tc B ba bc W4 htl hI hT4 hbr => by
    have hN := HN0.out
    have hz4 := hI.bel.size
    have hm : ∀ (F : Nat → Prop), (∀ b, b < w.heap.size + 2 → F b) → ∀ a u, memFr W4 F a = some u → memFr (W4.setRow (w.heap.size + 1) (revE x base tl ta tc aa ac (pickF x.f 4).toNat ba bc).cells) (fun b => b < w.heap.size) a = some u := fun F hF a u h => by
      obtain ⟨h1, h2, h3⟩ := memFr_lt a u h
      have hn2 : a.block ≠ w.heap.size + 1 := fun e => h2 (hF _ (by omega))
      have he := setRow_other W4 (w.heap.size + 1) a.block (revE x base tl ta tc aa ac (pickF x.f 4).toNat ba bc).cells hn2
      exact memFr_of ((World.cell?_of_block he).trans (memFr_sees _ _ a u h)) ((World.frozen?_of_block he).trans h3) (fun g => h2 (hF _ (by omega)))
    refine ⟨_, rfl, ?_, ⟨by rw [HBASE.out]; exact revE_ok x tl ta tc aa ac _ ba bc, hI.tops.mono (hm _ fun b h => .inl (by omega)), ?_, hI.after.mono (hm _ fun b h => .inl (by omega))⟩, ?_⟩
    · unfold revE revF
      rw [← htl, HBASE.out]
      rfl
    · have hp := hbr.blks (fun z hz => by
        obtain ⟨j, _, rfl⟩ := List.mem_map.1 hz
        exact revBlk_ok x j)
      exact hp.mono (hm _ fun b h => by have := hI.tn; have := hI.tb; omega)
    · exact hHB.out.trans (below_setRow (hI.bel.mono (by omega)) (by omega) _))
  obtain ⟨fs, hun⟩ := fct_under
  have hfs := fct_size
  by_cases hev : x.f.tmod 2 = 0
  · have HEV : Hid ((revF x).topics = [strL [99, 105, 116, 121], strL [114, 97, 105, 110]]) := Lib.hid (by unfold revF; dsimp only; rw [if_pos hev])
    have kt := blk_cell HT3.out 9
    have ft := blk_free HT3.out 9
    rw [show (revE x base [] none 0 aa ac 0 none 0).cells[9]? = some (.slice none 0 0) from rfl] at kt
    have hlT3 := Go.Proofs.YtgbihmafmmeicaaGreatDoor.hlt HT3.out
    go_upto_region 5 with fail
    have hu4 := upd_cell W3 T 9 (.slice (some ⟨W3.heap.size, 0, none⟩) 2 2)
    have hT4 := blk_set (j := 9) (u := .slice (some ⟨W3.heap.size, 0, none⟩) 2 2) HT3.out
    have hz4 : (W3.setCell ⟨T, 9, none⟩ (.slice (some ⟨W3.heap.size, 0, none⟩) 2 2)).heap.size = W3.heap.size := by simp
    have hL4 := HL3.out.kept hu4 (fun k hk e => HNE.out (by rw [hk, e]))
    generalize W3.setCell ⟨T, 9, none⟩ (.slice (some ⟨W3.heap.size, 0, none⟩) 2 2) = W4 at *
    have hb5 : Below W4.heap.size W4 (W4.alloc (.cells #[.string ⟨#[99, 105, 116, 121]⟩, .string ⟨#[114, 97, 105, 110]⟩] 9)) := (Below.refl _ W4).alloc (Nat.le_refl _) _
    have hS5 := World.alloc_heap_new W4 (.cells #[.string ⟨#[99, 105, 116, 121]⟩, .string ⟨#[114, 97, 105, 110]⟩] 9)
    generalize W4.alloc (.cells #[.string ⟨#[99, 105, 116, 121]⟩, .string ⟨#[114, 97, 105, 110]⟩] 9) = W5 at *
    rw [hz4] at hS5
    clear kt ft hev k55
    have hz3 := HB3.out.size
    have hlS := Go.Proofs.YtgbihmafmmeicaaGreatDoor.hlt hS5
    have hL5 := hL4.bel hb5
    have hTn := HTn.out
    have HT5 := Lib.hid ((hb5.block T (by omega)).trans hT4)
    have hB5 : Below W1.heap.size W1 W5 := (HB3.out.trans (hu4.below (fun k e => by omega) (by omega))).trans (hb5.mono (by omega))
    have HRI : Hid (RevI W1 x T W5.heap.size base [strL [99, 105, 116, 121], strL [114, 97, 105, 110]] (some ⟨W3.heap.size, 0, none⟩) 2 aa ac 0 W5) := Lib.hid ⟨hB5, hTn, by omega, Nat.le_refl _, ?tops, hL5.intsFr (fun b hb h => by
        have h1 := hL5.ge b hb
        have h2 := hL5.lt b hb
        rcases h with h | h | h
        · omega
        · exact HNE.out (by rw [hb, h])
        · omega), none, 0, HT5.out, BRow.nil _ _⟩
    case tops =>
      refine ⟨W3.heap.size, 0, ⟨by show 2 ≤ maxLen; unfold maxLen; omega, some ⟨W3.heap.size, 0, none⟩, 2, rfl, Nat.le_refl _, by unfold maxLen; omega, fun _ => rfl⟩, fun s hs => ?_, fun j hj => memFr_of ?_ (blk_free hS5 _) (by show ¬ (W3.heap.size < W1.heap.size ∨ W3.heap.size = T ∨ W5.heap.size ≤ W3.heap.size); omega)⟩
      · simp only [List.mem_cons, List.not_mem_nil, or_false] at hs
        unfold maxLen
        rcases hs with rfl | rfl
        · show 4 ≤ _; omega
        · show 4 ≤ _; omega
      · rw [blk_cell hS5]
        match j, hj with
        | 0, _ => rfl
        | 1, _ => rfl
    clear hu4 hT4 hz4 hL4 hb5 hS5 hz3 hlS hL5 hTn hB5 hlT3
    go_wp2_with fail
    refine rev_loop x ⟨HX.out.1, HX.out.2.2.2⟩ w.heap.size T _ base _ _ _ aa ac _ _ _ _ _ _ _ _ _ _ _ _ _ _ _ _ _ _ _ _ _ _ _ _ _ _ _ _ _ _ _ _ _ _ _ _ _ _ _ _ _ _ _ _ _ _ _ _ _ _ _ _ _ _ _ _ _ _ _ _ _ W1 W5 HA0.out HRI.out rfl _ ?_ (fun c a a2 w2 e h => ⟨e.trans h.1, h.2⟩)
    intro u4 u29 u30 u31 u32 u33 u34 u35 u36 u37 u38 u39 u40 u41 u42 u43 u44 u45 u46 u47 u48 u49 u50 u51 u52 u53 u54 u55 u56 u57 u58 u59 u60 u61 W6 hI
    obtain ⟨ba, bc, hT6, hbr6⟩ := hI.row
    have HP := Lib.hid (HEND.out _ _ _ _ ba bc _ HEV.out hI hT6 hbr6)
    have HT6 := Lib.hid hT6
    have hz6 := hI.bel.size
    have HZ6 : Hid (W6.heap[w.heap.size + 1]? = some (.cells fe0.cells 45 (0, 0))) := Lib.hid ((hI.bel.block _ (by have := HN0.out; omega)).trans HZ0.out)
    clear hI hT6 hbr6
    generalize hYC : revE x base [strL [99, 105, 116, 121], strL [114, 97, 105, 110]] (some ⟨W3.heap.size, 0, none⟩) 2 aa ac (pickF x.f 4).toNat ba bc = Y at *
    have hsz : Hid (Y.cells.size = 23) := Lib.hid Y.size
    have hone := Lib.hid Y.one
    clear hYC
    go_wp2_with (first
      | ((with_reducible refine at_fload _ rfl ?_); go_must (refine wpList_fct_load rfl _ rfl T (by simp [Act.eval]) _ HT6.out hsz.out ?_))
      | ((with_reducible refine at_fstore _ _ rfl ?_); go_must (refine wpList_store_rowTo rfl 45 _ _ rfl rfl (w.heap.size + 1) _ (by simp [Act.eval, Act.put]) (by simp [Act.eval, Act.put]) 45 _ HZ6.out (by rw [fct_size, hsz.out]) (by rfl) hone.out ?_)))
    refine bodyPost_ret (results_cell_row (p := 2) (ty := 45) (by kernel_rfl) _ _ (w.heap.size + 1) _ Y.cells (0, 0) _ (by simp [Act.put]) (setRow_heap _ _ _ _ _ _ HZ6.out) hun rfl (by rw [hfs, hsz.out])) rfl ?_
    exact HP.out
  · have HEV : Hid ((revF x).topics = []) := Lib.hid (by unfold revF; dsimp only; rw [if_neg hev])
    have hz3 := HB3.out.size
    have hTn := HTn.out
    have hlT3 := Go.Proofs.YtgbihmafmmeicaaGreatDoor.hlt HT3.out
    have HRI : Hid (RevI W1 x T W3.heap.size base [] none 0 aa ac 0 W3) := Lib.hid ⟨HB3.out, hTn, hlT3, Nat.le_refl _, StrsM.nil _, HL3.out.intsFr (fun b hb h => by
        have h1 := HL3.out.ge b hb
        have h2 := HL3.out.lt b hb
        rcases h with h | h | h
        · omega
        · exact HNE.out (by rw [hb, h])
        · omega), none, 0, HT3.out, BRow.nil _ _⟩
    have bev : (x.f.tmod 2 == 0) = false := by simpa using hev
    have HEVN := Lib.hid hev
    clear hz3 hTn hlT3 hev
    go_wp2_with fail
    refine rev_loop x ⟨HX.out.1, HX.out.2.2.2⟩ w.heap.size T _ base _ _ _ aa ac _ _ _ _ _ _ _ _ _ _ _ _ _ _ _ _ _ _ _ _ _ _ _ _ _ _ _ _ _ _ _ _ _ _ _ _ _ _ _ _ _ _ _ _ _ _ _ _ _ _ _ _ _ _ _ _ _ _ _ _ _ W1 W3 HA0.out HRI.out rfl _ ?_ (fun c a a2 w2 e h => ⟨e.trans h.1, h.2⟩)
    intro u4 u29 u30 u31 u32 u33 u34 u35 u36 u37 u38 u39 u40 u41 u42 u43 u44 u45 u46 u47 u48 u49 u50 u51 u52 u53 u54 u55 u56 u57 u58 u59 u60 u61 W6 hI
    obtain ⟨ba, bc, hT6, hbr6⟩ := hI.row
    have HP := Lib.hid (HEND.out _ _ _ _ ba bc _ HEV.out hI hT6 hbr6)
    have HT6 := Lib.hid hT6
    have hz6 := hI.bel.size
    have HZ6 : Hid (W6.heap[w.heap.size + 1]? = some (.cells fe0.cells 45 (0, 0))) := Lib.hid ((hI.bel.block _ (by have := HN0.out; omega)).trans HZ0.out)
    clear hI hT6 hbr6 k55 bev
    generalize hYC : revE x base [] none 0 aa ac (pickF x.f 4).toNat ba bc = Y at *
    have hsz : Hid (Y.cells.size = 23) := Lib.hid Y.size
    have hone := Lib.hid Y.one
    clear hYC
    go_wp2_with (first
      | ((with_reducible refine at_fload _ rfl ?_); go_must (refine wpList_fct_load rfl _ rfl T (by simp [Act.eval]) _ HT6.out hsz.out ?_))
      | ((with_reducible refine at_fstore _ _ rfl ?_); go_must (refine wpList_store_rowTo rfl 45 _ _ rfl rfl (w.heap.size + 1) _ (by simp [Act.eval, Act.put]) (by simp [Act.eval, Act.put]) 45 _ HZ6.out (by rw [fct_size, hsz.out]) (by rfl) hone.out ?_)))
    refine bodyPost_ret (results_cell_row (p := 2) (ty := 45) (by kernel_rfl) _ _ (w.heap.size + 1) _ Y.cells (0, 0) _ (by simp [Act.put]) (setRow_heap _ _ _ _ _ _ HZ6.out) hun rfl (by rw [hfs, hsz.out])) rfl ?_
    exact HP.out
end Go.Proofs.YtgbihmafmmeicaaGreatDoor

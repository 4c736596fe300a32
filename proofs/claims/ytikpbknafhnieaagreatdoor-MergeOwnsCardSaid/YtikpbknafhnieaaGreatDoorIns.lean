/-
  WHAT IS PROVED HERE: slices.Index and slices.Insert at ints, over a row that the call itself has made (the contracts of the kit's shelf, laid). Conditions: at most 100000 elements.
-/
import Derived.Test.YtikpbknafhnieaaGreatDoorShl
import Derived.Test.YtikpbknafhnieaaGreatDoorLab2
import Derived.Maps.AppendAt
namespace Go.Proofs.YtikpbknafhnieaaGreatDoor
open Go.RowKit Mg Go.Shelf

def encI (i : Int) : Value := .int .i64 i
/-- v is a slice of ints that holds l, nil or in a block from B on -/
def IRow (w : World) (B : Nat) (v : Value) (l : List Int) : Prop := w.ownsRow B 3 1 v l.length (l.map encI)
theorem int_info : (Tryz.prog.info? 3).map (fun i => (i.zero, i.size, i.bytes)) = some (some (.int .i64 0), 1, 8) := by kernel_rfl
theorem setCells_heap (g : Nat) (e : TypeId) : ∀ (vs : List Value) (o : Nat) (w : World) (cur : Array Value), w.heap[g]? = some (.cells cur e (0, 0)) → ∃ cur', (w.setCells g o vs).heap[g]? = some (.cells cur' e (0, 0)) ∧ cur'.size = cur.size
  | [], _, _, cur, h => ⟨cur, h, rfl⟩
  | v :: r, o, w, cur, h => by
    obtain ⟨cur', h1, h2⟩ := setCells_heap g e r (o + 1) (w.setCell ⟨g, o, none⟩ v) _ (heap_setCell_same w g o cur e v h)
    exact ⟨cur', by rw [World.setCells]; exact h1, by rw [h2, Array.size_setIfInBounds]⟩
theorem setCells_grown (g : Nat) : ∀ (vs : List Value) (o : Nat) (w a : World), a.grownBy w (some g) → a.grownBy (w.setCells g o vs) (some g)
  | [], _, _, _, h => h
  | v :: r, o, w, a, h => by
    rw [World.setCells]
    exact setCells_grown g r (o + 1) _ a ⟨h.os, h.tape, h.output, by simpa [World.setCell] using h.size, fun k hk hn => (Below.heap_setCell w ⟨g, o, none⟩ v k (fun e => hn (by rw [e]))).trans (h.block k hk hn)⟩
theorem only_drew {a w : World} {row : Option Nat} (h : a.grownBy w row) : a.grownBy w.drew row := ⟨h.os, h.tape, h.output, h.size, h.block⟩
/-- a row by its cells -/
theorem row_of_cells {w : World} {B g cap : Nat} {e : TypeId} {cur : Array Value} {xs : List Value} (hB : B ≤ g) (hh : w.heap[g]? = some (.cells cur e (0, 0))) (hn : xs.length ≤ cap) (hc : cap ≤ maxLen) (hs : cur.size = cap)
    (hx : ∀ j u, xs[j]? = some u → w.cell? ⟨g, j, none⟩ = some u) : w.ownsRow B e 1 (.slice (some ⟨g, 0, none⟩) xs.length cap) xs.length xs := by
  refine ⟨by simp, .inr ⟨g, cap, cur, rfl, hB, hh, hn, hc, by omega, ?_⟩⟩
  refine List.ext_getElem? fun j => ?_
  rw [Nat.mul_one, List.getElem?_take]
  by_cases h : j < xs.length
  · rw [if_pos h]
    have h1 := hx j xs[j] (List.getElem?_eq_getElem h)
    unfold World.cell? at h1
    simp [hh] at h1
    rw [Array.getElem?_toList, h1, List.getElem?_eq_getElem h]
  · rw [if_neg h, List.getElem?_eq_none (by omega)]
theorem IRow.shape {w : World} {B : Nat} {v : Value} {l : List Int} (h : IRow w B v l) : ∃ ao cap, v = .slice ao l.length cap := by
  rcases h.2 with ⟨h1, h2⟩ | ⟨g, cap, cur, h1, _⟩
  · exact ⟨none, 0, by rw [h1, h2]⟩
  · exact ⟨_, cap, h1⟩
theorem IRow.cells {w : World} {B : Nat} {v : Value} {l : List Int} (h : IRow w B v l) (j : Nat) (hj : j < l.length) : ∃ g cap, v = .slice (some ⟨g, 0, none⟩) l.length cap ∧ l.length ≤ cap ∧ cap ≤ maxLen ∧ B ≤ g ∧ w.cell? ⟨g, j, none⟩ = some (.int .i64 l[j]) := by
  rcases h.2 with ⟨_, h2⟩ | ⟨g, cap, cur, h1, hb, hh, h4, h5, h6, h7⟩
  · omega
  · refine ⟨g, cap, h1, h4, h5, hb, ?_⟩
    have := World.ownsRow.cells h (g := g) (by rw [h1]; rfl) j (encI l[j]) (by simp [hj])
    rwa [Addr.add_lit, Nat.zero_add] at this
theorem IRow.ints {w : World} {B : Nat} {v : Value} {l : List Int} (h : IRow w B v l) : IntsM (fun a => w.cell? a) v l := by
  rcases h.2 with ⟨h1, h2⟩ | ⟨g, cap, cur, h1, hb, hh, h4, h5, h6, h7⟩
  · have : l = [] := List.eq_nil_of_length_eq_zero h2
    subst this; subst h1; exact IntsM.nil _
  · refine ⟨g, 0, ⟨by omega, _, cap, h1, h4, h5, fun _ => rfl⟩, fun j hj => ?_⟩
    obtain ⟨g', cap', e, _, _, _, hc⟩ := h.cells j hj
    rw [h1] at e
    injection e with e1
    injection e1 with e1
    injection e1 with e1
    subst e1
    rw [Nat.zero_add]; exact hc
theorem IRow.kept {w w' : World} {B : Nat} {v : Value} {l : List Int} {F : Nat → Prop} (h : IRow w B v l) (hu : Upd F w w') (hn : ∀ k, v.ownBlock = some k → ¬ F k) : IRow w' B v l := by
  refine ⟨h.1, ?_⟩
  rcases h.2 with hn | ⟨g, cap, cur, rfl, hb, hgg, rest⟩
  · exact .inl hn
  · exact .inr ⟨g, cap, cur, rfl, hb, (hu.block g (Array.getElem?_eq_some_iff.1 hgg).1 (hn g rfl)).trans hgg, rest⟩
theorem IRow.ge {w : World} {B : Nat} {v : Value} {l : List Int} (h : IRow w B v l) : ∀ k, v.ownBlock = some k → B ≤ k := fun k hk => (World.ownsRow.lt h k hk).1
theorem IRow.lt {w : World} {B : Nat} {v : Value} {l : List Int} (h : IRow w B v l) : ∀ k, v.ownBlock = some k → k < w.heap.size := fun k hk => (World.ownsRow.lt h k hk).2

def idxI (l : List Int) (x : Int) : Int := if x ∈ l then (l.idxOf x : Nat) else -1
theorem ret_int {a b : Int} (h : a = b) : Ending.returned (.int .i64 a) = .returned (.int .i64 b) := by rw [h]
set_option maxHeartbeats 1000000 in
theorem index_any {mem : Addr → Option Value} (v : Value) (l : List Int) (h : IntsM mem v l) (x : Int) (w : World) (hs : Sees mem w) :
    Calls Tryz.prog 52 #[v, .int .i64 x] w fun e w' => e = .returned (.int .i64 (idxI l x)) ∧ w = w' := by
  obtain ⟨ao, cap, b, o, rfl, hcap, hm, hao, hcells⟩ := h.open_ hs
  have HA := Lib.hid hao
  have HC := Lib.hid hcells
  have hlen : (l.length : Int) ≤ 9223372036854775807 := by unfold maxLen at hm; omega
  clear hao hcells hs h hcap hm
  go_enter Tryz.func52, Tryz.ntmps52
  go_wp2_with fail
  go_loop [8] (fun i => ∃ k : Nat, k ≤ l.length ∧ i = .int .i64 k ∧ Hid (x ∉ l.take k)) (fun i => l.length - (intOf i).toNat)
  case atStart => exact ⟨0, Nat.zero_le _, rfl, Lib.hid (by simp)⟩
  case round =>
    obtain ⟨k, hk, rfl, hn⟩ := hrel
    by_cases hlt : k < l.length
    · have c1 := HC.out k hlt
      obtain rfl := HA.out (by omega)
      have HE : Hid (l[k] = x → idxI l x = k) := Lib.hid (fun e => by
        unfold idxI
        have hm : x ∈ l := e ▸ List.getElem_mem hlt
        rw [if_pos hm]
        have hs : l = l.take k ++ l[k] :: l.drop (k + 1) := by rw [← List.drop_eq_getElem_cons hlt, List.take_append_drop]
        have : l.idxOf x = k := by
          rw [hs, List.idxOf_append, if_neg hn.out, e]
          simp; omega
        rw [this])
      have HN : Hid (l[k] ≠ x → x ∉ l.take (k + 1)) := Lib.hid (fun e => by
        rw [List.take_succ_eq_append_getElem hlt]
        intro hm
        rcases List.mem_append.1 hm with hm | hm
        · exact hn.out hm
        · simp at hm; exact e hm.symm)
      generalize l[k] = y at *
      clear hn
      by_cases hxy : x = y
      · have e1 : (x == y) = true := by simpa using hxy
        have HF := Lib.hid (HE.out hxy.symm)
        clear hxy HE HN
        go_wp2_with fail
        go_ret
        exact ⟨ret_int (by rw [HF.out]), rfl⟩
      · have e1 : (x == y) = false := by simpa using hxy
        have HF := Lib.hid (HN.out (fun e => hxy e.symm))
        clear hxy HE HN
        go_wp2_with fail
        go_round
        case rel => exact ⟨k + 1, by omega, by go_num, HF⟩
        case measure => simp [intOf]; omega
    · have e : k = l.length := by omega
      subst e
      have HF : Hid (x ∉ l) := Lib.hid (by have := hn.out; rwa [List.take_length] at this)
      go_wp2_with fail
      go_ret
      exact ⟨ret_int (by unfold idxI; rw [if_neg HF.out]), rfl⟩

/-- what Insert leaves -/
def InsPost (B : Nat) (v : Value) (r : List Int) (w : World) (e : Ending) (w' : World) : Prop :=
  ∃ v', e = .returned v' ∧ IRow w' B v' r ∧ w.grownBy w' v.ownBlock ∧ (v'.ownBlock = v.ownBlock ∨ v'.ownBlock = some w.heap.size)
theorem one_cell (l : List Int) : ∀ u ∈ l.map encI, u.oneCell' = true := by
  intro u hu
  obtain ⟨i, _, rfl⟩ := List.mem_map.1 hu
  rfl
theorem enc_get {l : List Int} {j : Nat} {u : Value} (h : (l.map encI)[j]? = some u) : ∃ hj : j < l.length, u = .int .i64 l[j] := by
  rw [List.getElem?_map, Option.map_eq_some_iff] at h
  obtain ⟨i, h1, rfl⟩ := h
  obtain ⟨hj, rfl⟩ := List.getElem?_eq_some_iff.1 h1
  exact ⟨hj, rfl⟩
theorem row_of {w : World} {B g cap : Nat} {cur : Array Value} {l : List Int} (hB : B ≤ g) (hh : w.heap[g]? = some (.cells cur 3 (0, 0))) (hn : l.length ≤ cap) (hc : cap ≤ maxLen) (hs : cur.size = cap)
    (hx : ∀ j (hj : j < l.length), w.cell? ⟨g, j, none⟩ = some (.int .i64 l[j])) : IRow w B (.slice (some ⟨g, 0, none⟩) l.length cap) l := by
  have := row_of_cells (e := 3) (xs := l.map encI) hB hh (by simpa using hn) hc hs (fun j u hu => by obtain ⟨hj, rfl⟩ := enc_get hu; exact hx j hj)
  unfold IRow
  rwa [List.length_map] at this
theorem ins_get (l : List Int) (i : Nat) (hi : i ≤ l.length) (x : Int) (j : Nat) (hj : j < (l.take i ++ x :: l.drop i).length) : (l.take i ++ x :: l.drop i)[j] = if h : j < i then l[j]'(by omega) else if h2 : j = i then x else l[j - 1]'(by simp at hj; omega) := by
  by_cases h : j < i
  · rw [dif_pos h, List.getElem_append_left (by rw [List.length_take]; omega), List.getElem_take]
  · rw [dif_neg h, List.getElem_append_right (by rw [List.length_take]; omega)]
    by_cases h2 : j = i
    · rw [dif_pos h2]; simp only [List.length_take, Nat.min_eq_left hi, h2, Nat.sub_self, List.getElem_cons_zero]
    · rw [dif_neg h2]
      obtain ⟨m, hm⟩ : ∃ m, j - i = m + 1 := ⟨j - i - 1, by omega⟩
      simp only [List.length_take, Nat.min_eq_left hi, hm, List.getElem_cons_succ, List.getElem_drop]
      congr 1; omega
theorem ins_len (l : List Int) (i : Nat) (hi : i ≤ l.length) (x : Int) : (l.take i ++ x :: l.drop i).length = l.length + 1 := by simp; omega

theorem insert_any (w : World) (B : Nat) (hB : B ≤ w.heap.size) (v : Value) (l : List Int) (h : IRow w B v l) (i : Nat) (hi : i ≤ l.length) (x : Int) (vb : Nat) (hvb : w.heap[vb]? = some (.cells #[.int .i64 x] 3 (0, 0))) (hne : v.ownBlock ≠ some vb) (hl : l.length ≤ 100000) :
    Calls Tryz.prog 53 #[v, .int .i64 i, .slice (some ⟨vb, 0, none⟩) 1 1] w (InsPost B v (l.take i ++ x :: l.drop i) w) := by
  have hvs : ∀ j u, ([.int .i64 x] : List Value)[j]? = some u → w.cell? ⟨vb, 0 + j, none⟩ = some u := fun j u hu => by
    match j, hu with
    | 0, hu => simp at hu; subst hu; unfold World.cell?; simp [hvb]
  have h1v : ∀ u ∈ ([.int .i64 x] : List Value), u.oneCell' = true := by simp [Value.oneCell']
  have hlen := ins_len l i hi x
  have hz0 : ∀ n, (Builtin.zeroCells (Value.int .i64 0).cells n).size = n := fun n => by rw [size_zeroCells]; simp [Value.cells]
  rcases h.2 with ⟨rfl, h0⟩ | ⟨g, cap, cur, rfl, hbg, hgg, hnc, hcm, hcs, htk⟩
  · -- nothing stands yet
    have hl0 : l = [] := List.eq_nil_of_length_eq_zero h0
    subst hl0
    obtain rfl : i = 0 := by simpa using hi
    have c := Any2.slices_Insert_int_end_grow Tryz.laysIns none 0 0 vb 0 1 1 [] [.int .i64 x] w (by omega) (by omega) (by omega) (by omega) rfl rfl (fun _ => rfl) (fun a e => by cases e) hvs h1v
    rw [show Tryz.laysIns_ren.t 3 = 3 from rfl] at c
    refine c.mono ?_
    rintro e w' ⟨rfl, rfl⟩
    have hge := grownCap_ge w (0 + 1) 0 3
    refine ⟨_, rfl, ?_, ⟨rfl, rfl, rfl, by simp, fun k hk _ => heap_alloc_old w.drew _ k hk⟩, .inr rfl⟩
    refine row_of (l := [x]) (cap := grownCap w (0 + 1) 0 3) hB (heap_alloc_new w.drew _) (by simpa using hge) (grownCap_le_maxLen _ _ _ _ (by unfold maxLen; omega)) (by rw [Array.size_append, hz0]; simp only [List.nil_append, List.size_toArray, List.length_cons, List.length_nil]; omega) (fun j hj => ?_)
    match j, hj with
    | 0, _ => rw [show (⟨w.heap.size, 0, none⟩ : Addr) = ⟨w.drew.heap.size, 0, none⟩ from rfl, World.cell?_alloc_at _ _ _ _ rfl, Array.getElem?_append_left (by simp)]; rfl
  · have hcell : ∀ j (hj : j < l.length), w.cell? ⟨g, j, none⟩ = some (.int .i64 l[j]) := fun j hj => by
      obtain ⟨g', cap', e, _, _, _, hc⟩ := h.cells j hj
      injection e with e1
      injection e1 with e1
      injection e1 with e1
      subst e1; exact hc
    have hcsl : ∀ j u, (l.map encI)[j]? = some u → w.cell? ⟨g, 0 + j, none⟩ = some u := fun j u hu => by
      obtain ⟨hj, rfl⟩ := enc_get hu
      rw [Nat.zero_add]; exact hcell j hj
    have hvg : vb ≠ g := fun e => hne (by rw [e]; rfl)
    have hsome : ∀ j, j < cap → (w.cell? ⟨g, j, none⟩).isSome = true := fun j hj => by
      unfold World.cell?; simp [hgg]; omega
    have hfree : ∀ j, w.frozen? ⟨g, j, none⟩ = false := fun j => by unfold World.frozen?; simp [hgg]
    have hglt : g < w.heap.size := (Array.getElem?_eq_some_iff.1 hgg).1
    by_cases hroom : l.length + 1 ≤ cap
    · by_cases hin : i < l.length
      · refine (Any2.slices_Insert_int_shift Tryz.laysIns g 0 l.length cap i vb 0 1 1 (l.map encI) [.int .i64 x] w hin (by omega) hroom (by unfold maxLen at hcm; omega) hvg (by simp) rfl hcsl (fun j hj => by rw [Nat.zero_add]; exact hsome j (by omega)) (fun j _ => hfree _) hvs (one_cell l) h1v
          3 3 1 cur.size (by unfold World.shape?; simp [hvb]) (by unfold World.shape?; simp [hgg]) (by omega) (by unfold World.frozen?; simp [hvb]) (by unfold World.frozen?; simp [hvb])).mono ?_
        rintro e w' ⟨rfl, rfl⟩
        obtain ⟨c1, hh1, hs1⟩ := setCells_heap g 3 ((l.map encI).drop i) (0 + (i + 1)) w.drew cur hgg
        obtain ⟨c2, hh2, hs2⟩ := setCells_heap g 3 [.int .i64 x] (0 + i) _ c1 hh1
        have hd1 : ∀ j, j < ((l.map encI).drop i).length → (w.drew.cell? ⟨g, 0 + (i + 1) + j, none⟩).isSome = true := fun j hj => hsome _ (by simp at hj; omega)
        refine ⟨_, rfl, ?_, setCells_grown g _ _ _ _ (setCells_grown g _ _ _ _ (only_drew (World.grownBy.refl w _))), .inl rfl⟩
        have := row_of (l := l.take i ++ x :: l.drop i) (cap := cap) hbg hh2 (by omega) hcm (by rw [hs2, hs1]; omega) (fun j hj => by
          rw [ins_get l i hi x j hj]
          by_cases hj1 : j < i
          · rw [dif_pos hj1, World.cell?_setCells_out g _ _ _ _ (fun _ _ => .inl (by simp; omega)), World.cell?_setCells_out g _ _ _ _ (fun _ _ => .inl (by simp; omega))]
            exact hcell j (by omega)
          · rw [dif_neg hj1]
            by_cases hj2 : j = i
            · rw [dif_pos hj2]
              have := World.cell?_setCells_in g [.int .i64 x] (0 + i) (w.drew.setCells g (0 + (i + 1)) ((l.map encI).drop i)) (fun j hj => by
                rw [World.cell?_setCells_out g _ _ _ _ (fun _ _ => .inl (by simp at hj ⊢; omega))]; exact hsome _ (by simp at hj; omega)) 0 (by simp)
              rw [hj2]
              simpa using this
            · rw [dif_neg hj2, World.cell?_setCells_out g _ _ _ _ (fun _ _ => .inr (by simp; omega))]
              have h4 := World.cell?_setCells_in g ((l.map encI).drop i) (0 + (i + 1)) w.drew hd1 (j - (i + 1)) (by simp; omega)
              rw [show 0 + (i + 1) + (j - (i + 1)) = j by omega] at h4
              rw [h4, List.getElem_drop, List.getElem_map]
              simp only [encI]
              congr 3; omega)
        rwa [hlen] at this
      · obtain rfl : i = l.length := by omega
        refine (Any2.slices_Insert_int_end_room Tryz.laysIns g 0 l.length cap vb 0 1 1 [.int .i64 x] w (by omega) hroom (by unfold maxLen at hcm; omega) rfl (fun j hj => hsome _ (by omega)) (fun j _ => hfree _) hvs h1v).mono ?_
        rintro e w' ⟨rfl, rfl⟩
        obtain ⟨c2, hh2, hs2⟩ := setCells_heap g 3 [.int .i64 x] (0 + l.length) w cur hgg
        refine ⟨_, rfl, ?_, setCells_grown g _ _ _ _ (World.grownBy.refl w _), .inl rfl⟩
        have := row_of (l := l.take l.length ++ x :: l.drop l.length) (cap := cap) hbg hh2 (by omega) hcm (by rw [hs2]; omega) (fun j hj => by
          rw [ins_get l l.length hi x j hj]
          by_cases hj1 : j < l.length
          · rw [dif_pos hj1, World.cell?_setCells_out g _ _ _ _ (fun _ _ => .inl (by simp; omega))]
            exact hcell j hj1
          · have hj2 : j = l.length := by omega
            rw [dif_neg hj1, dif_pos hj2]
            have := World.cell?_setCells_in g [.int .i64 x] (0 + l.length) w (fun j hj => hsome _ (by simp at hj; omega)) 0 (by simp)
            rw [hj2]
            simpa using this)
        rwa [hlen] at this
    · by_cases hin : i < l.length
      · have c := Any2.slices_Insert_int_grow Tryz.laysIns g 0 l.length cap i vb 0 1 1 (l.map encI) [.int .i64 x] w hin (by omega) hnc (by omega) (by omega) (by simp) rfl hcsl hvs (one_cell l) h1v
        rw [show Tryz.laysIns_ren.t 3 = 3 from rfl] at c
        have hge := grownCap_ge w (l.length + 1) cap 3
        have hgm : grownCap w (l.length + 1) cap 3 ≤ maxLen := grownCap_le_maxLen _ _ _ _ (by unfold maxLen; omega)
        obtain ⟨A, hA⟩ : ∃ A : Array Value, A = ((l.map encI).take i).toArray ++ Builtin.zeroCells (Value.int .i64 0).cells (l.length + 1 - i) ++ Builtin.zeroCells (Value.int .i64 0).cells (grownCap w (l.length + 1) cap 3 - (l.length + 1)) := ⟨_, rfl⟩
        rw [← hA] at c
        have hsz : A.size = grownCap w (l.length + 1) cap 3 := by
          rw [hA, Array.size_append, Array.size_append, hz0, hz0]; simp; omega
        have hAg : ∀ j (hj : j < i), A[j]? = some (.int .i64 (l[j]'(by omega))) := fun j hj => by
          rw [hA, Array.append_assoc, Array.getElem?_append_left (by simp; omega), List.getElem?_toArray, List.getElem?_take, if_pos hj, List.getElem?_map, List.getElem?_eq_getElem (by omega)]; rfl
        clear hA
        obtain ⟨w1, hw1⟩ : ∃ w1, w1 = w.alloc (.cells A 3) := ⟨_, rfl⟩
        obtain ⟨w2, hw2⟩ : ∃ w2, w2 = w1.drew.setCells w.heap.size i [.int .i64 x] := ⟨_, rfl⟩
        rw [← hw1, ← hw2] at c
        refine c.mono ?_
        rintro e w' ⟨rfl, rfl⟩
        have hh0 : w1.drew.heap[w.heap.size]? = some (.cells A 3 (0, 0)) := by rw [hw1]; exact heap_alloc_new w _
        have hc1 : ∀ j, w1.drew.cell? ⟨w.heap.size, j, none⟩ = A[j]? := fun j => by
          unfold World.cell?; simp [hh0]
        have hsm : ∀ j, j < grownCap w (l.length + 1) cap 3 → (w1.drew.cell? ⟨w.heap.size, j, none⟩).isSome = true := fun j hj => by
          rw [hc1, Array.getElem?_eq_getElem (by rw [hsz]; exact hj)]; rfl
        obtain ⟨d1, hh1, hs1⟩ := setCells_heap w.heap.size 3 [.int .i64 x] i _ _ hh0
        rw [← hw2] at hh1
        obtain ⟨d2, hh2, hs2⟩ := setCells_heap w.heap.size 3 ((l.map encI).drop i) (i + 1) w2.drew d1 hh1
        have hin1 := World.cell?_setCells_in w.heap.size [.int .i64 x] i w1.drew (fun j hj => hsm _ (by simp at hj; omega)) 0 (by simp)
        have hout1 : ∀ j, j ≠ i → w2.drew.cell? ⟨w.heap.size, j, none⟩ = w1.drew.cell? ⟨w.heap.size, j, none⟩ := fun j hj => by
          show w2.cell? ⟨w.heap.size, j, none⟩ = _
          rw [hw2, World.cell?_setCells_out _ _ _ _ _ (fun _ _ => by simp; omega)]
        rw [← hw2, Nat.add_zero] at hin1
        refine ⟨_, rfl, ?_, ?_, .inr rfl⟩
        · have := row_of (l := l.take i ++ x :: l.drop i) (cap := grownCap w (l.length + 1) cap 3) hB hh2 (by omega) hgm (by rw [hs2, hs1, hsz]) (fun j hj => by
            rw [ins_get l i hi x j hj]
            by_cases hj1 : j < i
            · rw [dif_pos hj1, World.cell?_setCells_out _ _ _ _ _ (fun _ _ => .inl (by show j < i + 1; omega)), hout1 j (by omega), hc1, hAg j hj1]
            · rw [dif_neg hj1]
              by_cases hj2 : j = i
              · rw [dif_pos hj2, World.cell?_setCells_out _ _ _ _ _ (fun _ _ => .inl (by show j < i + 1; omega)), hj2]
                exact hin1
              · rw [dif_neg hj2]
                have h4 := World.cell?_setCells_in w.heap.size ((l.map encI).drop i) (i + 1) w2.drew (fun j hj => by
                    rw [hout1 _ (by omega)]
                    exact hsm _ (by simp at hj; omega)) (j - (i + 1)) (by simp; omega)
                rw [show i + 1 + (j - (i + 1)) = j by omega] at h4
                refine h4.trans ?_
                rw [List.getElem_drop, List.getElem_map]
                simp only [encI]
                congr 3; omega)
          rwa [hlen] at this
        · have g1 : w1.grownBy (w2.drew.setCells w.heap.size (i + 1) ((l.map encI).drop i)) (some w.heap.size) := by
            rw [hw2]
            exact setCells_grown _ _ _ _ _ (only_drew (setCells_grown _ _ _ _ _ (only_drew (World.grownBy.refl _ _))))
          have hw1s : w1.heap.size = w.heap.size + 1 := by rw [hw1]; simp
          exact ⟨by rw [g1.os, hw1]; rfl, by rw [g1.tape, hw1]; rfl, by rw [g1.output, hw1]; rfl, by have := g1.size; omega, fun k hk _ => (g1.block k (by omega) (fun e => by injection e; omega)).trans (by rw [hw1]; exact Below.heap_alloc w _ k hk)⟩
      · obtain rfl : i = l.length := by omega
        have c := Any2.slices_Insert_int_end_grow Tryz.laysIns (some ⟨g, 0, none⟩) l.length cap vb 0 1 1 (l.map encI) [.int .i64 x] w (by omega) hnc (by omega) (by omega) (by simp) rfl (fun e => by cases e) (fun a e j u hu => by cases e; rw [Addr.add_lit]; exact hcsl j u hu) hvs h1v
        rw [show Tryz.laysIns_ren.t 3 = 3 from rfl] at c
        have hge := grownCap_ge w (l.length + 1) cap 3
        have hgm : grownCap w (l.length + 1) cap 3 ≤ maxLen := grownCap_le_maxLen _ _ _ _ (by unfold maxLen; omega)
        obtain ⟨A, hA⟩ : ∃ A : Array Value, A = (l.map encI ++ [Value.int .i64 x]).toArray ++ Builtin.zeroCells (Value.int .i64 0).cells (grownCap w (l.length + 1) cap 3 - (l.length + 1)) := ⟨_, rfl⟩
        rw [← hA] at c
        have hsz : A.size = grownCap w (l.length + 1) cap 3 := by
          rw [hA, Array.size_append, hz0]; simp; omega
        have hAg : ∀ j (hj : j < l.length), A[j]? = some (.int .i64 l[j]) := fun j hj => by
          rw [hA, Array.getElem?_append_left (by simp; omega), List.getElem?_toArray, List.getElem?_append_left (by simpa using hj), List.getElem?_map, List.getElem?_eq_getElem hj]; rfl
        have hAx : A[l.length]? = some (.int .i64 x) := by
          rw [hA, Array.getElem?_append_left (by simp), List.getElem?_toArray, List.getElem?_append_right (by simp)]; simp
        clear hA
        obtain ⟨w1, hw1⟩ : ∃ w1, w1 = w.drew.alloc (.cells A 3) := ⟨_, rfl⟩
        rw [← hw1] at c
        refine c.mono ?_
        rintro e w' ⟨rfl, rfl⟩
        have hh0 : w'.heap[w.heap.size]? = some (.cells A 3 (0, 0)) := by rw [hw1]; exact heap_alloc_new w.drew _
        refine ⟨_, rfl, ?_, by rw [hw1]; exact ⟨rfl, rfl, rfl, by simp, fun k hk _ => heap_alloc_old w.drew _ k hk⟩, .inr rfl⟩
        have := row_of (l := l.take l.length ++ x :: l.drop l.length) (cap := grownCap w (l.length + 1) cap 3) hB hh0 (by omega) hgm hsz (fun j hj => by
          have hc : w'.cell? ⟨w.heap.size, j, none⟩ = A[j]? := by unfold World.cell?; simp [hh0]
          rw [hc, ins_get l l.length hi x j hj]
          by_cases hj1 : j < l.length
          · rw [dif_pos hj1, hAg j hj1]
          · have hj2 : j = l.length := by omega
            rw [dif_neg hj1, dif_pos hj2, hj2, hAx])
        rwa [hlen] at this
end Go.Proofs.YtikpbknafhnieaaGreatDoor

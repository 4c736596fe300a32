/-
  WHAT IS PROVED HERE: an argument that reads as data within the bound lies in memory as the contracts want it (nodes of templates; the answers of a source). Conditions: the bulk that the second form names.
-/
import Derived.Test.YtlkaikopjjmneaaDoorLay
import Derived.Test.YtlkaikopjjmneaaDoorSan1
import Derived.Deep.Fields
namespace Go.Proofs.YtlkaikopjjmneaaDoor
open Go.ChangeShapes Go.WideShapes Go.RowKit Go.Deep

theorem cell_add {w : World} {a : Addr} {k : Nat} {v : Value} (h : w.cell? (a.add k) = some v) : w.cell? ⟨a.block, a.off + k, none⟩ = some v := by
  by_cases hk : k = 0
  · subst hk
    have e : a.add 0 = a := by simp [Addr.add]
    rw [e] at h
    obtain ⟨b, o, s⟩ := a
    cases s with
    | none => exact h
    | some x =>
      unfold World.cell? at h
      simp at h
      split at h <;> simp at h
  · unfold Addr.add at h
    rwa [if_neg hk] at h

theorem cell_spot {w : World} {a : Addr} {v : Value} (h : w.cell? a = some v) : a = ⟨a.block, a.off, none⟩ := by
  obtain ⟨b, o, s⟩ := a
  cases s with
  | none => rfl
  | some x =>
    unfold World.cell? at h
    simp at h
    split at h <;> simp at h
theorem add_zero (a : Addr) : a.add 0 = a := by simp [Addr.add]
theorem bulk_pos {H : Type} (d : DataW H) : 1 ≤ Rows.uptoBulk d := by
  cases d with
  | lit l => cases l <;> simp [Rows.uptoBulk]
  | nil => simp [Rows.uptoBulk]
  | ptr d => simp [Rows.uptoBulk]
  | slice a b => simp [Rows.uptoBulk]
  | agg a => simp [Rows.uptoBulk]
  | iface t d => simp [Rows.uptoBulk]
  | map m => simp [Rows.uptoBulk]
  | held h => simp [Rows.uptoBulk]
theorem bulk_len {H : Type} : ∀ (l : List (DataW H)), l.length ≤ Rows.uptoBulkAll l
  | [] => by simp
  | d :: r => by have := bulk_len r; have := bulk_pos d; simp only [Rows.uptoBulkAll, List.length_cons]; omega
theorem bulk_mem {H : Type} : ∀ (l : List (DataW H)) (i : Nat) (d : DataW H), l[i]? = some d → Rows.uptoBulk d ≤ Rows.uptoBulkAll l
  | [], i, d, h => by simp at h
  | e :: r, 0, d, h => by simp at h; subst h; simp only [Rows.uptoBulkAll]; omega
  | e :: r, i + 1, d, h => by have := bulk_mem r i d (by simpa using h); simp only [Rows.uptoBulkAll]; omega

section
variable {H : Type} {enc : TypeId × Value → H} {P : Program} {w : World} {base : Nat} {spare : Nat → Bool} {held : Bool}
/-- a slice of structs of one-cell fields -/
theorem open_rows {t e : TypeId} {fs : Array Field} {fuel : Nat} {cs : List Value} {x : DataW H × List MemPlace} (ht : P.underlying t = some (.slice e)) (he : P.underlying e = some (.struct fs))
    (hone : oneCellFields P fs = true) (hC : P.cellsOf e = fs.size) (hpos : 0 < fs.size) (h : DataW.trod enc P w base spare held fuel t cs = some x) :
    (cs = [.slice none 0 0] ∧ x.1 = .nil) ∨
    ∃ (a : Addr) (len cap : Nat) (Ds rest : List (DataW H)), cs = [.slice (some a) len cap] ∧ len ≤ cap ∧ x.1 = .slice Ds rest ∧ Ds.length = len ∧ (0 < len → a = ⟨a.block, a.off, none⟩) ∧
      ∀ i, i < len → ∃ (ys : List (DataW H × List MemPlace)) (m : Nat), m < fuel ∧ Ds[i]? = some (.agg (ys.map (·.1))) ∧ ys.length = fs.size ∧
        ∀ (j : Nat) (f : Field), fs[j]? = some f → ∃ (v : Value) (y : DataW H × List MemPlace), w.cell? ⟨a.block, a.off + (i * fs.size + j), none⟩ = some v ∧ ys[j]? = some y ∧ DataW.trod enc P w base spare held m f.type [v] = some y := by
  rcases DataW.trod_slice ht h with ⟨h0, h1⟩ | ⟨a, len, cap, elems, rest, n, rfl, hcs, hx, _, hl, _, hlen, hel, _, _⟩
  · exact .inl ⟨h0, by rw [h1]⟩
  · refine .inr ⟨a, len, cap, elems.map (·.1), rest.map (·.1), hcs, hl, by rw [hx], by simp [hlen], fun h0 => ?_, fun i hi => ?_⟩
    · have h1 := hel 0 h0
      rw [List.getElem?_eq_getElem (by omega), Option.bind_eq_some_iff, Nat.zero_mul, add_zero] at h1
      obtain ⟨cs', hc, ht'⟩ := h1
      obtain ⟨_, hcl, hat⟩ := World.cells?_some hc
      have h2 := hat 0 (by rw [hC]; exact hpos)
      rw [List.getElem?_eq_getElem (by rw [hcl, hC]; exact hpos), add_zero] at h2
      exact cell_spot h2
    have h1 := hel i hi
    rw [List.getElem?_eq_getElem (by omega)] at h1
    rw [Option.bind_eq_some_iff] at h1
    obtain ⟨cs', hc, ht'⟩ := h1
    obtain ⟨ys, n', hn', hy, hcl0, hyl, hf⟩ := DataW.trod_struct he ht'
    obtain ⟨_, hcl, hat⟩ := World.cells?_some hc
    refine ⟨ys, n', by omega, ?_, hyl, fun j f hj => ?_⟩
    · rw [List.getElem?_map, List.getElem?_eq_getElem (by omega), hy]; rfl
    · obtain ⟨ho, hk⟩ := hone_of hone j f hj
      have hjl : j < fs.size := (Array.getElem?_eq_some_iff.1 hj).1
      have hcell := hat j (by rw [hC]; exact hjl)
      have hv : cs'[j]? = some (cs'[j]'(by omega)) := List.getElem?_eq_getElem (by omega)
      have h1 := hf j f hj
      rw [ho, hk] at h1
      have hone' : (cs'.drop j).take 1 = [cs'[j]'(by omega)] := by
        rw [List.drop_eq_getElem_cons (by omega)]
        rfl
      rw [hone'] at h1
      have hys : ys[j]? = some (ys[j]'(by omega)) := List.getElem?_eq_getElem (by omega)
      refine ⟨_, _, cell_add ?_, hys, h1.trans hys⟩
      rw [← Go.Deep.add_add, ← hC, hcell, hv]
/-- a slice of one-cell elements -/
theorem open_ones {t e : TypeId} {fuel : Nat} {cs : List Value} {x : DataW H × List MemPlace} (ht : P.underlying t = some (.slice e)) (hC : P.cellsOf e = 1) (h : DataW.trod enc P w base spare held fuel t cs = some x) :
    (cs = [.slice none 0 0] ∧ x.1 = .nil) ∨
    ∃ (a : Addr) (len cap : Nat) (Ds rest : List (DataW H)), cs = [.slice (some a) len cap] ∧ len ≤ cap ∧ x.1 = .slice Ds rest ∧ Ds.length = len ∧ (0 < len → a = ⟨a.block, a.off, none⟩) ∧
      ∀ i, i < len → ∃ (v : Value) (y : DataW H × List MemPlace) (m : Nat), w.cell? ⟨a.block, a.off + i, none⟩ = some v ∧ Ds[i]? = some y.1 ∧ DataW.trod enc P w base spare held m e [v] = some y := by
  rcases DataW.trod_slice ht h with ⟨h0, h1⟩ | ⟨a, len, cap, elems, rest, n, rfl, hcs, hx, _, hl, _, hlen, hel, _, _⟩
  · exact .inl ⟨h0, by rw [h1]⟩
  · refine .inr ⟨a, len, cap, elems.map (·.1), rest.map (·.1), hcs, hl, by rw [hx], by simp [hlen], fun h0 => ?_, fun i hi => ?_⟩
    · have h1 := hel 0 h0
      rw [List.getElem?_eq_getElem (by omega), Option.bind_eq_some_iff, Nat.zero_mul, add_zero] at h1
      obtain ⟨cs', hc, ht'⟩ := h1
      obtain ⟨_, hcl, hat⟩ := World.cells?_some hc
      have h2 := hat 0 (by rw [hC]; omega)
      rw [List.getElem?_eq_getElem (by rw [hcl, hC]; omega), add_zero] at h2
      exact cell_spot h2
    have h1 := hel i hi
    rw [List.getElem?_eq_getElem (by omega), Option.bind_eq_some_iff, hC, Nat.mul_one] at h1
    obtain ⟨cs', hc, ht'⟩ := h1
    obtain ⟨_, hcl, hat⟩ := World.cells?_some hc
    match cs', hcl with
    | [v], _ =>
      have h2 := hat 0 (by omega)
      rw [Go.Deep.add_add, Nat.add_zero] at h2
      exact ⟨v, elems[i], n, cell_add h2, by rw [List.getElem?_map, List.getElem?_eq_getElem (by omega)]; rfl, ht'⟩
end

theorem each_strs {mem : Addr → Option Value} {b : Nat} : ∀ (n o : Nat), (∀ i, i < n → ∃ s, mem ⟨b, o + i, none⟩ = some (.string s) ∧ s.size ≤ big) → ∃ l : List ByteArray, l.length = n ∧ StrsAt mem l b o
  | 0, o, _ => ⟨[], rfl, strsAt_nil⟩
  | n + 1, o, h => by
    obtain ⟨s, hs⟩ := h 0 (by omega)
    obtain ⟨l, h1, h2⟩ := each_strs n (o + 1) (fun i hi => by rw [show o + 1 + i = o + (i + 1) by omega]; exact h (i + 1) (by omega))
    exact ⟨s :: l, by simp [h1], by unfold StrsAt; exact ⟨hs, h2⟩⟩
theorem each_nodes {mem : Addr → Option Value} {b : Nat} : ∀ (n o : Nat), (∀ i, i < n → ∃ nd, NodeAt mem nd b (o + i * 8)) → ∃ l : List Node, l.length = n ∧ NodesAt mem l b o
  | 0, o, _ => ⟨[], rfl, nodesAt_nil⟩
  | n + 1, o, h => by
    obtain ⟨s, hs⟩ := h 0 (by omega)
    obtain ⟨l, h1, h2⟩ := each_nodes n (o + 8) (fun i hi => by rw [show o + 8 + i * 8 = o + (i + 1) * 8 by omega]; exact h (i + 1) (by omega))
    exact ⟨s :: l, by simp [h1], nodesAt_cons (by rwa [Nat.zero_mul] at hs) h2⟩
theorem each_ints {mem : Addr → Option Value} {b : Nat} : ∀ (n o : Nat), (∀ i, i < n → ∃ z, mem ⟨b, o + i, none⟩ = some (.int .i64 z)) → ∃ l : List Int, l.length = n ∧ ∀ j (h : j < l.length), mem ⟨b, o + j, none⟩ = some (.int .i64 l[j])
  | 0, o, _ => ⟨[], rfl, fun j h => absurd h (by simp)⟩
  | n + 1, o, h => by
    obtain ⟨z, hz⟩ := h 0 (by omega)
    obtain ⟨l, h1, h2⟩ := each_ints n (o + 1) (fun i hi => by rw [show o + 1 + i = o + (i + 1) by omega]; exact h (i + 1) (by omega))
    refine ⟨z :: l, by simp [h1], fun j hj => ?_⟩
    match j, hj with
    | 0, _ => exact hz
    | j + 1, hj =>
      have := h2 j (by simpa using hj)
      rw [show o + 1 + j = o + (j + 1) by omega] at this
      simpa using this

theorem each_fields {mem : Addr → Option Value} {b : Nat} : ∀ (n o : Nat), (∀ i, i < n → ∃ f : Int × ByteArray × ByteArray, mem ⟨b, (o + i * 3), none⟩ = some (.int .i64 f.1) ∧ mem ⟨b, (o + i * 3) + 1, none⟩ = some (.string f.2.1) ∧ mem ⟨b, (o + i * 3) + 2, none⟩ = some (.string f.2.2) ∧ f.2.2.size ≤ big) → ∃ l : List (Int × ByteArray × ByteArray), l.length = n ∧ FieldsAt mem l b o
  | 0, o, _ => ⟨[], rfl, by unfold FieldsAt; trivial⟩
  | n + 1, o, h => by
    obtain ⟨s, hs⟩ := h 0 (by omega)
    obtain ⟨l, h1, h2⟩ := each_fields n (o + 3) (fun i hi => by rw [show o + 3 + i * 3 = o + (i + 1) * 3 by omega]; exact h (i + 1) (by omega))
    rw [Nat.zero_mul] at hs
    exact ⟨s :: l, by simp [h1], by unfold FieldsAt; exact ⟨hs, h2⟩⟩
theorem each_lists {mem : Addr → Option Value} {b : Nat} : ∀ (n o : Nat), (∀ i, i < n → ∃ f : Int × ByteArray × ByteArray × List Int, mem ⟨b, (o + i * 4), none⟩ = some (.int .i64 f.1) ∧ mem ⟨b, (o + i * 4) + 1, none⟩ = some (.string f.2.1) ∧ mem ⟨b, (o + i * 4) + 2, none⟩ = some (.string f.2.2.1) ∧ ∃ v, mem ⟨b, (o + i * 4) + 3, none⟩ = some v ∧ IntsM mem v f.2.2.2) → ∃ l : List (Int × ByteArray × ByteArray × List Int), l.length = n ∧ ListsAt mem l b o
  | 0, o, _ => ⟨[], rfl, by unfold ListsAt; trivial⟩
  | n + 1, o, h => by
    obtain ⟨s, hs⟩ := h 0 (by omega)
    obtain ⟨l, h1, h2⟩ := each_lists n (o + 4) (fun i hi => by rw [show o + 4 + i * 4 = o + (i + 1) * 4 by omega]; exact h (i + 1) (by omega))
    rw [Nat.zero_mul] at hs
    exact ⟨s :: l, by simp [h1], by unfold ListsAt; exact ⟨hs, h2⟩⟩
theorem each_snips {mem : Addr → Option Value} {b : Nat} : ∀ (n o : Nat), (∀ i, i < n → ∃ f : ByteArray × List Node, mem ⟨b, (o + i * 2), none⟩ = some (.string f.1) ∧ ∃ v b' o', mem ⟨b, (o + i * 2) + 1, none⟩ = some v ∧ SliceOf v f.2.length b' o' ∧ NodesAt mem f.2 b' o') → ∃ l : List (ByteArray × List Node), l.length = n ∧ SnipsAt mem l b o
  | 0, o, _ => ⟨[], rfl, by unfold SnipsAt; trivial⟩
  | n + 1, o, h => by
    obtain ⟨s, hs⟩ := h 0 (by omega)
    obtain ⟨l, h1, h2⟩ := each_snips n (o + 2) (fun i hi => by rw [show o + 2 + i * 2 = o + (i + 1) * 2 by omega]; exact h (i + 1) (by omega))
    rw [Nat.zero_mul] at hs
    exact ⟨s :: l, by simp [h1], by unfold SnipsAt; exact ⟨hs, h2⟩⟩

section
variable {H : Type} {enc : TypeId × Value → H} {W : World} {base : Nat} {spare : Nat → Bool} {held : Bool}
theorem cells9 : Tryd.prog.cellsOf 9 = 1 := by kernel_rfl
theorem cells3 : Tryd.prog.cellsOf 3 = 1 := by kernel_rfl
theorem string_arg {fuel : Nat} {v : Value} {x : DataW H × List MemPlace} (h : DataW.trod enc Tryd.prog W base spare held fuel 9 [v] = some x) (hb : Rows.uptoBulk x.1 ≤ 1048576) : ∃ s : ByteArray, v = .string s ∧ s.size ≤ 1048576 := by
  obtain ⟨s, h1, h2, _⟩ := DataW.trod_string Tryd.underlying9 h
  injection h1 with h1 _
  rw [h2] at hb
  simp only [Rows.uptoBulk, size_list] at hb
  exact ⟨s, h1, by omega⟩
theorem int_arg {fuel : Nat} {v : Value} {x : DataW H × List MemPlace} (h : DataW.trod enc Tryd.prog W base spare held fuel 3 [v] = some x) : ∃ n : Int, v = .int .i64 n := by
  obtain ⟨n, h1, _, _⟩ := DataW.trod_int Tryd.underlying3 h
  injection h1 with h1 _
  exact ⟨n, h1⟩
theorem strs_arg {fuel : Nat} {v : Value} {x : DataW H × List MemPlace} (h : DataW.trod enc Tryd.prog W base spare held fuel 44 [v] = some x) (hb : Rows.uptoBulk x.1 ≤ 1048576) :
    ∃ (l : List ByteArray) (b o : Nat), l.length ≤ 1048576 ∧ SliceOf v l.length b o ∧ StrsAt (fun a => W.cell? a) l b o := by
  rcases open_ones Tryd.underlying44 cells9 h with ⟨h0, _⟩ | ⟨a, len, cap, Ds, rest, hcs, hl, hx, hlen, hsp, hi⟩
  · injection h0 with h0 _
    subst h0
    exact ⟨[], 0, 0, Nat.zero_le _, nilS, strsAt_nil⟩
  · injection hcs with hcs _
    subst hcs
    rw [hx] at hb
    have hbl := bulk_len Ds
    simp only [Rows.uptoBulk] at hb
    obtain ⟨l, h1, h2⟩ := each_strs (mem := fun a => W.cell? a) (b := a.block) len a.off (fun i hil => by
      obtain ⟨v, y, m, hc, hd, ht⟩ := hi i hil
      have := bulk_mem _ _ _ hd
      obtain ⟨s, rfl, hs⟩ := string_arg ht (by omega)
      exact ⟨s, hc, by unfold big; omega⟩)
    subst h1
    have hs : l.length ≤ 1048576 := by omega
    exact ⟨l, a.block, a.off, hs, ⟨by unfold big; omega, some a, cap, rfl, hl, fun h0 => by rw [← hsp h0]⟩, h2⟩
theorem ints_arg {fuel : Nat} {v : Value} {x : DataW H × List MemPlace} (h : DataW.trod enc Tryd.prog W base spare held fuel 39 [v] = some x) (hb : Rows.uptoBulk x.1 ≤ 1048576) :
    ∃ (l : List Int), IntsM (fun a => W.cell? a) v l ∧ l.length ≤ 1048576 := by
  rcases open_ones Tryd.underlying39 cells3 h with ⟨h0, _⟩ | ⟨a, len, cap, Ds, rest, hcs, hl, hx, hlen, hsp, hi⟩
  · injection h0 with h0 _
    subst h0
    exact ⟨[], ⟨0, 0, nilS, fun j hj => absurd hj (by simp)⟩, Nat.zero_le _⟩
  · injection hcs with hcs _
    subst hcs
    rw [hx] at hb
    have hbl := bulk_len Ds
    simp only [Rows.uptoBulk] at hb
    obtain ⟨l, h1, h2⟩ := each_ints (mem := fun a => W.cell? a) (b := a.block) len a.off (fun i hil => by
      obtain ⟨v, y, m, hc, hd, ht⟩ := hi i hil
      obtain ⟨n, rfl⟩ := int_arg ht
      exact ⟨n, hc⟩)
    subst h1
    exact ⟨l, ⟨a.block, a.off, ⟨by unfold big; omega, some a, cap, rfl, hl, fun h0 => by rw [← hsp h0]⟩, h2⟩, by omega⟩
theorem one52 : ∃ fs, Tryd.prog.underlying 52 = some (.struct fs) ∧ oneCellFields Tryd.prog fs = true ∧ Tryd.prog.cellsOf 52 = fs.size ∧ fs.size = 8 ∧ (fs.map (·.type)).toList = [3, 9, 9, 9, 3, 44, 22, 22] :=
  ⟨_, Tryd.underlying52, by kernel_rfl, by kernel_rfl, rfl, by simp⟩
theorem nodes_arg : ∀ (fuel : Nat) (v : Value) (x : DataW H × List MemPlace), DataW.trod enc Tryd.prog W base spare held fuel 22 [v] = some x → Rows.uptoBulk x.1 ≤ 1048576 →
    ∃ (l : List Node) (b o : Nat), l.length ≤ 1048576 ∧ SliceOf v l.length b o ∧ NodesAt (fun a => W.cell? a) l b o := by
  intro fuel
  induction fuel using Nat.strongRecOn with
  | ind fuel ih =>
  intro v x h hb
  obtain ⟨fs, hu, hone, hC, h8, hty⟩ := one52
  rcases open_rows Tryd.underlying22 hu hone hC (by omega) h with ⟨h0, _⟩ | ⟨a, len, cap, Ds, rest, hcs, hl, hx, hlen, hsp, hi⟩
  · injection h0 with h0 _
    subst h0
    exact ⟨[], 0, 0, Nat.zero_le _, nilS, nodesAt_nil⟩
  · injection hcs with hcs _
    subst hcs
    rw [hx] at hb
    have hbl := bulk_len Ds
    simp only [Rows.uptoBulk] at hb
    obtain ⟨l, h1, h2⟩ := each_nodes (mem := fun a => W.cell? a) (b := a.block) len a.off (fun i hil => by
      obtain ⟨ys, m, hm, hd, hyl, hf⟩ := hi i hil
      have hbd := bulk_mem _ _ _ hd
      simp only [Rows.uptoBulk] at hbd
      have key : ∀ j t, (fs.map (·.type)).toList[j]? = some t → ∃ (v : Value) (y : DataW H × List MemPlace), W.cell? ⟨a.block, a.off + i * 8 + j, none⟩ = some v ∧ Rows.uptoBulk y.1 ≤ 1048576 ∧ DataW.trod enc Tryd.prog W base spare held m t [v] = some y := fun j t ht => by
        rw [Array.getElem?_toList, Array.getElem?_map, Option.map_eq_some_iff] at ht
        obtain ⟨f, hj, rfl⟩ := ht
        obtain ⟨v, y, c1, c2, c3⟩ := hf j f hj
        have hbm := bulk_mem (ys.map (·.1)) j y.1 (by rw [List.getElem?_map, c2]; rfl)
        rw [h8] at c1
        exact ⟨v, y, by rw [Nat.add_assoc]; exact c1, by omega, c3⟩
      rw [hty] at key
      obtain ⟨v0, y0, c0, _, t0⟩ := key 0 3 rfl
      obtain ⟨v1, y1, c1, b1, t1⟩ := key 1 9 rfl
      obtain ⟨v2, y2, c2, b2, t2⟩ := key 2 9 rfl
      obtain ⟨v3, y3, c3, b3, t3⟩ := key 3 9 rfl
      obtain ⟨v4, y4, c4, _, t4⟩ := key 4 3 rfl
      obtain ⟨v5, y5, c5, b5, t5⟩ := key 5 44 rfl
      obtain ⟨v6, y6, c6, b6, t6⟩ := key 6 22 rfl
      obtain ⟨v7, y7, c7, b7, t7⟩ := key 7 22 rfl
      obtain ⟨kind, rfl⟩ := int_arg t0
      obtain ⟨text, rfl, s1⟩ := string_arg t1 b1
      obtain ⟨name, rfl, s2⟩ := string_arg t2 b2
      obtain ⟨arg, rfl, s3⟩ := string_arg t3 b3
      obtain ⟨count, rfl⟩ := int_arg t4
      obtain ⟨fl, fb, fo, f0, f1, f2⟩ := strs_arg t5 b5
      obtain ⟨kl, kb, ko, _, k1, k2⟩ := ih m hm v6 y6 t6 b6
      obtain ⟨el, eb, eo, _, e1, e2⟩ := ih m hm v7 y7 t7 b7
      refine ⟨.mk kind text name arg count fl kl el, nodeAt_of (fv := v5) (kv := v6) (ev := v7) fb fo kb ko eb eo (fun j hj => ?_) ⟨by unfold big; omega, by unfold big; omega, by unfold big; omega, by omega⟩ f1 f2 k1 k2 e1 e2⟩
      match j, hj with
      | 0, _ => exact c0
      | 1, _ => exact c1
      | 2, _ => exact c2
      | 3, _ => exact c3
      | 4, _ => exact c4
      | 5, _ => exact c5
      | 6, _ => exact c6
      | 7, _ => exact c7)
    subst h1
    exact ⟨l, a.block, a.off, by omega, ⟨by unfold big; omega, some a, cap, rfl, hl, fun h0 => by rw [← hsp h0]⟩, h2⟩
theorem one55 : ∃ fs, Tryd.prog.underlying 55 = some (.struct fs) ∧ oneCellFields Tryd.prog fs = true ∧ Tryd.prog.cellsOf 55 = fs.size ∧ fs.size = 3 ∧ (fs.map (·.type)).toList = [3, 9, 9] :=
  ⟨_, Tryd.underlying55, by kernel_rfl, by kernel_rfl, rfl, by simp⟩
theorem fields_arg {fuel : Nat} {v : Value} {x : DataW H × List MemPlace} (h : DataW.trod enc Tryd.prog W base spare held fuel 23 [v] = some x) (hb : Rows.uptoBulk x.1 ≤ 1048576) :
    ∃ (l : List (Int × ByteArray × ByteArray)), l.length ≤ 1048576 ∧ ∃ b o, SliceOf v l.length b o ∧ FieldsAt (fun a => W.cell? a) l b o := by
  obtain ⟨fs, hu, hone, hC, h8, hty⟩ := one55
  rcases open_rows Tryd.underlying23 hu hone hC (by omega) h with ⟨h0, _⟩ | ⟨a, len, cap, Ds, rest, hcs, hl, hx, hlen, hsp, hi⟩
  · injection h0 with h0 _
    subst h0
    exact ⟨[], Nat.zero_le _, 0, 0, nilS, by unfold FieldsAt; trivial⟩
  · injection hcs with hcs _
    subst hcs
    rw [hx] at hb
    have hbl := bulk_len Ds
    simp only [Rows.uptoBulk] at hb
    obtain ⟨l, h1, h2⟩ := each_fields (mem := fun a => W.cell? a) (b := a.block) len a.off (fun i hil => by
      obtain ⟨ys, m, hm, hd, hyl, hf⟩ := hi i hil
      have hbd := bulk_mem _ _ _ hd
      simp only [Rows.uptoBulk] at hbd
      have key : ∀ j t, (fs.map (·.type)).toList[j]? = some t → ∃ (v : Value) (y : DataW H × List MemPlace), W.cell? ⟨a.block, a.off + i * 3 + j, none⟩ = some v ∧ Rows.uptoBulk y.1 ≤ 1048576 ∧ DataW.trod enc Tryd.prog W base spare held m t [v] = some y := fun j t ht => by
        rw [Array.getElem?_toList, Array.getElem?_map, Option.map_eq_some_iff] at ht
        obtain ⟨f, hj, rfl⟩ := ht
        obtain ⟨v, y, c1, c2, c3⟩ := hf j f hj
        have hbm := bulk_mem (ys.map (·.1)) j y.1 (by rw [List.getElem?_map, c2]; rfl)
        rw [h8] at c1
        exact ⟨v, y, by rw [Nat.add_assoc]; exact c1, by omega, c3⟩
      rw [hty] at key
      obtain ⟨v0, y0, c0, _, t0⟩ := key 0 3 rfl
      obtain ⟨v1, y1, c1, b1, t1⟩ := key 1 9 rfl
      obtain ⟨v2, y2, c2, b2, t2⟩ := key 2 9 rfl
      obtain ⟨id, rfl⟩ := int_arg t0
      obtain ⟨name, rfl, s1⟩ := string_arg t1 b1
      obtain ⟨text, rfl, s2⟩ := string_arg t2 b2
      exact ⟨(id, name, text), c0, c1, c2, by show text.size ≤ 1099511627776; omega⟩)
    subst h1
    exact ⟨l, by omega, a.block, a.off, ⟨by unfold big; omega, some a, cap, rfl, hl, fun h0 => by rw [← hsp h0]⟩, h2⟩
theorem one50 : ∃ fs, Tryd.prog.underlying 50 = some (.struct fs) ∧ oneCellFields Tryd.prog fs = true ∧ Tryd.prog.cellsOf 50 = fs.size ∧ fs.size = 4 ∧ (fs.map (·.type)).toList = [3, 9, 9, 39] :=
  ⟨_, Tryd.underlying50, by kernel_rfl, by kernel_rfl, rfl, by simp⟩
theorem lists_arg {fuel : Nat} {v : Value} {x : DataW H × List MemPlace} (h : DataW.trod enc Tryd.prog W base spare held fuel 24 [v] = some x) (hb : Rows.uptoBulk x.1 ≤ 1048576) :
    ∃ (l : List (Int × ByteArray × ByteArray × List Int)), l.length ≤ 1048576 ∧ ∃ b o, SliceOf v l.length b o ∧ ListsAt (fun a => W.cell? a) l b o := by
  obtain ⟨fs, hu, hone, hC, h8, hty⟩ := one50
  rcases open_rows Tryd.underlying24 hu hone hC (by omega) h with ⟨h0, _⟩ | ⟨a, len, cap, Ds, rest, hcs, hl, hx, hlen, hsp, hi⟩
  · injection h0 with h0 _
    subst h0
    exact ⟨[], Nat.zero_le _, 0, 0, nilS, by unfold ListsAt; trivial⟩
  · injection hcs with hcs _
    subst hcs
    rw [hx] at hb
    have hbl := bulk_len Ds
    simp only [Rows.uptoBulk] at hb
    obtain ⟨l, h1, h2⟩ := each_lists (mem := fun a => W.cell? a) (b := a.block) len a.off (fun i hil => by
      obtain ⟨ys, m, hm, hd, hyl, hf⟩ := hi i hil
      have hbd := bulk_mem _ _ _ hd
      simp only [Rows.uptoBulk] at hbd
      have key : ∀ j t, (fs.map (·.type)).toList[j]? = some t → ∃ (v : Value) (y : DataW H × List MemPlace), W.cell? ⟨a.block, a.off + i * 4 + j, none⟩ = some v ∧ Rows.uptoBulk y.1 ≤ 1048576 ∧ DataW.trod enc Tryd.prog W base spare held m t [v] = some y := fun j t ht => by
        rw [Array.getElem?_toList, Array.getElem?_map, Option.map_eq_some_iff] at ht
        obtain ⟨f, hj, rfl⟩ := ht
        obtain ⟨v, y, c1, c2, c3⟩ := hf j f hj
        have hbm := bulk_mem (ys.map (·.1)) j y.1 (by rw [List.getElem?_map, c2]; rfl)
        rw [h8] at c1
        exact ⟨v, y, by rw [Nat.add_assoc]; exact c1, by omega, c3⟩
      rw [hty] at key
      obtain ⟨v0, y0, c0, _, t0⟩ := key 0 3 rfl
      obtain ⟨v1, y1, c1, b1, t1⟩ := key 1 9 rfl
      obtain ⟨v2, y2, c2, b2, t2⟩ := key 2 9 rfl
      obtain ⟨v3, y3, c3, b3, t3⟩ := key 3 39 rfl
      obtain ⟨id, rfl⟩ := int_arg t0
      obtain ⟨name, rfl, s1⟩ := string_arg t1 b1
      obtain ⟨arg, rfl, s2⟩ := string_arg t2 b2
      obtain ⟨ids, hids, _⟩ := ints_arg t3 b3
      exact ⟨(id, name, arg, ids), c0, c1, c2, v3, c3, hids⟩)
    subst h1
    exact ⟨l, by omega, a.block, a.off, ⟨by unfold big; omega, some a, cap, rfl, hl, fun h0 => by rw [← hsp h0]⟩, h2⟩
theorem one63 : ∃ fs, Tryd.prog.underlying 63 = some (.struct fs) ∧ oneCellFields Tryd.prog fs = true ∧ Tryd.prog.cellsOf 63 = fs.size ∧ fs.size = 2 ∧ (fs.map (·.type)).toList = [9, 22] :=
  ⟨_, Tryd.underlying63, by kernel_rfl, by kernel_rfl, rfl, by simp⟩
theorem snips_arg {fuel : Nat} {v : Value} {x : DataW H × List MemPlace} (h : DataW.trod enc Tryd.prog W base spare held fuel 25 [v] = some x) (hb : Rows.uptoBulk x.1 ≤ 1048576) :
    ∃ (l : List (ByteArray × List Node)), l.length ≤ 1048576 ∧ ∃ b o, SliceOf v l.length b o ∧ SnipsAt (fun a => W.cell? a) l b o := by
  obtain ⟨fs, hu, hone, hC, h8, hty⟩ := one63
  rcases open_rows Tryd.underlying25 hu hone hC (by omega) h with ⟨h0, _⟩ | ⟨a, len, cap, Ds, rest, hcs, hl, hx, hlen, hsp, hi⟩
  · injection h0 with h0 _
    subst h0
    exact ⟨[], Nat.zero_le _, 0, 0, nilS, by unfold SnipsAt; trivial⟩
  · injection hcs with hcs _
    subst hcs
    rw [hx] at hb
    have hbl := bulk_len Ds
    simp only [Rows.uptoBulk] at hb
    obtain ⟨l, h1, h2⟩ := each_snips (mem := fun a => W.cell? a) (b := a.block) len a.off (fun i hil => by
      obtain ⟨ys, m, hm, hd, hyl, hf⟩ := hi i hil
      have hbd := bulk_mem _ _ _ hd
      simp only [Rows.uptoBulk] at hbd
      have key : ∀ j t, (fs.map (·.type)).toList[j]? = some t → ∃ (v : Value) (y : DataW H × List MemPlace), W.cell? ⟨a.block, a.off + i * 2 + j, none⟩ = some v ∧ Rows.uptoBulk y.1 ≤ 1048576 ∧ DataW.trod enc Tryd.prog W base spare held m t [v] = some y := fun j t ht => by
        rw [Array.getElem?_toList, Array.getElem?_map, Option.map_eq_some_iff] at ht
        obtain ⟨f, hj, rfl⟩ := ht
        obtain ⟨v, y, c1, c2, c3⟩ := hf j f hj
        have hbm := bulk_mem (ys.map (·.1)) j y.1 (by rw [List.getElem?_map, c2]; rfl)
        rw [h8] at c1
        exact ⟨v, y, by rw [Nat.add_assoc]; exact c1, by omega, c3⟩
      rw [hty] at key
      obtain ⟨v0, y0, c0, b0, t0⟩ := key 0 9 rfl
      obtain ⟨v1, y1, c1, b1, t1⟩ := key 1 22 rfl
      obtain ⟨name, rfl, s1⟩ := string_arg t0 b0
      obtain ⟨nl, nb, no, _, n1, n2⟩ := nodes_arg m v1 y1 t1 b1
      exact ⟨(name, nl), c0, v1, nb, no, c1, n1, n2⟩)
    subst h1
    exact ⟨l, by omega, a.block, a.off, ⟨by unfold big; omega, some a, cap, rfl, hl, fun h0 => by rw [← hsp h0]⟩, h2⟩
end
end Go.Proofs.YtlkaikopjjmneaaDoor

/-
  WHAT IS PROVED HERE: append to a row that a call itself has made, with the word on where the result lies: in the same block or in a new one. Conditions: sizes up to 2^46.
-/
import Derived.Test.YtlkaikopjjmneaaDoorOwn
import Derived.ArgAppend
namespace Go.Proofs.YtlkaikopjjmneaaDoor
open Go.RowKit

theorem ok_inj {α : Type} {a b : α} {w w' : World} (h : Result.ok a w = Result.ok b w') : a = b ∧ w = w' := by cases h; exact ⟨rfl, rfl⟩
theorem ownsRow_ge {w : World} {base : Nat} {e : TypeId} {size : Nat} {v : Value} {n : Nat} {xs : List Value} (h : w.ownsRow base e size v n xs) : ∀ k, v.ownBlock = some k → base ≤ k := fun k hk => (World.ownsRow.lt h k hk).1
theorem ownsRow_nil_any {w : World} {base : Nat} {e : TypeId} {size n : Nat} {xs : List Value} (B : Nat) (h : w.ownsRow base e size (.slice none 0 0) n xs) : w.ownsRow B e size (.slice none 0 0) n xs := by
  refine ⟨h.1, ?_⟩
  rcases h.2 with h1 | ⟨g, cap, cur, h1, _⟩
  · exact .inl h1
  · cases h1

theorem run_appS_own (w : World) (B ty : Nat) (v : Value) (l : List UInt8) (hown : Row w B v l) (s : ByteArray) (hlen : l.length + s.size ≤ 70368744177664) (hB : B ≤ w.heap.size) :
    ∃ v' w', (Builtin.append_ #[75, 9] ty #[v, .string s]).run Tryd.prog w = .ok v' w' ∧ Row w' B v' (l ++ s.data.toList) ∧ w.grownBy w' v.ownBlock ∧ ∀ k, v'.ownBlock = some k → v.ownBlock = some k ∨ w.heap.size ≤ k := by
  obtain ⟨i0, hi, hz0, hz1, hz2⟩ := info_parts info5
  obtain ⟨v', w', hr, h2, h3, _⟩ := Lib.run_append_own_string (P := Tryd.prog) w B 75 9 ty 5 i0 Tryd.underlying75 Tryd.underlying9 hi hz0 hz1 hz2 v l.length (l.map byteV) hown s (by unfold maxLen; omega) (by omega) hB
  refine ⟨v', w', hr, ?_, h3, ?_⟩
  · unfold Row
    rw [List.length_append, size_list, List.map_append]
    exact h2
  · intro k hk
    rcases hown.2 with ⟨rfl, _⟩ | ⟨g, cap, cur, rfl, hbg, hg, hnc, hcm, hcs, htake⟩
    · obtain ⟨v2, w2, hr2, h22, _, _⟩ := Lib.run_append_own_string (P := Tryd.prog) w w.heap.size 75 9 ty 5 i0 Tryd.underlying75 Tryd.underlying9 hi hz0 hz1 hz2 _ l.length (l.map byteV) (ownsRow_nil_any _ hown) s (by unfold maxLen; omega) (by omega) (Nat.le_refl _)
      obtain ⟨rfl, rfl⟩ := ok_inj (hr.symm.trans hr2)
      exact .inr (ownsRow_ge h22 k hk)
    · by_cases hroom : l.length + s.size ≤ cap
      · have hr2 := Lib.run_append_room_string (P := Tryd.prog) w 75 9 ty 5 i0 Tryd.underlying75 Tryd.underlying9 hi hz1 g l.length cap cur hg s hroom (by omega)
        obtain ⟨rfl, _⟩ := ok_inj (hr.symm.trans hr2)
        exact .inl hk
      · have holds : ∀ j u, (l.map byteV)[j]? = some u → w.cell? ((⟨g, 0, none⟩ : Addr).add j) = some u := World.ownsRow.cells hown (g := g) rfl
        have hr2 := Lib.run_append_grow_string (P := Tryd.prog) w 75 9 ty 5 i0 (.int .u8 0) Tryd.underlying75 Tryd.underlying9 hi hz0 ⟨g, 0, none⟩ l.length cap (l.map byteV) (by rw [hz1]; simp) holds s (by omega) (by omega) (by rw [hz2]; exact growslice_fits (by omega) (by omega))
        obtain ⟨rfl, _⟩ := ok_inj (hr.symm.trans hr2)
        right
        simp [Value.ownBlock] at hk
        omega

theorem wpList_appS2 {ops : Array Oper} {rest : List Oper} {o : Oper} {a : Act} {w : World} {Q : Exit → Act → World → Prop} (hgd : o.guard = none) (s x : Operand) (ho : o.op = .call { callee := .builtin .append, args := #[s, x], argTypes := #[75, 9] })
    (B : Nat) (v : Value) (l : List UInt8) (hs : a.eval s = v) (hown : Row w B v l) (t : ByteArray) (hx : a.eval x = .string t)
    (hlen : l.length + t.size ≤ 70368744177664) (hB : B ≤ w.heap.size)
    (h : ∀ v' w', Row w' B v' (l ++ t.data.toList) → w.grownBy w' v.ownBlock → (∀ k, v'.ownBlock = some k → v.ownBlock = some k ∨ w.heap.size ≤ k) → wpList Tryd.prog ops Q rest (a.put o.dst v') w') : wpList Tryd.prog ops Q (o :: rest) a w := by
  refine wpList_plain hgd fun K hK => ?_
  obtain ⟨v', w', hr, h2, h3, h4⟩ := run_appS_own w B o.type v l hown t hlen hB
  unfold Oper.wp execOp
  simp only [ho, resolve, invoke, builtin, Sem.run_bind, Sem.run_pure, Result.andThen_ok, List.map_toArray, List.map_cons, List.map_nil, hs, hx, hr]
  exact hK _ _ (h v' w' h2 h3 h4)

/-- append of elements, with the word on where the result lies -/
theorem run_app_own (w : World) (B t ty e : Nat) (i : TypeInfo) (z : Value) (size bytes : Nat) (ht : Tryd.prog.underlying t = some (.slice e)) (hi : Tryd.prog.info? e = some i) (hz : i.zero = some z)
    (hsize : i.size = size) (hby : i.bytes = bytes) (hzs : z.cells.size = size) (hsz : 0 < size)
    (v : Value) (n : Nat) (xs : List Value) (hown : w.ownsRow B e size v n xs)
    (a : Addr) (m c : Nat) (news : List Value) (hl : news.length = m * size) (hnews : ∀ j u, news[j]? = some u → w.cell? (a.add j) = some u) (h1 : ∀ u ∈ news, u.oneCell' = true)
    (h63 : n + m ≤ maxLen) (hbytes : (n + m) * bytes ≤ 140737488355328) (hB : B ≤ w.heap.size) :
    ∃ v' w', (Builtin.append_ #[t, t] ty #[v, .slice (some a) m c]).run Tryd.prog w = .ok v' w' ∧ w'.ownsRow B e size v' (n + m) (xs ++ news) ∧ w.grownBy w' v.ownBlock ∧ ∀ k, v'.ownBlock = some k → v.ownBlock = some k ∨ w.heap.size ≤ k := by
  obtain ⟨v', w', hr, h2, h3, _⟩ := run_append_own (P := Tryd.prog) w B t ty e i z size bytes ht hi hz hsize hby hzs hsz v n xs hown a m c news hl hnews h1 h63 hbytes hB
  refine ⟨v', w', hr, h2, h3, ?_⟩
  intro k hk
  rcases hown.2 with ⟨rfl, _⟩ | ⟨g, cap, cur, rfl, hbg, hg, hnc, hcm, hcs, htake⟩
  · obtain ⟨v2, w2, hr2, h22, _, _⟩ := run_append_own (P := Tryd.prog) w w.heap.size t ty e i z size bytes ht hi hz hsize hby hzs hsz _ n xs (ownsRow_nil_any _ hown) a m c news hl hnews h1 h63 hbytes (Nat.le_refl _)
    obtain ⟨rfl, rfl⟩ := ok_inj (hr.symm.trans hr2)
    exact .inr (ownsRow_ge h22 k hk)
  · by_cases hroom : n + m ≤ cap
    · obtain ⟨w2, hr2, _, _⟩ := run_append_fits (P := Tryd.prog) w B t ty e i size ht hi hsize g n cap xs hown a m c news hl hnews h1 hroom
      obtain ⟨rfl, _⟩ := ok_inj (hr.symm.trans hr2)
      exact .inl hk
    · have holds : ∀ j u, xs[j]? = some u → w.cell? ((⟨g, 0, none⟩ : Addr).add j) = some u := World.ownsRow.cells hown (g := g) rfl
      obtain ⟨v2, w2, hr2, h22, _⟩ := run_append_arg_grows (P := Tryd.prog) w t ty e i z size bytes ht hi hz hsize hby hzs hsz ⟨g, 0, none⟩ n cap xs hown.1 holds a m c news hl hnews (by omega) h63 hbytes
      obtain ⟨rfl, rfl⟩ := ok_inj (hr.symm.trans hr2)
      exact .inr (ownsRow_ge h22 k hk)
theorem wpList_app_own {ops : Array Oper} {rest : List Oper} {o : Oper} {a : Act} {w : World} {Q : Exit → Act → World → Prop} (hgd : o.guard = none) (s x : Operand) (t : TypeId)
    (ho : o.op = .call { callee := .builtin .append, args := #[s, x], argTypes := #[t, t] })
    (B e : Nat) (i : TypeInfo) (z : Value) (size bytes : Nat) (ht : Tryd.prog.underlying t = some (.slice e)) (hi : Tryd.prog.info? e = some i) (hz : i.zero = some z)
    (hsize : i.size = size) (hby : i.bytes = bytes) (hzs : z.cells.size = size) (hsz : 0 < size)
    (v : Value) (n : Nat) (xs : List Value) (hs : a.eval s = v) (hown : w.ownsRow B e size v n xs)
    (ad : Addr) (m c : Nat) (news : List Value) (hx : a.eval x = .slice (some ad) m c) (hl : news.length = m * size) (hnews : ∀ j u, news[j]? = some u → w.cell? (ad.add j) = some u) (h1 : ∀ u ∈ news, u.oneCell' = true)
    (h63 : n + m ≤ maxLen) (hbytes : (n + m) * bytes ≤ 140737488355328) (hB : B ≤ w.heap.size)
    (h : ∀ v' w', w'.ownsRow B e size v' (n + m) (xs ++ news) → w.grownBy w' v.ownBlock → (∀ k, v'.ownBlock = some k → v.ownBlock = some k ∨ w.heap.size ≤ k) → wpList Tryd.prog ops Q rest (a.put o.dst v') w') : wpList Tryd.prog ops Q (o :: rest) a w := by
  refine wpList_plain hgd fun K hK => ?_
  obtain ⟨v', w', hr, h2, h3, h4⟩ := run_app_own w B t o.type e i z size bytes ht hi hz hsize hby hzs hsz v n xs hown ad m c news hl hnews h1 h63 hbytes hB
  unfold Oper.wp execOp
  simp only [ho, resolve, invoke, builtin, Sem.run_bind, Sem.run_pure, Result.andThen_ok, List.map_toArray, List.map_cons, List.map_nil, hs, hx, hr]
  exact hK _ _ (h v' w' h2 h3 h4)
end Go.Proofs.YtlkaikopjjmneaaDoor

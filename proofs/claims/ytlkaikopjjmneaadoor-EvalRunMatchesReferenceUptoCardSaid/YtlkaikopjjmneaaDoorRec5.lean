/-
  WHAT IS PROVED HERE: the recording source meets what the evaluation asks of a source; eval.Run over it; the making of such a source. Conditions: the sizes that it keeps.
-/
import Derived.Test.YtlkaikopjjmneaaDoorRec4
namespace Go.Proofs.YtlkaikopjjmneaaDoor
open Go.RowKit

theorem listA_len (d : Dat) (id : Int) (name arg : ByteArray) (n : Int) : (listA d id name arg n).length ≤ 10 := by
  unfold listA
  cases (d.lists.take 40).find? _ with
  | none => simp
  | some f => simp; omega
theorem fieldA_len (d : Dat) (id : Int) (name : ByteArray) : ((fieldA d id name).getD ⟨#[]⟩).size ≤ 500 := by
  unfold fieldA
  cases (d.fields.take 40).find? _ with
  | none => exact Nat.zero_le _
  | some f =>
    show (f.2.2.extract 0 (min f.2.2.size 500)).size ≤ 500
    rw [ByteArray.size_extract]
    omega
theorem rec_ok {base : Nat} {mem : Addr → Option Value} {R : Nat} {dF dL dS : Value} {d : Dat} (hd : DatAt mem d dF dL dS) :
    SrcOK 73 72 80 (recOps d) base mem (.pointer (some ⟨R, 0, none⟩)) (fun F w s => RecI base mem R dF dL dS F w s) List.length where
  lt := fun h => h.ltF
  keep := fun h hu hG => h.keep hu hG
  field := fun id name h hB hc hn => rec_field hd h hB hc id name hn
  field_cnt := fun s id name => by simp [recOps]
  field_len := fun s id name => fieldA_len d id name
  list := fun id name arg n h hB hc hn ha => rec_list hd h hB hc id name arg n hn ha
  list_cnt := fun s id name arg n => by simp [recOps]
  list_len := fun s id name arg n => by have := listA_len d id name arg n; show (listA d id name arg n).length ≤ 2000; omega
  incl := fun name h hB hc hn => rec_incl hd h hB hc name hn
  incl_cnt := fun s name => by simp [recOps]

/-- all memory of a world but one block -/
def memOf (w : World) (R : Nat) : Addr → Option Value := fun a => if a.block = R then none else w.cell? a
theorem memOf_of {w : World} {R : Nat} {a : Addr} {v : Value} (h : w.cell? a = some v) (hn : a.block ≠ R) : memOf w R a = some v := by
  unfold memOf; rw [if_neg hn, h]
theorem memOf_some {w : World} {R : Nat} {a : Addr} {v : Value} (h : memOf w R a = some v) : w.cell? a = some v ∧ a.block ≠ R := by
  unfold memOf at h
  split at h
  · cases h
  · exact ⟨h, by assumption⟩
theorem rec_start {w : World} {R : Nat} {dF dL dS : Value} {d : Dat} (hR : w.heap[R]? = some (.cells #[dF, dL, dS, .slice none 0 0] 37 (0, 0))) (hd : DatAt (memOf w R) d dF dL dS) (ht : Tab w) (h2 : 2 < R) :
    Start (recOps d) (memOf w R) R (fun F w' s => RecI w.heap.size (memOf w R) R dF dL dS F w' s) List.length (fun k => k = R) [] w where
  ok := rec_ok hd
  src := by
    refine ⟨⟨.slice none 0 0, [], hR, World.ownsRow_nil _ _ _ _, rfl, ?_, ?_⟩, ⟨blk_lt hR, Nat.le_refl _⟩, fun a v h => (memOf_some h).1, fun a v h => ⟨World.block_lt_of_cell? w a (memOf_some h).1, (memOf_some h).2⟩⟩
    · intro c hc
      cases hc
    · intro k
      refine ⟨Or.inl, fun h => ?_⟩
      rcases h with h | h | ⟨c, hc, _⟩
      · exact h
      · cases h
      · cases hc
  cnt0 := rfl
  sees := fun a v h => (memOf_some h).1
  memF := fun a v h => ⟨World.block_lt_of_cell? w a (memOf_some h).1, (memOf_some h).2⟩
  tab := ht
  tabF := ⟨by have := blk_lt hR; omega, by omega⟩
/-- eval.Run over a recording source that is new -/
theorem run_rec {w : World} {R : Nat} {dF dL dS : Value} {d : Dat} (hR : w.heap[R]? = some (.cells #[dF, dL, dS, .slice none 0 0] 37 (0, 0))) (hd : DatAt (memOf w R) d dF dL dS) (ht : Tab w) (h2 : 2 < R)
    (l : List Node) (v : Value) (b o : Nat) (hl : SliceOf v l.length b o) (hn : NodesAt (memOf w R) l b o) (id : Int) :
    Calls Tryd.prog 16 #[v, .iface 29 (.pointer (some ⟨R, 0, none⟩)), .int .i64 id] w (RunPost (fun F w' s => RecI w.heap.size (memOf w R) R dF dL dS F w' s) (fun k => k = R) w (runF (recOps d) l [] id)) :=
  run_any (rec_start hR hd ht h2) l v b o hl hn id

theorem StrsAt.mono {mem mem' : Addr → Option Value} (h : ∀ a v, mem a = some v → mem' a = some v) : ∀ {l : List ByteArray} {b o : Nat}, StrsAt mem l b o → StrsAt mem' l b o
  | [], _, _, _ => trivial
  | s :: r, b, o, hl => by
    unfold StrsAt at hl ⊢
    exact ⟨⟨h _ _ hl.1.1, hl.1.2⟩, StrsAt.mono h hl.2⟩
mutual
theorem NodeAt.mono {mem mem' : Addr → Option Value} (h : ∀ a v, mem a = some v → mem' a = some v) : ∀ {n : Node} {b o : Nat}, NodeAt mem n b o → NodeAt mem' n b o
  | .mk kind text name arg count filters kids els, b, o, hl => by
    unfold NodeAt at hl ⊢
    obtain ⟨⟨a0, a1, a2, a3, a4⟩, hs, ⟨v1, b1, o1, x1, y1, z1⟩, ⟨v2, b2, o2, x2, y2, z2⟩, ⟨v3, b3, o3, x3, y3, z3⟩⟩ := hl
    exact ⟨⟨h _ _ a0, h _ _ a1, h _ _ a2, h _ _ a3, h _ _ a4⟩, hs, ⟨v1, b1, o1, h _ _ x1, y1, StrsAt.mono h z1⟩, ⟨v2, b2, o2, h _ _ x2, y2, NodesAt.mono h z2⟩, ⟨v3, b3, o3, h _ _ x3, y3, NodesAt.mono h z3⟩⟩
theorem NodesAt.mono {mem mem' : Addr → Option Value} (h : ∀ a v, mem a = some v → mem' a = some v) : ∀ {l : List Node} {b o : Nat}, NodesAt mem l b o → NodesAt mem' l b o
  | [], _, _, _ => by unfold NodesAt; trivial
  | n :: r, b, o, hl => by
    unfold NodesAt at hl ⊢
    exact ⟨NodeAt.mono h hl.1, NodesAt.mono h hl.2⟩
end
theorem FieldsAt.mono {mem mem' : Addr → Option Value} (h : ∀ a v, mem a = some v → mem' a = some v) : ∀ {l : List (Int × ByteArray × ByteArray)} {b o : Nat}, FieldsAt mem l b o → FieldsAt mem' l b o
  | [], _, _, _ => by unfold FieldsAt; trivial
  | s :: r, b, o, hl => by
    unfold FieldsAt at hl ⊢
    obtain ⟨⟨a1, a2, a3, a4⟩, hr⟩ := hl
    exact ⟨⟨h _ _ a1, h _ _ a2, h _ _ a3, a4⟩, FieldsAt.mono h hr⟩
theorem IntsM.mono {mem mem' : Addr → Option Value} (h : ∀ a v, mem a = some v → mem' a = some v) {v : Value} {l : List Int} (hl : IntsM mem v l) : IntsM mem' v l := by
  obtain ⟨b, o, h1, h2⟩ := hl
  exact ⟨b, o, h1, fun j hj => h _ _ (h2 j hj)⟩
theorem ListsAt.mono {mem mem' : Addr → Option Value} (h : ∀ a v, mem a = some v → mem' a = some v) : ∀ {l : List (Int × ByteArray × ByteArray × List Int)} {b o : Nat}, ListsAt mem l b o → ListsAt mem' l b o
  | [], _, _, _ => by unfold ListsAt; trivial
  | s :: r, b, o, hl => by
    unfold ListsAt at hl ⊢
    obtain ⟨⟨a1, a2, a3, v, a4, a5⟩, hr⟩ := hl
    exact ⟨⟨h _ _ a1, h _ _ a2, h _ _ a3, v, h _ _ a4, a5.mono h⟩, ListsAt.mono h hr⟩
theorem SnipsAt.mono {mem mem' : Addr → Option Value} (h : ∀ a v, mem a = some v → mem' a = some v) : ∀ {l : List (ByteArray × List Node)} {b o : Nat}, SnipsAt mem l b o → SnipsAt mem' l b o
  | [], _, _, _ => by unfold SnipsAt; trivial
  | s :: r, b, o, hl => by
    unfold SnipsAt at hl ⊢
    obtain ⟨⟨a1, v, b', o', a2, a3, a4⟩, hr⟩ := hl
    exact ⟨⟨h _ _ a1, v, b', o', h _ _ a2, a3, a4.mono h⟩, SnipsAt.mono h hr⟩
theorem DatAt.mono {mem mem' : Addr → Option Value} (h : ∀ a v, mem a = some v → mem' a = some v) {d : Dat} {dF dL dS : Value} (hd : DatAt mem d dF dL dS) : DatAt mem' d dF dL dS := by
  obtain ⟨⟨b1, o1, x1, y1⟩, ⟨b2, o2, x2, y2⟩, ⟨b3, o3, x3, y3⟩⟩ := hd
  exact ⟨⟨b1, o1, x1, y1.mono h⟩, ⟨b2, o2, x2, y2.mono h⟩, ⟨b3, o3, x3, y3.mono h⟩⟩

set_option maxHeartbeats 400000 in
theorem source_any (dF dL dS : Value) (w : World) : Calls Tryd.prog 15 #[.agg #[dF, dL, dS]] w fun e w' => e = .returned (.pointer (some ⟨w.heap.size + 1, 0, none⟩)) ∧ (w.alloc (.cells #[dF, dL, dS] 27)).alloc (.cells #[dF, dL, dS, .slice none 0 0] 37) = w' := by
  go_enter Tryd.func15, Tryd.ntmps15
  go_wp2
  go_ret
  exact ⟨rfl, rfl⟩
end Go.Proofs.YtlkaikopjjmneaaDoor

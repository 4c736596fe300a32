/-
  WHAT IS PROVED HERE: the three methods of the replaying source meet what the evaluation asks of a source. Conditions: the sizes that it keeps.
-/
import Derived.Test.YtlkaikopjjmneaaDoorRpn
namespace Go.Proofs.YtlkaikopjjmneaaDoor
open Go.RowKit

theorem repNext_good {s : List ACall × Bool} (h : ∀ c ∈ s.1, GoodC c) (q : ACall) : GoodC (repNext s q).1 := by
  obtain ⟨l, b⟩ := s
  cases l with
  | nil => exact ⟨Nat.zero_le _, Nat.zero_le _⟩
  | cons d r =>
    by_cases hs : sameC q d = true
    · rw [repNext_same hs]; exact h d List.mem_cons_self
    · rw [repNext_diff hs]; exact ⟨Nat.zero_le _, Nat.zero_le _⟩
section
variable {base : Nat} {mem : Addr → Option Value} {R : Nat} {F : Nat → Prop} {w : World} {s : List ACall × Bool}
/-- what a method does with the answer -/
structure NextGot (base : Nat) (mem : Addr → Option Value) (R : Nat) (F : Nat → Prop) (w : World) (q : ACall) (s : List ACall × Bool) (c : ACall) (ia na : Option Addr) (ic nc : Nat) (w2 : World) : Prop where
  ans : (repNext s q).1 = c
  good : GoodC c
  ids : IntsM mem (.slice ia c.ids.length ic) c.ids
  nodes : ∃ b' o', SliceOf (.slice na c.nodes.length nc) c.nodes.length b' o' ∧ NodesAt mem c.nodes b' o'
  inv : RepI base mem R F w2 (repNext s q).2
  upd : Upd F w w2
theorem next_got (h : RepI base mem R F w s) (q : ACall) (qi qn : Value) : Calls Tryd.prog 119 #[.pointer (some ⟨R, 0, none⟩), .agg (cCells q qi qn).toArray] w fun e w' =>
    ∃ c ia na ic nc, e = .returned (.agg #[.int .i64 c.meth, .int .i64 c.id, .string c.name, .string c.arg, .int .i64 c.n, .string c.text, .slice ia c.ids.length ic, .slice na c.nodes.length nc, .bool c.ok]) ∧ Hid (NextGot base mem R F w q s c ia na ic nc w') := by
  have hg := repNext_good h.good q
  refine (next_any h q qi qn).mono ?_
  rintro e w' ⟨iv, nv, rfl, hiv, hnv, hI, hU⟩
  obtain ⟨ib, io, ⟨hi1, ia, ic, rfl, hi2⟩, hi3⟩ := hiv
  obtain ⟨nb, no, ⟨hn1, na, nc, rfl, hn2⟩, hn3⟩ := hnv
  exact ⟨(repNext s q).1, ia, na, ic, nc, rfl, Lib.hid ⟨rfl, hg, ⟨ib, io, ⟨hi1, ia, ic, rfl, hi2⟩, hi3⟩, ⟨nb, no, ⟨hn1, na, nc, rfl, hn2⟩, hn3⟩, hI, hU⟩⟩
set_option maxRecDepth 100000 in
set_option maxHeartbeats 1000000 in
theorem rep_field (h : RepI base mem R F w s) (id : Int) (name : ByteArray) :
    Calls Tryd.prog 116 #[.pointer (some ⟨R, 0, none⟩), .int .i64 id, .string name] w (SrcPost (fun F w s => RepI base mem R F w s) F w (fun _ v => v = .tuple #[.string (repOps.field s id name).1.1, .bool (repOps.field s id name).1.2]) (repOps.field s id name).2) := by
  have HG := Lib.hid (next_got h (askC 1 id name ⟨#[]⟩ 0) (.slice none 0 0) (.slice none 0 0))
  clear h
  go_enter Tryd.func116, Tryd.ntmps116
  go_wp2_with (go_at_call 119; (refine HG.out.mono ?_); rintro e w2 ⟨c, ia, na, ic, nc, rfl, HN⟩)
  go_quiet (fail)
  go_wp2_with fail
  go_ret2
  obtain ⟨rfl, hg, hi, hn, hI, hU⟩ := HN.out
  refine ⟨_, F, rfl, ?_, hI.keep (((Upd.refl (fun _ => False) _).alloc _).drewN _) (fun _ f => f.elim), (hU.alloc _).drewN _, fun k f => .inl f⟩
  unfold repOps
  simp only []
  rw [if_pos hg.1]
  rfl
set_option maxRecDepth 100000 in
set_option maxHeartbeats 1000000 in
theorem rep_incl (h : RepI base mem R F w s) (name : ByteArray) :
    Calls Tryd.prog 117 #[.pointer (some ⟨R, 0, none⟩), .string name] w (SrcPost (fun F w s => RepI base mem R F w s) F w (fun _ v => ∃ lv b o, v = .tuple #[lv, .bool (repOps.incl s name).1.2] ∧ SliceOf lv (repOps.incl s name).1.1.length b o ∧ NodesAt mem (repOps.incl s name).1.1 b o) (repOps.incl s name).2) := by
  have HG := Lib.hid (next_got h (askC 3 0 name ⟨#[]⟩ 0) (.slice none 0 0) (.slice none 0 0))
  clear h
  go_enter Tryd.func117, Tryd.ntmps117
  go_wp2_with (go_at_call 119; (refine HG.out.mono ?_); rintro e w2 ⟨c, ia, na, ic, nc, rfl, HN⟩)
  go_quiet (fail)
  go_wp2_with fail
  go_ret2
  obtain ⟨rfl, hg, hi, ⟨b, o, hn1, hn2⟩, hI, hU⟩ := HN.out
  exact ⟨_, F, rfl, ⟨_, b, o, rfl, hn1, hn2⟩, hI.keep (((Upd.refl (fun _ => False) _).alloc _).drewN _) (fun _ f => f.elim), (hU.alloc _).drewN _, fun k f => .inl f⟩
theorem field_ids (m i n : Int) (s t u : ByteArray) (ia na : Option Addr) (k c l d : Nat) (b : Bool) (w : World) : (Instr.field 41 (.agg #[.int .i64 m, .int .i64 i, .string s, .string t, .int .i64 n, .string u, .slice ia k c, .slice na l d, .bool b]) 6).run Tryd.prog w = .ok (.slice ia k c) w := by kernel_rfl
set_option maxRecDepth 100000 in
set_option maxHeartbeats 1000000 in
theorem rep_listw (h : RepI base mem R F w s) (id : Int) (name arg : ByteArray) (n : Int) :
    Calls Tryd.prog 118 #[.pointer (some ⟨R, 0, none⟩), .int .i64 id, .string name, .string arg, .int .i64 n] w (SrcPost (fun F w s => RepI base mem R F w s) F w (fun w' v => IntsAt w' v (repOps.list s id name arg n).1) (repOps.list s id name arg n).2) := by
  have HG := Lib.hid (next_got h (askC 2 id name arg n) (.slice none 0 0) (.slice none 0 0))
  have hfld := field_ids
  clear h
  go_enter Tryd.func118, Tryd.ntmps118
  go_wp2_with (go_at_call 119; (refine HG.out.mono ?_); rintro e w2 ⟨c, ia, na, ic, nc, rfl, HN⟩)
  go_ret
  obtain ⟨rfl, hg, ⟨b, o, hi1, hi2⟩, hn, hI, hU⟩ := HN.out
  refine ⟨_, F, rfl, ?_, hI, hU, fun k f => .inl f⟩
  unfold repOps
  simp only []
  rw [if_pos hg.2]
  exact ⟨b, o, hi1, fun j hj => hI.sees _ _ (hi2 j hj)⟩
end
theorem repNext_nogood (s : List ACall × Bool) (id : Int) (name : ByteArray) : ((repOps.field s id name).1.1).size ≤ 500 := by
  show (if (repNext s (askC 1 id name ⟨#[]⟩ 0)).1.text.size ≤ 500 then (repNext s (askC 1 id name ⟨#[]⟩ 0)).1.text else ⟨#[]⟩).size ≤ 500
  split
  · assumption
  · exact Nat.zero_le _
theorem rep_ok {base : Nat} {mem : Addr → Option Value} {R : Nat} : SrcOK 116 118 117 repOps base mem (.pointer (some ⟨R, 0, none⟩)) (fun F w s => RepI base mem R F w s) (fun _ => 0) where
  lt := fun {F w s} h k hk => by have := h.lt; have := (h.foot k).1 hk; omega
  keep := fun h hu hG => h.keep hu hG
  field := fun id name h _ _ _ => rep_field h id name
  field_cnt := fun _ _ _ => Nat.zero_le _
  field_len := fun s id name => repNext_nogood s id name
  list := fun id name arg n h _ _ _ _ => rep_listw h id name arg n
  list_cnt := fun _ _ _ _ _ => Nat.zero_le _
  list_len := fun s id name arg n => by
    show (if (repNext s (askC 2 id name arg n)).1.ids.length ≤ 2000 then (repNext s (askC 2 id name arg n)).1.ids else []).length ≤ 2000
    split
    · assumption
    · exact Nat.zero_le _
  incl := fun name h _ _ _ => rep_incl h name
  incl_cnt := fun _ _ => Nat.zero_le _
end Go.Proofs.YtlkaikopjjmneaaDoor

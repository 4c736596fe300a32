/-
  WHAT IS PROVED HERE: plain: an evaluation over a source that replays the recorded calls, against the one that recorded them. No program. No condition.
-/
import Derived.Test.YtlkaikopjjmneaaDoorPln2
import Derived.Test.YtlkaikopjjmneaaDoorRec5
namespace Go.Proofs.YtlkaikopjjmneaaDoor

def sameC (c d : ACall) : Bool := decide (c.meth = d.meth) && decide (c.id = d.id) && decide (c.name = d.name) && decide (c.arg = d.arg) && decide (c.n = d.n)
theorem sameC_of {c d : ACall} (h1 : c.meth = d.meth) (h2 : c.id = d.id) (h3 : c.name = d.name) (h4 : c.arg = d.arg) (h5 : c.n = d.n) : sameC c d = true := by
  unfold sameC
  simp [h1, h2, h3, h4, h5]
/-- a question: the fields that hold no answer -/
def askC (meth id : Int) (name arg : ByteArray) (n : Int) : ACall := { meth := meth, id := id, name := name, arg := arg, n := n, text := ⟨#[]⟩, ids := [], nodes := [], ok := false }
def repNext (s : List ACall × Bool) (c : ACall) : ACall × (List ACall × Bool) :=
  match s.1 with
  | [] => (askC 0 0 ⟨#[]⟩ ⟨#[]⟩ 0, ([], true))
  | d :: r => if sameC c d then (d, (r, s.2)) else (askC 0 0 ⟨#[]⟩ ⟨#[]⟩ 0, (d :: r, true))
def repOps : Ops (List ACall × Bool) where
  field s id name := ((if (repNext s (askC 1 id name ⟨#[]⟩ 0)).1.text.size ≤ 500 then (repNext s (askC 1 id name ⟨#[]⟩ 0)).1.text else ⟨#[]⟩, (repNext s (askC 1 id name ⟨#[]⟩ 0)).1.ok), (repNext s (askC 1 id name ⟨#[]⟩ 0)).2)
  list s id name arg n := (if (repNext s (askC 2 id name arg n)).1.ids.length ≤ 2000 then (repNext s (askC 2 id name arg n)).1.ids else [], (repNext s (askC 2 id name arg n)).2)
  incl s name := (((repNext s (askC 3 0 name ⟨#[]⟩ 0)).1.nodes, (repNext s (askC 3 0 name ⟨#[]⟩ 0)).1.ok), (repNext s (askC 3 0 name ⟨#[]⟩ 0)).2)
theorem repNext_same {c d : ACall} (h : sameC c d = true) (r : List ACall) (b : Bool) : repNext (d :: r, b) c = (d, (r, b)) := by
  unfold repNext
  simp only [h, if_true]

def GoodC (c : ACall) : Prop := c.text.size ≤ 500 ∧ c.ids.length ≤ 2000
def RepAt (k : Nat) (A : St (List ACall) → Int × St (List ACall)) (B : St (List ACall × Bool) → Int × St (List ACall × Bool)) : Prop :=
  ∀ a : St (List ACall), a.steps ≤ 2000 → ∃ t, (A a).2.src = a.src ++ t ∧ t.length + a.steps ≤ (A a).2.steps + k ∧ (A a).2.steps ≤ 2000 ∧ (∀ c ∈ t, GoodC c) ∧
    ∀ rest, B { out := a.out, steps := a.steps, src := (t ++ rest, false) } = ((A a).1, { out := (A a).2.out, steps := (A a).2.steps, src := (rest, false) })
theorem RepAt.mono {j k : Nat} {A : St (List ACall) → Int × St (List ACall)} {B : St (List ACall × Bool) → Int × St (List ACall × Bool)} (h : RepAt j A B) (hjk : j ≤ k) : RepAt k A B := fun a ha => by
  obtain ⟨t, h1, h2, h3⟩ := h a ha
  exact ⟨t, h1, by omega, h3⟩
/-- nothing is asked, nothing changes -/
theorem rep_quiet (n : Int) : RepAt 0 (fun a => (n, a)) (fun b => (n, b)) := fun a ha => ⟨[], by simp, by simp, ha, fun c hc => (List.not_mem_nil hc).elim, fun rest => rfl⟩
theorem rep_put (s : List UInt8) : RepAt 0 (putF s) (putF s) := fun a ha => by
  refine ⟨[], ?_, ?_, ?_, fun c hc => (List.not_mem_nil hc).elim, fun rest => ?_⟩
  · unfold putF; split <;> simp
  · unfold putF; split <;> simp
  · unfold putF; split <;> exact ha
  · show putF s { out := a.out, steps := a.steps, src := (rest, false) } = _
    unfold putF
    by_cases h : 8192 < a.out.length + s.length
    · simp only [h, if_true]
    · simp only [h, if_false]
theorem rep_then {k : Nat} {A A' : St (List ACall) → Int × St (List ACall)} {B B' : St (List ACall × Bool) → Int × St (List ACall × Bool)} (h : RepAt k A B) (h' : RepAt 0 A' B') : RepAt k (fun a => andThen (A a) A') (fun b => andThen (B b) B') := fun a ha => by
  obtain ⟨t, h1, h2, h3, h4, h5⟩ := h a ha
  by_cases h0 : (A a).1 = 0
  · obtain ⟨t', k1, k2, k3, k4, k5⟩ := h' (A a).2 h3
    refine ⟨t ++ t', ?_, ?_, ?_, fun c hc => ?_, fun rest => ?_⟩
    · simp only [andThen, h0, if_true]; rw [k1, h1, List.append_assoc]
    · simp only [andThen, h0, if_true]; rw [List.length_append]; omega
    · simp only [andThen, h0, if_true]; exact k3
    · rcases List.mem_append.1 hc with hc | hc
      · exact h4 c hc
      · exact k4 c hc
    · simp only []
      rw [List.append_assoc, h5]
      simp only [andThen, h0, if_true]
      exact k5 rest
  · refine ⟨t, ?_, ?_, ?_, h4, fun rest => ?_⟩
    · simp only [andThen, h0, if_false]; exact h1
    · simp only [andThen, h0, if_false]; exact h2
    · simp only [andThen, h0, if_false]; exact h3
    · simp only []
      rw [h5]
      simp only [andThen, h0, if_false]
/-- a call, and what follows it -/
theorem rep_ask {A : St (List ACall) → Int × St (List ACall)} {B : St (List ACall × Bool) → Int × St (List ACall × Bool)} (h : RepAt 0 A B) (c : ACall) (hc : GoodC c) (a : St (List ACall)) (ha : a.steps ≤ 2000) :
    ∃ t, (A { a with src := a.src ++ [c] }).2.src = a.src ++ (c :: t) ∧ (c :: t).length + a.steps ≤ (A { a with src := a.src ++ [c] }).2.steps + 1 ∧ (A { a with src := a.src ++ [c] }).2.steps ≤ 2000 ∧ (∀ x ∈ c :: t, GoodC x) ∧
      ∀ rest, B { out := a.out, steps := a.steps, src := (t ++ rest, false) } = ((A { a with src := a.src ++ [c] }).1, { out := (A { a with src := a.src ++ [c] }).2.out, steps := (A { a with src := a.src ++ [c] }).2.steps, src := (rest, false) }) := by
  obtain ⟨t, h1, h2, h3, h4, h5⟩ := h { a with src := a.src ++ [c] } ha
  refine ⟨t, ?_, ?_, h3, fun x hx => ?_, fun rest => h5 rest⟩
  · rw [h1]; simp
  · simp only [List.length_cons] at h2 ⊢; omega
  · rcases List.mem_cons.1 hx with rfl | hx
    · exact hc
    · exact h4 x hx
def cField (d : Dat) (id : Int) (name : ByteArray) : ACall := { meth := 1, id := id, name := name, arg := ⟨#[]⟩, n := 0, text := (fieldA d id name).getD ⟨#[]⟩, ids := [], nodes := [], ok := (fieldA d id name).isSome }
def cList (d : Dat) (id : Int) (name arg : ByteArray) (n : Int) : ACall := { meth := 2, id := id, name := name, arg := arg, n := n, text := ⟨#[]⟩, ids := listA d id name arg n, nodes := [], ok := false }
def cIncl (d : Dat) (name : ByteArray) : ACall := { meth := 3, id := 0, name := name, arg := ⟨#[]⟩, n := 0, text := ⟨#[]⟩, ids := [], nodes := (inclA d name).getD [], ok := (inclA d name).isSome }
theorem good_field (d : Dat) (id : Int) (name : ByteArray) : GoodC (cField d id name) := ⟨fieldA_len d id name, Nat.zero_le _⟩
theorem good_list (d : Dat) (id : Int) (name arg : ByteArray) (n : Int) : GoodC (cList d id name arg n) := ⟨Nat.zero_le _, by have := listA_len d id name arg n; show (listA d id name arg n).length ≤ 2000; omega⟩
theorem good_incl (d : Dat) (name : ByteArray) : GoodC (cIncl d name) := ⟨Nat.zero_le _, Nat.zero_le _⟩
theorem rep_fieldR (d : Dat) (id : Int) (name : ByteArray) (r : List ACall) : repOps.field (cField d id name :: r, false) id name = (((fieldA d id name).getD ⟨#[]⟩, (fieldA d id name).isSome), (r, false)) := by
  unfold repOps
  simp only []
  rw [repNext_same (c := askC 1 id name ⟨#[]⟩ 0) (d := cField d id name) (sameC_of rfl rfl rfl rfl rfl)]
  simp only []
  rw [if_pos (good_field d id name).1]
  rfl
theorem rep_listR (d : Dat) (id : Int) (name arg : ByteArray) (n : Int) (r : List ACall) : repOps.list (cList d id name arg n :: r, false) id name arg n = (listA d id name arg n, (r, false)) := by
  unfold repOps
  simp only []
  rw [repNext_same (c := askC 2 id name arg n) (d := cList d id name arg n) (sameC_of rfl rfl rfl rfl rfl)]
  simp only []
  rw [if_pos (good_list d id name arg n).2]
  rfl
theorem rep_inclR (d : Dat) (name : ByteArray) (r : List ACall) : repOps.incl (cIncl d name :: r, false) name = (((inclA d name).getD [], (inclA d name).isSome), (r, false)) := by
  unfold repOps
  simp only []
  rw [repNext_same (c := askC 3 0 name ⟨#[]⟩ 0) (d := cIncl d name) (sameC_of rfl rfl rfl rfl rfl)]
  rfl
/-- a call of Field and what follows -/
theorem rep_byField (d : Dat) (id : Int) (name : ByteArray) {F : ByteArray × Bool → St (List ACall) → Int × St (List ACall)} {G : ByteArray × Bool → St (List ACall × Bool) → Int × St (List ACall × Bool)} (h : ∀ r, RepAt 0 (F r) (G r)) :
    RepAt 1 (fun st => F ((recOps d).field st.src id name).1 { st with src := ((recOps d).field st.src id name).2 }) (fun st => G (repOps.field st.src id name).1 { st with src := (repOps.field st.src id name).2 }) := fun a ha => by
  obtain ⟨t, h1, h2, h3, h4, h5⟩ := rep_ask (h ((fieldA d id name).getD ⟨#[]⟩, (fieldA d id name).isSome)) (cField d id name) (good_field d id name) a ha
  refine ⟨cField d id name :: t, h1, h2, h3, h4, fun rest => ?_⟩
  simp only [List.cons_append]
  rw [rep_fieldR]
  exact h5 rest
theorem rep_byList (d : Dat) (id : Int) (name arg : ByteArray) (n : Int) {F : List Int → St (List ACall) → Int × St (List ACall)} {G : List Int → St (List ACall × Bool) → Int × St (List ACall × Bool)} (h : ∀ r, RepAt 0 (F r) (G r)) :
    RepAt 1 (fun st => F ((recOps d).list st.src id name arg n).1 { st with src := ((recOps d).list st.src id name arg n).2 }) (fun st => G (repOps.list st.src id name arg n).1 { st with src := (repOps.list st.src id name arg n).2 }) := fun a ha => by
  obtain ⟨t, h1, h2, h3, h4, h5⟩ := rep_ask (h (listA d id name arg n)) (cList d id name arg n) (good_list d id name arg n) a ha
  refine ⟨cList d id name arg n :: t, h1, h2, h3, h4, fun rest => ?_⟩
  simp only [List.cons_append]
  rw [rep_listR]
  exact h5 rest
theorem rep_byIncl (d : Dat) (name : ByteArray) {F : List Node × Bool → St (List ACall) → Int × St (List ACall)} {G : List Node × Bool → St (List ACall × Bool) → Int × St (List ACall × Bool)} (h : ∀ r, RepAt 0 (F r) (G r)) :
    RepAt 1 (fun st => F ((recOps d).incl st.src name).1 { st with src := ((recOps d).incl st.src name).2 }) (fun st => G (repOps.incl st.src name).1 { st with src := (repOps.incl st.src name).2 }) := fun a ha => by
  obtain ⟨t, h1, h2, h3, h4, h5⟩ := rep_ask (h ((inclA d name).getD [], (inclA d name).isSome)) (cIncl d name) (good_incl d name) a ha
  refine ⟨cIncl d name :: t, h1, h2, h3, h4, fun rest => ?_⟩
  simp only [List.cons_append]
  rw [rep_inclR]
  exact h5 rest
theorem RepAt.congr {k : Nat} {A A' : St (List ACall) → Int × St (List ACall)} {B B' : St (List ACall × Bool) → Int × St (List ACall × Bool)} (h : RepAt k A B) (ha : ∀ a, A' a = A a) (hb : ∀ b, B' b = B b) : RepAt k A' B' := by
  obtain rfl : A' = A := funext ha
  obtain rfl : B' = B := funext hb
  exact h

theorem rep_ids {f : Int → St (List ACall) → Int × St (List ACall)} {g : Int → St (List ACall × Bool) → Int × St (List ACall × Bool)} (h : ∀ i, RepAt 0 (f i) (g i)) : ∀ l, RepAt 0 (seqIds f l) (seqIds g l)
  | [] => rep_quiet 0
  | i :: r => (rep_then (h i) (rep_ids h r)).congr (fun _ => rfl) (fun _ => rfl)
mutual
theorem rep_node (d : Dat) {inc : ByteArray → Int → St (List ACall) → Int × St (List ACall)} {inc' : ByteArray → Int → St (List ACall × Bool) → Int × St (List ACall × Bool)} (hinc : ∀ name id, RepAt 1 (inc name id) (inc' name id)) :
    ∀ (n : Node) (id : Int), RepAt 1 (evNode (recOps d) inc n id) (evNode repOps inc' n id)
  | .mk kind text name arg count filters kids els, id => by
    by_cases k1 : kind = 1
    · exact ((rep_put text.data.toList).mono (Nat.zero_le _)).congr (fun a => by unfold evNode; rw [if_pos k1]) (fun a => by unfold evNode; rw [if_pos k1])
    by_cases k2 : kind = 2
    · refine (rep_byField d id name (F := fun r st => if r.2 then (match runFilters filters r.1 with | some s => putF s.data.toList st | none => (110, st)) else (110, st)) (G := fun r st => if r.2 then (match runFilters filters r.1 with | some s => putF s.data.toList st | none => (110, st)) else (110, st)) (fun r => ?_)).congr
        (fun a => by unfold evNode; rw [if_neg k1, if_pos k2]; rfl) (fun a => by unfold evNode; rw [if_neg k1, if_pos k2]; rfl)
      cases r.2 with
      | false => exact (rep_quiet 110).congr (fun a => rfl) (fun a => rfl)
      | true =>
        cases runFilters filters r.1 with
        | none => exact (rep_quiet 110).congr (fun a => rfl) (fun a => rfl)
        | some s => exact (rep_put s.data.toList).congr (fun a => rfl) (fun a => rfl)
    by_cases k3 : kind = 3
    · refine (rep_byList d id name arg count (F := fun r st => if r = [] then evList (recOps d) inc els id st else if kids.isEmpty then (0, st) else seqIds (fun i s => evList (recOps d) inc kids i s) r st) (G := fun r st => if r = [] then evList repOps inc' els id st else if kids.isEmpty then (0, st) else seqIds (fun i s => evList repOps inc' kids i s) r st) (fun r => ?_)).congr
        (fun a => by unfold evNode; rw [if_neg k1, if_neg k2, if_pos k3]) (fun a => by unfold evNode; rw [if_neg k1, if_neg k2, if_pos k3])
      by_cases hr : r = []
      · exact (rep_list d hinc els id).congr (fun a => if_pos hr) (fun a => if_pos hr)
      · by_cases hk : kids.isEmpty = true
        · exact (rep_quiet 0).congr (fun a => by rw [if_neg hr, if_pos hk]) (fun a => by rw [if_neg hr, if_pos hk])
        · exact (rep_ids (fun i => rep_list d hinc kids i) r).congr (fun a => by rw [if_neg hr, if_neg hk]) (fun a => by rw [if_neg hr, if_neg hk])
    by_cases k4 : kind = 4
    · refine (rep_byField d id name (F := fun r st => if r.2 && !r.1.data.toList.isEmpty then evList (recOps d) inc kids id st else evList (recOps d) inc els id st) (G := fun r st => if r.2 && !r.1.data.toList.isEmpty then evList repOps inc' kids id st else evList repOps inc' els id st) (fun r => ?_)).congr
        (fun a => by unfold evNode; rw [if_neg k1, if_neg k2, if_neg k3, if_pos k4]) (fun a => by unfold evNode; rw [if_neg k1, if_neg k2, if_neg k3, if_pos k4])
      by_cases hr : (r.2 && !r.1.data.toList.isEmpty) = true
      · exact (rep_list d hinc kids id).congr (fun a => if_pos hr) (fun a => if_pos hr)
      · exact (rep_list d hinc els id).congr (fun a => if_neg hr) (fun a => if_neg hr)
    by_cases k5 : kind = 5
    · exact (hinc name id).congr (fun a => by unfold evNode; rw [if_neg k1, if_neg k2, if_neg k3, if_neg k4, if_pos k5]) (fun a => by unfold evNode; rw [if_neg k1, if_neg k2, if_neg k3, if_neg k4, if_pos k5])
    · exact ((rep_quiet 110).mono (Nat.zero_le _)).congr (fun a => by unfold evNode; rw [if_neg k1, if_neg k2, if_neg k3, if_neg k4, if_neg k5]) (fun a => by unfold evNode; rw [if_neg k1, if_neg k2, if_neg k3, if_neg k4, if_neg k5])
theorem rep_list (d : Dat) {inc : ByteArray → Int → St (List ACall) → Int × St (List ACall)} {inc' : ByteArray → Int → St (List ACall × Bool) → Int × St (List ACall × Bool)} (hinc : ∀ name id, RepAt 1 (inc name id) (inc' name id)) :
    ∀ (l : List Node) (id : Int), RepAt 0 (evList (recOps d) inc l id) (evList repOps inc' l id)
  | [], id => (rep_quiet 0).congr (fun a => by rw [evList]) (fun a => by rw [evList])
  | n :: r, id => fun a ha => by
    by_cases hs : 2000 ≤ a.steps
    · obtain ⟨t, h1, h2, h3, h4, h5⟩ := rep_quiet 111 a ha
      rw [evList, if_pos hs]
      refine ⟨t, h1, h2, h3, h4, fun rest => ?_⟩
      rw [evList, if_pos hs]
      exact h5 rest
    · obtain ⟨t, h1, h2, h3, h4, h5⟩ := rep_then (rep_node d hinc n id) (rep_list d hinc r id) { a with steps := a.steps + 1 } (by show a.steps + 1 ≤ 2000; omega)
      rw [evList, if_neg hs]
      refine ⟨t, h1, by simp only [] at h2; exact Nat.le_of_succ_le_succ (by have := h2; show t.length + a.steps + 1 ≤ _; exact this), h3, h4, fun rest => ?_⟩
      rw [evList, if_neg hs]
      exact h5 rest
end
theorem rep_incF (d : Dat) : ∀ k : Nat, (∀ name id, RepAt 1 (incF (recOps d) k name id) (incF repOps k name id)) ∧ ∀ l id, RepAt 0 (evD (recOps d) k l id) (evD repOps k l id)
  | 0 => by
    have h1 : ∀ name id, RepAt 1 (incF (recOps d) 0 name id) (incF repOps 0 name id) := fun name id => ((rep_quiet 111).mono (Nat.zero_le _)).congr (fun a => rfl) (fun a => rfl)
    exact ⟨h1, fun l id => by rw [evD_eq, evD_eq]; exact rep_list d h1 l id⟩
  | k + 1 => by
    have ih := (rep_incF d k).2
    have h1 : ∀ name id, RepAt 1 (incF (recOps d) (k + 1) name id) (incF repOps (k + 1) name id) := fun name id => by
      refine (rep_byIncl d name (F := fun r st => if r.2 then evD (recOps d) k r.1 id st else (110, st)) (G := fun r st => if r.2 then evD repOps k r.1 id st else (110, st)) (fun r => ?_)).congr (fun a => rfl) (fun a => rfl)
      cases r.2 with
      | false => exact (rep_quiet 110).congr (fun a => rfl) (fun a => rfl)
      | true => exact (ih r.1 id).congr (fun a => rfl) (fun a => rfl)
    exact ⟨h1, fun l id => by rw [evD_eq, evD_eq]; exact rep_list d h1 l id⟩
/-- the whole -/
theorem rep_run (d : Dat) (l : List Node) (id : Int) : (runF (recOps d) l [] id).2.length ≤ 2000 ∧ (∀ c ∈ (runF (recOps d) l [] id).2, GoodC c) ∧ runF repOps l ((runF (recOps d) l [] id).2, false) id = ((runF (recOps d) l [] id).1, ([], false)) := by
  obtain ⟨t, h1, h2, h3, h4, h5⟩ := (rep_incF d 3).2 l id { out := [], steps := 0, src := [] } (by simp)
  have h6 := h5 []
  rw [List.append_nil] at h6
  have hsrc : (runF (recOps d) l [] id).2 = t := by
    unfold runF
    simp only []
    split <;> simpa using h1
  rw [hsrc]
  refine ⟨by simp only [] at h2; omega, h4, ?_⟩
  unfold runF
  simp only [h6]
  by_cases h0 : (evD (recOps d) 3 l id { out := [], steps := 0, src := [] }).1 = 0
  · simp only [h0, if_true]
  · simp only [h0, if_false]
end Go.Proofs.YtlkaikopjjmneaaDoor

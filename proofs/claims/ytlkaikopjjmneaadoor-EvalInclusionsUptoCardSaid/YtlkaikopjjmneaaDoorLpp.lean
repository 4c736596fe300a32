/-
  WHAT IS PROVED HERE: plain: what a loop outputs against what its nodes output for each ID. No program. Condition: the source's answers hang on the question alone.
-/
import Derived.Test.YtlkaikopjjmneaaDoorCat
namespace Go.Proofs.YtlkaikopjjmneaaDoor

section
variable {S : Type} {ops : Ops S} (h : Plain ops) (kids : List Node) (src : S)
def idsOut (ops : Ops S) (kids : List Node) (src : S) (ids : List Int) : List UInt8 := ids.flatMap fun i => (runF ops kids src i).1.1
def idsOk (ops : Ops S) (kids : List Node) (src : S) (ids : List Int) : Prop := ∀ i ∈ ids, (runF ops kids src i).1.2 = 0
theorem seq_start (h : Plain ops) : ∀ (ids : List Int) (st : St S), (seqIds (fun i s => evD ops 3 kids i s) ids st).1 = 111 ∨
    ((seqIds (fun i s => evD ops 3 kids i s) ids st).1 = 0 ∧ idsOk ops kids src ids ∧ (seqIds (fun i s => evD ops 3 kids i s) ids st).2.out = st.out ++ idsOut ops kids src ids) ∨
    ((seqIds (fun i s => evD ops 3 kids i s) ids st).1 ≠ 0 ∧ ¬ idsOk ops kids src ids)
  | [], st => by
    refine .inr (.inl ⟨rfl, ?_, ?_⟩)
    · intro i hi
      cases hi
    · show st.out = st.out ++ idsOut ops kids src []
      simp [idsOut]
  | i :: r, st => by
    have hs := sim_start h kids i src st
    unfold seqIds
    generalize evD ops 3 kids i st = x at *
    by_cases h0 : x.1 = 0
    · rw [if_pos h0]
      rcases hs with hs | ⟨k1, k2⟩
      · omega
      · rcases seq_start h r x.2 with g | ⟨g1, g2, g3⟩ | ⟨g1, g2⟩
        · exact .inl g
        · refine .inr (.inl ⟨g1, fun j hj => ?_, ?_⟩)
          · rcases List.mem_cons.1 hj with rfl | hj
            · exact k1.symm.trans h0
            · exact g2 j hj
          · rw [g3, k2 h0]
            unfold idsOut
            rw [List.flatMap_cons, List.append_assoc]
        · exact .inr (.inr ⟨g1, fun hok => g2 (fun j hj => hok j (List.mem_cons_of_mem _ hj))⟩)
    · rw [if_neg h0]
      rcases hs with hs | ⟨k1, _⟩
      · exact .inl hs
      · exact .inr (.inr ⟨h0, fun hok => h0 (k1.trans (hok i (List.mem_cons_self)))⟩)
/-- a loop -/
theorem loop_plain (h : Plain ops) (els : List Node) (name arg : ByteArray) (count id : Int) (ids : List Int) (hids : (ops.list src id name arg count).1 = ids) (nd : Node) (hnd : nd = .mk 3 ⟨#[]⟩ name arg count [] kids els) :
    let r := (runF ops [nd] src id).1
    let ok := if ids = [] then (runF ops els src id).1.2 = 0 else idsOk ops kids src ids
    let want := if ids = [] then (runF ops els src id).1.1 else idsOut ops kids src ids
    (r.2 = 0 → ok ∧ r.1 = want) ∧ (r.2 ≠ 0 → r.1 = [] ∧ (¬ ok ∨ r.2 = 111)) := by
  intro r ok want
  have hr : ∀ (y : Int × St S), evD ops 3 [nd] id { out := [], steps := 0, src := src } = andThen y (fun s => (0, s)) → r = (if y.1 = 0 then (y.2.out, 0) else ([], y.1)) := fun y hk => by
    show (runF ops [nd] src id).1 = _
    unfold runF
    rw [hk]
    unfold andThen
    split <;> rename_i h0
    · simp
    · simp [h0]
  have hev : ∀ (y : Int × St S), evNode ops (incF ops 3) nd id { out := [], steps := 0 + 1, src := src } = y → evD ops 3 [nd] id { out := [], steps := 0, src := src } = andThen y (fun s => (0, s)) := fun y hy => by
    rw [evD_cons, if_neg (show ¬ 2000 ≤ 0 by decide)]
    show (if (evNode ops (incF ops 3) nd id { out := [], steps := 0 + 1, src := src }).1 = 0 then _ else _) = _
    rw [hy]
    unfold andThen
    split
    · rw [evD_eq, evList]
    · rfl
  subst hnd
  by_cases he : ids = []
  · have hy := hr _ (hev (evD ops 3 els id { out := [], steps := 1, src := (ops.list src id name arg count).2 }) (by
      unfold evNode
      rw [if_neg (by decide), if_neg (by decide), if_pos rfl]
      simp only []
      rw [hids, if_pos he, evD_eq]))
    have hs := sim_start h els id src { out := [], steps := 1, src := (ops.list src id name arg count).2 }
    have hok : ok = ((runF ops els src id).1.2 = 0) := if_pos he
    have hw : want = (runF ops els src id).1.1 := if_pos he
    rw [hok, hw, hy]
    generalize evD ops 3 els id { out := [], steps := 1, src := (ops.list src id name arg count).2 } = y at *
    by_cases h0 : y.1 = 0
    · rw [if_pos h0]
      rcases hs with hs | ⟨k1, k2⟩
      · omega
      · exact ⟨fun _ => ⟨k1.symm.trans h0, by rw [k2 h0]; rfl⟩, fun z => absurd rfl z⟩
    · rw [if_neg h0]
      refine ⟨fun z => absurd z h0, fun _ => ⟨rfl, ?_⟩⟩
      rcases hs with hs | ⟨k1, _⟩
      · exact .inr hs
      · exact .inl (fun z => h0 (k1.trans z))
  · have hok : ok = idsOk ops kids src ids := if_neg he
    have hw : want = idsOut ops kids src ids := if_neg he
    rw [hok, hw]
    by_cases hk : kids.isEmpty = true
    · have hkn : kids = [] := List.isEmpty_iff.1 hk
      subst hkn
      have hz : ∀ i, (runF ops [] src i).1 = ([], 0) := fun i => by
        unfold runF
        rw [evD_eq, evList]; rfl
      have hy := hr _ (hev (0, { out := [], steps := 1, src := (ops.list src id name arg count).2 }) (by
        unfold evNode
        rw [if_neg (by decide), if_neg (by decide), if_pos rfl]
        simp only []
        rw [hids, if_neg he, if_pos hk]))
      rw [hy, if_pos rfl]
      refine ⟨fun _ => ⟨fun i _ => by rw [hz], ?_⟩, fun z => absurd rfl z⟩
      unfold idsOut
      simp [hz]
    · have hy := hr _ (hev (seqIds (fun i s => evD ops 3 kids i s) ids { out := [], steps := 1, src := (ops.list src id name arg count).2 }) (by
        unfold evNode
        rw [if_neg (by decide), if_neg (by decide), if_pos rfl]
        simp only []
        rw [hids, if_neg he, if_neg hk, evD_eq]))
      have hs := seq_start kids src h ids { out := [], steps := 1, src := (ops.list src id name arg count).2 }
      rw [hy]
      generalize seqIds (fun i s => evD ops 3 kids i s) ids { out := [], steps := 1, src := (ops.list src id name arg count).2 } = y at *
      by_cases h0 : y.1 = 0
      · rw [if_pos h0]
        rcases hs with hs | ⟨_, k1, k2⟩ | ⟨k1, _⟩
        · omega
        · exact ⟨fun _ => ⟨k1, by rw [k2]; rfl⟩, fun z => absurd rfl z⟩
        · exact absurd h0 k1
      · rw [if_neg h0]
        refine ⟨fun z => absurd z h0, fun _ => ⟨rfl, ?_⟩⟩
        rcases hs with hs | ⟨k0, _⟩ | ⟨_, k2⟩
        · exact .inr hs
        · exact absurd k0 h0
        · exact .inl k2
end
end Go.Proofs.YtlkaikopjjmneaaDoor

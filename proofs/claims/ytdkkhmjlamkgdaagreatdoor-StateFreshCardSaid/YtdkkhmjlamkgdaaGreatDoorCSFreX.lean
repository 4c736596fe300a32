/-
  WHAT IS PROVED HERE: a law returns true and leaves its arguments as they were, for all arguments (10 texts joined). Conditions: those of the card.
-/
import Derived.Test.YtdkkhmjlamkgdaaGreatDoorBp6
import Derived.Laws.StructEq
namespace Go.Proofs.YtdkkhmjlamkgdaaGreatDoor
open Go.RowKit Mg Go.Shelf Go.Maps

def isSl : Value → Bool
  | .slice _ _ _ => true
  | _ => false
structure Chg2 (F : Nat → Prop) (W0 wr : World) : Prop where
  upd : Upd (fun b => ¬ F b) W0 wr
  cel : ∀ a u, memFr W0 F a = some u → (∃ u', wr.cell? a = some u' ∧ (isSl u = true → u' = u)) ∧ wr.frozen? a = false
section
variable {F : Nat → Prop} {W0 wr wr' : World}
theorem Chg2.start (F : Nat → Prop) (W0 : World) : Chg2 F W0 W0 := ⟨Upd.refl _ _, fun a u h => ⟨⟨u, memFr_sees _ _ _ _ h, fun _ => rfl⟩, (memFr_lt a _ h).2.2⟩⟩
theorem Chg2.set (h : Chg2 F W0 wr) {a : Addr} {u : Value} (ha : memFr W0 F a = some u) (hu : isSl u = false) (t : Value) : Chg2 F W0 (wr.setCell a t) := by
  refine ⟨h.upd.setCell (.inl (memFr_lt a _ ha).2.1) _, fun b s hb => ?_⟩
  obtain ⟨⟨s2, h2, h3⟩, h4⟩ := h.cel b s hb
  refine ⟨?_, by rw [World.frozen?_setCell]; exact h4⟩
  by_cases e : a = b
  · subst e
    refine ⟨t, sc_same h2, fun q => ?_⟩
    rw [ha] at hb
    injection hb with hb
    rw [hb, q] at hu; cases hu
  · exact ⟨s2, (sc_other e).trans h2, h3⟩
theorem Chg2.bel (h : Chg2 F W0 wr) (hb : Below wr.heap.size wr wr') : Chg2 F W0 wr' := by
  refine ⟨⟨hb.os.trans h.upd.os, hb.tape.trans h.upd.tape, hb.output.trans h.upd.output, Nat.le_trans h.upd.size hb.size, fun k hk hn => (hb.block k (Nat.lt_of_lt_of_le hk h.upd.size)).trans (h.upd.block k hk hn)⟩, fun a u ha => ?_⟩
  obtain ⟨⟨s2, h2, h3⟩, h4⟩ := h.cel a u ha
  exact ⟨⟨s2, sees_bel hb _ _ h2, h3⟩, (World.frozen?_of_block (hb.block _ (World.block_lt_of_cell? _ _ h2))).trans h4⟩
theorem Chg2.sl (h : Chg2 F W0 wr) {a : Addr} {u : Value} (ha : memFr W0 F a = some u) (hu : isSl u = true) : wr.cell? a = some u := by
  obtain ⟨⟨s2, h2, h3⟩, _⟩ := h.cel a u ha
  rw [← h3 hu]; exact h2
theorem Chg2.some_ (h : Chg2 F W0 wr) {a : Addr} {u : Value} (ha : memFr W0 F a = some u) : ∃ u', wr.cell? a = some u' := by
  obtain ⟨⟨s2, h2, h3⟩, _⟩ := h.cel a u ha
  exact ⟨s2, h2⟩
theorem Chg2.free (h : Chg2 F W0 wr) {a : Addr} {u : Value} (ha : memFr W0 F a = some u) : wr.frozen? a = false := (h.cel a u ha).2
theorem Chg2.low (h : Chg2 F W0 wr) {k : Nat} (hk : k < W0.heap.size) (hF : F k) : wr.heap[k]? = W0.heap[k]? := h.upd.block k hk (fun q => q hF)
theorem Chg2.cell (h : Chg2 F W0 wr) {a : Addr} {u : Value} (ha : W0.cell? a = some u) (hF : F a.block) : wr.cell? a = some u := (h.upd.cell (World.block_lt_of_cell? _ _ ha) (fun q => q hF)).trans ha
end
noncomputable def memB (W : World) (lo hi : Nat) (a : Addr) : Option Value := if lo ≤ a.block ∧ a.block < hi then W.cell? a else none
theorem memB_sees {W W' : World} {lo hi : Nat} (h : ∀ k, lo ≤ k → k < hi → W'.heap[k]? = W.heap[k]?) : Sees (memB W lo hi) W' := fun a u e => by
  unfold memB at e
  split at e
  · next q => exact (World.cell?_of_block (h a.block q.1 q.2)).trans e
  · cases e
theorem memB_of_fr {W : World} {lo : Nat} : ∀ a u, memFr W (fun k => k < lo) a = some u → memB W lo W.heap.size a = some u := fun a u h => by
  obtain ⟨h1, h2, _⟩ := memFr_lt a u h
  unfold memB
  rw [if_pos ⟨by omega, h1⟩]
  exact memFr_sees W _ a u h
end Go.Proofs.YtdkkhmjlamkgdaaGreatDoor
namespace Go.Proofs.YtdkkhmjlamkgdaaGreatDoor
open Go.RowKit Mg Go.Shelf Go.Maps

theorem short_law3 {mem : Addr → Option Value} {v : Value} {es : List FctE} (h : EsM mem v es) (w : World) (hs : Sees mem w) :
    Calls Tryz.prog 18 #[v] w (fun e w' => ∃ ra rc fs, e = .returned (.slice ra fs.length rc) ∧ FRow w' w.heap.size (.slice ra fs.length rc) fs ∧ fs.map FctE.f = shortL7 (es.map FctE.f) ∧ (∀ x ∈ fs, x.ok (memSh mem w.heap.size w' (fun k => (Value.slice ra fs.length rc).ownBlock = some k))) ∧ Below w.heap.size w w') :=
  (short_any2 h w hs).mono fun e w' hp => by
    obtain ⟨r, fs, rfl, h1, h2, h3, h4⟩ := hp
    obtain ⟨ra, rc, rfl⟩ := h1.shape
    exact ⟨ra, rc, fs, rfl, h1, h2, h3, h4⟩
def OnePost (mem : Addr → Option Value) (x : FctE) (w : World) (e : Ending) (w' : World) : Prop :=
  ∃ (y : FctE) (g rc : Nat), e = .returned (.slice (some ⟨g, 0, none⟩) 1 rc) ∧ y.f = shortF x.f ∧ y.at (fun a => w'.cell? a) g 0 ∧ y.ok (memSh mem w.heap.size w' (fun _ => False)) ∧ Below w.heap.size w w'
theorem short_one {mem : Addr → Option Value} {v : Value} {x : FctE} (h : EsM mem v [x]) (w : World) (hs : Sees mem w) : Calls Tryz.prog 18 #[v] w (OnePost mem x w) :=
  (short_law3 h w hs).mono fun e w' hp => by
    obtain ⟨ra, rc, fs, rfl, h1, h2, h3, h4⟩ := hp
    have hlen : fs.length = 1 := by
      have := congrArg List.length h2
      rw [List.length_map] at this
      exact this
    have h0 : 0 < fs.length := by omega
    have hm : ∀ F : Nat → Prop, ∀ a u, memSh mem w.heap.size w' F a = some u → memSh mem w.heap.size w' (fun _ => False) a = some u := fun F a u ha => by
      rcases memSh_cases ha with ⟨q1, q2⟩ | ⟨q1, q2⟩
      · exact memSh_low q2 q1
      · exact memSh_new (memNo_of (memNo_get q2).1 (fun q => q)) q1
    have hs' : Sees (memSh mem w.heap.size w' (fun _ => False)) w' := fun a u ha => by
      rcases memSh_cases ha with ⟨q1, q2⟩ | ⟨q1, q2⟩
      · exact (hs.bel h4) a u q2
      · exact (memNo_get q2).1
    obtain ⟨g, cap, hv0, _, _⟩ := frow_some h1 h0
    obtain ⟨va, vc, vb, vo, hv, _, hva, hve⟩ := (h1.es (fun z hz => ((h3 z hz).mono (hm _)).mono (fun a u ha => hs' a u ha))).open_
    have hva := hva h0
    injection hv with hv1 _ _
    injection hv0 with hv2 _ _
    have e1 : vb = g ∧ vo = 0 := by
      have := (hv1.symm.trans hv2)
      rw [hva] at this
      injection this with this
      injection this with q1 q2 q3
      exact ⟨q1, q2⟩
    obtain ⟨e1, e2⟩ := e1
    have hat := (hve 0 h0).2
    rw [e1, e2] at hat
    have hf : fs[0].f = shortF x.f := by
      have h5 : (fs.map FctE.f)[0]? = (shortL7 ([x].map FctE.f))[0]? := by rw [h2]
      rw [List.getElem?_map, List.getElem?_eq_getElem h0] at h5
      exact Option.some.inj h5
    exact ⟨fs[0], g, rc, by rw [hv2, hlen], hf, by simpa using hat, (h3 _ (List.getElem_mem h0)).mono (hm _), h4⟩
structure OwnP (mem : Addr → Option Value) (wr : World) (B : Nat) (v : Value) (x : FctE) : Prop where
  fok : FOK x.f
  tops : StrsM (memFr wr (fun q => q < B ∨ v.ownBlock = some q)) x.tv x.f.topics
  blks : BlksM (memFr wr (fun q => q < B ∨ v.ownBlock = some q)) x.bv x.f.blocks
  aft : IntsM (memNo wr (fun q => v.ownBlock = some q)) x.av x.f.lab.after
theorem OwnP.ok {mem : Addr → Option Value} {wr : World} {B : Nat} {v : Value} {x : FctE} (h : OwnP mem wr B v x) : x.ok (fun a => wr.cell? a) :=
  ⟨h.fok, h.tops.mono (memFr_sees wr _), h.blks.mono (memFr_sees wr _), h.aft.mono (memNo_sees wr _)⟩
structure OwnI (mem : Addr → Option Value) (w0 : World) (es : List FctE) (k : Nat) (v : Value) (wr : World) : Prop where
  bel : Below w0.heap.size w0 wr
  row : ∃ fs, FRow wr w0.heap.size v fs ∧ fs.map FctE.f = ((es.take k).map FctE.f).map shortF ∧ fs.length = k ∧ ∀ x ∈ fs, OwnP mem wr w0.heap.size v x
theorem OwnI.start (mem : Addr → Option Value) (w0 : World) (es : List FctE) : OwnI mem w0 es 0 (.slice none 0 0) w0 := ⟨Below.refl _ _, [], FRow.nil _ _, by rw [List.take_zero]; rfl, rfl, by intro x hx; cases hx⟩
theorem OwnI.snoc {mem : Addr → Option Value} {w0 wo W16 w' : World} {es : List FctE} {k : Nat} {r v' : Value} {xe : FctE} {fs : List FctE} (hs : Sees mem w0) (hbel : Below w0.heap.size w0 wo) (hrow : FRow wo w0.heap.size r fs) (hok : ∀ x ∈ fs, OwnP mem wo w0.heap.size r x) (hb : Below wo.heap.size wo W16)
    (hr' : FRow w' w0.heap.size v' (fs ++ [xe])) (hg : W16.grownBy w' r.ownBlock) (hob : v'.ownBlock = r.ownBlock ∨ v'.ownBlock = some W16.heap.size) (hx : FOK xe.f) (hT : StrsM (memFr W16 (fun k => k < wo.heap.size)) xe.tv xe.f.topics) (hB : BlksM (memFr W16 (fun k => k < wo.heap.size)) xe.bv xe.f.blocks) (hA : IntsM (memSh mem wo.heap.size W16 (fun _ => False)) xe.av xe.f.lab.after)
    (hm : (fs ++ [xe]).map FctE.f = ((es.take (k + 1)).map FctE.f).map shortF) (hl : fs.length = k) : OwnI mem w0 es (k + 1) v' w' := by
  have hge := hrow.ge
  have hsz := hb.size
  have hwo := hbel.size
  have hv : ∀ q, q < W16.heap.size → r.ownBlock ≠ some q → v'.ownBlock ≠ some q := fun q hq hn e => by
    rcases hob with h | h
    · exact hn (h ▸ e)
    · rw [h] at e; injection e with e; omega
  have hm1 : ∀ a u, memFr W16 (fun k => k < wo.heap.size) a = some u → memFr w' (fun q => q < w0.heap.size ∨ v'.ownBlock = some q) a = some u := fun a u e => by
    obtain ⟨h1, h2, h3⟩ := memFr_lt a u e
    have h4 := memFr_sees W16 _ a u e
    have hne : r.ownBlock ≠ some a.block := fun q => by have := (hge _ q).2; omega
    have hblk := hg.block a.block h1 (fun q => hne q.symm)
    refine memFr_of ((World.cell?_of_block hblk).trans h4) ((World.frozen?_of_block hblk).trans h3) (fun q => ?_)
    rcases q with q | q
    · omega
    · exact hv _ h1 hne q
  have hm3 : ∀ a u, memFr wo (fun q => q < w0.heap.size ∨ r.ownBlock = some q) a = some u → memFr w' (fun q => q < w0.heap.size ∨ v'.ownBlock = some q) a = some u := fun a u e => by
    obtain ⟨h1, h2, h3⟩ := memFr_lt a u e
    have h4 := memFr_sees wo _ a u e
    have hne : r.ownBlock ≠ some a.block := fun q => h2 (.inr q)
    have hblk := (hg.block a.block (by omega) (fun q => hne q.symm)).trans (hb.block a.block h1)
    refine memFr_of ((World.cell?_of_block hblk).trans h4) ((World.frozen?_of_block hblk).trans h3) (fun q => ?_)
    rcases q with q | q
    · exact h2 (.inl q)
    · exact hv _ (by omega) hne q
  have hm4 : ∀ a u, memSh mem wo.heap.size W16 (fun _ => False) a = some u → memNo w' (fun q => v'.ownBlock = some q) a = some u := fun a u e => by
    rcases memSh_cases e with ⟨q1, q2⟩ | ⟨q1, q2⟩
    · have h0 := World.block_lt_of_cell? w0 a (hs a u q2)
      have hne : r.ownBlock ≠ some a.block := fun q => by have := (hge _ q).1; omega
      have h5 := (hs.bel hbel) a u q2
      have hblk := (hg.block a.block (by omega) (fun q => hne q.symm)).trans (hb.block a.block q1)
      exact memNo_of ((World.cell?_of_block hblk).trans h5) (hv _ (by omega) hne)
    · have h5 := (memNo_get q2).1
      have h1 := World.block_lt_of_cell? W16 a h5
      have hne : r.ownBlock ≠ some a.block := fun q => by have := (hge _ q).2; omega
      exact memNo_of ((World.cell?_of_block (hg.block a.block h1 (fun q => hne q.symm))).trans h5) (hv _ h1 hne)
  have hm5 : ∀ a u, memNo wo (fun q => r.ownBlock = some q) a = some u → memNo w' (fun q => v'.ownBlock = some q) a = some u := fun a u e => by
    obtain ⟨h1, h2⟩ := memNo_get e
    have h3 := World.block_lt_of_cell? wo a h1
    have hblk := (hg.block a.block (by omega) (fun q => h2 q.symm)).trans (hb.block a.block h3)
    exact memNo_of ((World.cell?_of_block hblk).trans h1) (hv _ (by omega) h2)
  refine ⟨(hbel.trans (hb.mono hbel.size)).grown hg (Nat.le_trans hbel.size hsz) (fun k e => (hge k e).1), fs ++ [xe], hr', hm, by rw [List.length_append, hl]; rfl, fun x hx' => ?_⟩
  rcases List.mem_append.1 hx' with h | h
  · have := hok x h
    exact ⟨this.fok, this.tops.mono hm3, this.blks.mono hm3, this.aft.mono hm5⟩
  · rw [List.mem_singleton.1 h]
    exact ⟨hx, hT.mono hm1, hB.mono hm1, hA.mono hm4⟩
set_option maxRecDepth 100000 in
theorem run_facts_one (a : Option Addr) (len cap : Nat) (k : Nat) (hk : k < cap) (w : World) : (Instr.slice 22 (.slice a len cap) (some (.int .i64 (k : Int))) (some (.int .i64 ((k : Int) + 1))) none).run Tryz.prog w = .ok (.slice (restAt a cap k) 1 (cap - k)) w := by
  obtain ⟨i0, hi0, hz0, hz1, hz2⟩ := info_parts E_fct.inf
  have he : Tryz.prog.elem 22 = 50 := by
    have := E_fct.und
    rw [elem_facts] at this
    injection this with this
    injection this
  rw [run_slice_lh w 22 a len cap elem_facts .i64 .i64 k ((k : Int) + 1) (by omega) (by omega) (by omega), he]
  have e1 : ((k : Int) + 1).toNat - (k : Int).toNat = 1 := by omega
  simp [sizeOf, typeInfo, hi0, sliced, restAt, hz1]
  try omega
theorem EsM.one {mem : Addr → Option Value} {ao : Option Addr} {cap : Nat} {es : List FctE} (h : EsM mem (.slice ao es.length cap) es) (k : Nat) (hk : k < es.length) : EsM mem (.slice (restAt ao cap k) 1 (cap - k)) [es[k]] := by
  have h1 := h.drop k (by omega)
  have h2 := h1.take 1 (by rw [List.length_drop]; omega)
  have e : (es.drop k).take 1 = [es[k]] := by rw [List.drop_eq_getElem_cons hk]; rfl
  rw [e] at h2
  exact h2
structure CpJ (w : World) (l : List Blk) (k : Nat) (r : Value) (wr : World) : Prop where
  bel : Below w.heap.size w wr
  row : BRow wr w.heap.size r (l.take k)
end Go.Proofs.YtdkkhmjlamkgdaaGreatDoor
namespace Go.Proofs.YtdkkhmjlamkgdaaGreatDoor
open Go.RowKit Mg Go.Shelf Go.Maps

def loopsFr : Code → List Code
  | .loop c => c :: loopsFr c
  | .seq a b => loopsFr a ++ loopsFr b
  | .block _ c => loopsFr c
  | .scope c => loopsFr c
  | .cond _ a b => loopsFr a ++ loopsFr b
  | _ => []
noncomputable def frOwn : Code := ((Tryz.f15.body.map loopsFr).getD []).getD 0 .skip
set_option maxRecDepth 100000 in
set_option maxHeartbeats 8000000 in
theorem frOwn_round {mem : Addr → Option Value} {w0 : World} {es : List FctE} {va : Option Addr} {vc : Nat} (hE : EsM mem (.slice va es.length vc) es) (hs : Sees mem w0) (c1 c2 c3 c10 c11 c12 c13 c14 c15 c16 c17 c18 c19 c20 c21 c22 c75 c76 c77 c78 c79 c80 c81 c82 c83 c84 c85 c86 c87 c88 c89 c90 c91 c92 c93 c94 c95 c96 c97 c98 c99 c100 c101 c102 c103 c104 c105 c106 c107 c108 c109 c110 c111 c112 c113 c114 c115 c116 c117 c118 c119 c120 c121 c122 c123 c124 c125 c126 c127 c128 c129 c130 c131 c132 c133 c134 c135 c136 c137 c138 c139 c140 c141 c142 c143 c144 c145 c146 c147 c148 c149 c150 c151 c152 c153 c154 c155 c156 c157 c158 c159 c160 c161 c162 c163 c164 c165 c166 c167 c168 c169 c170 c171 c172 c173 c174 c175 c176 c177 c178 c179 c180 c181 c182 c183 c184 c185 c186 c187 c188 c189 c190 c191 c192 c193 c194 c195 c196 c197 c198 c199 c200 c201 c202 c203 c204 c205 c206 c207 c208 c209 : Value) (u6 u7 u8 u9 u23 u24 u25 u26 u27 u28 u29 u30 u31 u32 u33 u34 u35 u36 u37 u38 u39 u40 u41 u42 u43 u44 u45 u46 u47 u48 u49 u50 u51 u52 u53 u54 u55 u56 u57 u58 u59 u60 u61 u62 u63 u64 u65 u66 u67 u68 u69 u70 u71 u72 u73 u74 : Value) (v : Value) (k : Nat) (hlt : k < es.length) (hk40 : k < 40) (wr : World) (hI : OwnI mem w0 es k v wr) (Q : Exit → Act → World → Prop)
    (hQ : ∀ (u4 u5 u6 u7 u8 u9 u23 u24 u25 u26 u27 u28 u29 u30 u31 u32 u33 u34 u35 u36 u37 u38 u39 u40 u41 u42 u43 u44 u45 u46 u47 u48 u49 u50 u51 u52 u53 u54 u55 u56 u57 u58 u59 u60 u61 u62 u63 u64 u65 u66 u67 u68 u69 u70 u71 u72 u73 u74 : Value) (w2 : World), u5 = .int .i64 ((k + 1 : Nat) : Int) → OwnI mem w0 es (k + 1) u4 w2 → Q .normal ⟨#[.slice va es.length vc, c1, c2, c3, u4, u5, u6, u7, u8, u9, c10, c11, c12, c13, c14, c15, c16, c17, c18, c19, c20, c21, c22, u23, u24, u25, u26, u27, u28, u29, u30, u31, u32, u33, u34, u35, u36, u37, u38, u39, u40, u41, u42, u43, u44, u45, u46, u47, u48, u49, u50, u51, u52, u53, u54, u55, u56, u57, u58, u59, u60, u61, u62, u63, u64, u65, u66, u67, u68, u69, u70, u71, u72, u73, u74, c75, c76, c77, c78, c79, c80, c81, c82, c83, c84, c85, c86, c87, c88, c89, c90, c91, c92, c93, c94, c95, c96, c97, c98, c99, c100, c101, c102, c103, c104, c105, c106, c107, c108, c109, c110, c111, c112, c113, c114, c115, c116, c117, c118, c119, c120, c121, c122, c123, c124, c125, c126, c127, c128, c129, c130, c131, c132, c133, c134, c135, c136, c137, c138, c139, c140, c141, c142, c143, c144, c145, c146, c147, c148, c149, c150, c151, c152, c153, c154, c155, c156, c157, c158, c159, c160, c161, c162, c163, c164, c165, c166, c167, c168, c169, c170, c171, c172, c173, c174, c175, c176, c177, c178, c179, c180, c181, c182, c183, c184, c185, c186, c187, c188, c189, c190, c191, c192, c193, c194, c195, c196, c197, c198, c199, c200, c201, c202, c203, c204, c205, c206, c207, c208, c209], []⟩ w2) :
    frOwn.wp Tryz.prog Q ⟨#[.slice va es.length vc, c1, c2, c3, v, .int .i64 (k : Nat), u6, u7, u8, u9, c10, c11, c12, c13, c14, c15, c16, c17, c18, c19, c20, c21, c22, u23, u24, u25, u26, u27, u28, u29, u30, u31, u32, u33, u34, u35, u36, u37, u38, u39, u40, u41, u42, u43, u44, u45, u46, u47, u48, u49, u50, u51, u52, u53, u54, u55, u56, u57, u58, u59, u60, u61, u62, u63, u64, u65, u66, u67, u68, u69, u70, u71, u72, u73, u74, c75, c76, c77, c78, c79, c80, c81, c82, c83, c84, c85, c86, c87, c88, c89, c90, c91, c92, c93, c94, c95, c96, c97, c98, c99, c100, c101, c102, c103, c104, c105, c106, c107, c108, c109, c110, c111, c112, c113, c114, c115, c116, c117, c118, c119, c120, c121, c122, c123, c124, c125, c126, c127, c128, c129, c130, c131, c132, c133, c134, c135, c136, c137, c138, c139, c140, c141, c142, c143, c144, c145, c146, c147, c148, c149, c150, c151, c152, c153, c154, c155, c156, c157, c158, c159, c160, c161, c162, c163, c164, c165, c166, c167, c168, c169, c170, c171, c172, c173, c174, c175, c176, c177, c178, c179, c180, c181, c182, c183, c184, c185, c186, c187, c188, c189, c190, c191, c192, c193, c194, c195, c196, c197, c198, c199, c200, c201, c202, c203, c204, c205, c206, c207, c208, c209], []⟩ wr := by
  have HQ := Lib.hid hQ
  have HI := Lib.hid hI
  have hcap : es.length ≤ vc ∧ vc ≤ 9223372036854775807 := by
    obtain ⟨_, _, ⟨_, _, _, e, h2, h3, _⟩, _⟩ := hE
    injection e with _ _ e
    unfold maxLen at h3
    omega
  have HSW := Lib.hid (hs.bel hI.bel)
  have HS := Lib.hid hs
  have HTK : Hid (((es.take (k + 1)).map FctE.f).map shortF = ((es.take k).map FctE.f).map shortF ++ [shortF es[k].f]) := Lib.hid (by rw [List.take_succ_eq_append_getElem hlt, List.map_append, List.map_append]; rfl)
  have cS := Lib.hid (short_one (hE.one k hlt) wr HSW.out)
  have hcut := fun W => run_facts_one va es.length vc k (by omega) W
  obtain ⟨fs, f1, f2, f3, f4⟩ := hI.row
  have F1 := Lib.hid f1
  have F2 := Lib.hid f2
  have F4 := Lib.hid f4
  have hvs := f1.sl
  obtain ⟨ra, rn, rc, rfl⟩ := hvs
  have hfl : fs.length ≤ 100000 := by omega
  have HFL := Lib.hid f3
  clear hQ hI hE hs f1 f2 f3 f4
  generalize es[k] = x at *
  have hlen : (es.length : Int) ≤ 9223372036854775807 := by omega
  have hlk : (k : Int) < es.length := by omega
  conv => arg 2; whnf
  go_wp2_with fail
  clear hcut
  refine cS.out.mono ?_
  rintro e w5 ⟨y, g, rcc, rfl, hyf, hyat, hyok, hb5⟩
  have HYF := Lib.hid hyf
  have HYOK := Lib.hid hyok
  have HYAT := Lib.hid hyat
  have HSZ : Hid (y.cells.size = 23) := Lib.hid rfl
  have HON := Lib.hid y.one
  have HB5 := Lib.hid hb5
  clear hyf hyok hyat hb5 cS
  go_upto_region 7 with (first
    | ((with_reducible refine at_fload _ rfl ?_); go_must (refine wpList_fct_mid rfl _ rfl (by simp [Act.eval]) HYAT.out ?_))
    | ((with_reducible refine at_fstore _ _ rfl ?_); go_must (refine wpList_fct_new rfl _ _ rfl rfl _ _ _ (by simp [Act.eval]) (by simp [Act.eval]) (by rfl) HSZ.out HON.out ?_)))
  obtain ⟨W6, hW6⟩ : ∃ W6, W6 = w5.alloc (.cells y.cells 50) := ⟨_, rfl⟩
  rw [← hW6]
  have hb6 : Below w5.heap.size w5 W6 := by rw [hW6]; exact bel1 w5 _
  have hx6 : W6.heap[w5.heap.size]? = some (.cells (fctCells y.f y.tv y.bv y.av) 50 (0, 0)) := by rw [hW6, ← FctE.cells_eq]; exact World.alloc_heap_new w5 _
  have HB6 : Hid (Below wr.heap.size wr W6) := Lib.hid (HB5.out.trans (hb6.mono HB5.out.size))
  have HSH : Hid (Sees (memSh mem wr.heap.size w5 (fun _ => False)) W6) := Lib.hid (Sees.bel (w := w5) (fun a u ha => by
    rcases memSh_cases ha with ⟨q1, q2⟩ | ⟨q1, q2⟩
    · exact (HSW.out.bel HB5.out) a u q2
    · exact (memNo_get q2).1) hb6)
  have hNw : wr.heap.size ≤ w5.heap.size := HB5.out.size
  have hGD : FGood y.f := by rw [HYF.out]; exact shortF_good _
  have htl : y.f.topics.length ≤ 1000 := hGD.tops
  have hbl : y.f.blocks.length ≤ 100 := hGD.blks.1
  have HBA : Hid (∀ b ∈ y.f.blocks, b.lab.after.length ≤ 1000) := Lib.hid (fun b hb => (hGD.blks.2 b hb).2)
  have k9 : W6.cell? ⟨w5.heap.size, 9, none⟩ = some (.slice y.ta y.f.topics.length y.tc) := rowcell hx6
  obtain ⟨hp1, hp2, hp3⟩ := HYOK.out.parts
  have HPS : Hid (∀ s ∈ y.f.topics, s.size ≤ maxLen) := Lib.hid (fun s hs => by
    obtain ⟨_, _, _, h5, _⟩ := hp1
    exact h5 s hs)
  have HTL : Hid (∀ W, Below W6.heap.size W6 W → Reads W W.heap.size 1 y.ta (y.f.topics.map fun x => (#[.string x] : Array Value)).length ((y.f.topics.map fun x => (#[.string x] : Array Value)).flatMap Array.toList)) := Lib.hid (fun W hW => reads_topics hp1 (HSH.out.bel hW))
  obtain ⟨ya, yc, yb, yo, hyv, hy1, hy2, hyo, hyat⟩ := hp2.open_
  injection hyv with hyv1 _ hyv3
  subst hyv1 hyv3
  have HYO := Lib.hid hyo
  have HYA := Lib.hid hyat
  have HP3 := Lib.hid hp3
  have HX6 := Lib.hid hx6
  have hlenT : (y.f.topics.map fun x => (#[.string x] : Array Value)).length = y.f.topics.length := List.length_map _
  clear hW6 hb6 hx6 hp1 hp2 hp3 hyo hyat hGD
  generalize hN : w5.heap.size = N at *
  have hT6 : N < W6.heap.size := Go.Proofs.YtdkkhmjlamkgdaaGreatDoor.hlt HX6.out
  go_upto_region 8 with (first
    | ((with_reducible refine at_sslice 30 _ _ rfl ?_); go_must (refine wpList_empty_slice rfl E_str _ rfl rfl ?_))
    | ((with_reducible refine at_sappend _ _ 30 rfl ?_); go_must (refine wpList_app_row rfl E_str _ _ rfl (by simp [Act.eval]) (GRow.empty W6 W6.heap.size (Nat.le_refl _) (by decide)) y.ta y.tc (y.f.topics.map fun x => (#[.string x] : Array Value)) (strs_one _) (by rw [hlenT]; simp [Act.eval]) (HTL.out _ (bel1 _ _)) (by rw [hlenT, List.length_nil]; omega) (by rw [World.size_alloc]; exact Nat.le_succ _) ?_); intro v7 w7 hr7 hg7 hob7; rw [List.nil_append] at hr7; have hs7 := hr7.shape; rw [hlenT] at hs7; obtain ⟨a7, c7, rfl⟩ := hs7; obtain ⟨hx7, hb7, ht7⟩ := topics_ready HX6.out hr7 HPS.out hg7; have y9 : w7.cell? ⟨N, 9, none⟩ = some (.slice y.ta y.f.topics.length y.tc) := rowcell hx7; have z9 : w7.frozen? ⟨N, 9, none⟩ = false := rowfree hx7; have HX7 := Lib.hid hx7; have HB7 := Lib.hid hb7; have HT7 := Lib.hid ht7; clear hx7 hb7 ht7 hr7 hg7 hob7))
  have HX8 := Lib.hid (blk_set (j := 9) (u := .slice a7 y.f.topics.length c7) HX7.out)
  have hb8 : Below wr.heap.size wr (w7.setCell ⟨N, 9, none⟩ (.slice a7 y.f.topics.length c7)) := (HB6.out.trans (HB7.out.mono HB6.out.size)).setCell hNw _
  have HT8 := Lib.hid (HT7.out.mono (memFr_mono (upd_cell w7 N 9 (.slice a7 y.f.topics.length c7)) (fun k hk hf => ⟨hf, fun q => hf (by omega)⟩)))
  have hs8 : W6.heap.size ≤ (w7.setCell ⟨N, 9, none⟩ (.slice a7 y.f.topics.length c7)).heap.size := by rw [World.size_setCell]; exact HB7.out.size
  have HSH8 : Hid (Sees (memSh mem wr.heap.size w5 (fun _ => False)) (w7.setCell ⟨N, 9, none⟩ (.slice a7 y.f.topics.length c7))) := Lib.hid ((HSH.out.bel HB7.out).upd (upd_cell w7 N 9 _) (fun p u e q => by
    rcases memSh_cases e with ⟨q1, _⟩ | ⟨_, q2⟩
    · omega
    · have := World.block_lt_of_cell? w5 p (memNo_get q2).1
      omega))
  obtain ⟨W8, hW8⟩ : ∃ W8, W8 = w7.setCell ⟨N, 9, none⟩ (.slice a7 y.f.topics.length c7) := ⟨_, rfl⟩
  rw [← hW8] at HX8 hb8 HT8 HSH8 hs8 ⊢
  have HB8 := Lib.hid hb8
  clear hW8 hb8 y9 z9 k9
  have HJ0 : Hid (CpJ W8 y.f.blocks 0 (.slice none 0 0) W8) := Lib.hid ⟨Below.refl _ _, by rw [List.take_zero]; exact BRow.nil _ _⟩
  obtain ⟨wo, hwo⟩ : ∃ wo, wo = wr := ⟨_, rfl⟩
  rw [← hwo] at HB5 HB6 HB8 HSH HSH8 HYOK HP3 HYA HI F1 F4 HSW hNw
  clear hwo HX7 HB7 HT7 HTL HX6
  go_wp2_with fail
  go_loopw [8, 7] (fun i r wq => ∃ m : Nat, m ≤ y.f.blocks.length ∧ i = .int .i64 m ∧ (∃ ra rn rc, r = .slice ra rn rc) ∧ Hid (CpJ W8 y.f.blocks m r wq)) (fun i _ _ => y.f.blocks.length - (intOf i).toNat)
  case atStart => exact ⟨0, Nat.zero_le _, rfl, ⟨_, _, _, rfl⟩, HJ0⟩
  case round =>
    obtain ⟨m, hm, rfl, ⟨sa, sn, sc, rfl⟩, HJ⟩ := hrel
    have HBQ := Lib.hid (HB8.out.trans (HJ.out.bel.mono HB8.out.size))
    have HX9 := Lib.hid ((HJ.out.bel.block _ (Go.Proofs.YtdkkhmjlamkgdaaGreatDoor.hlt HX8.out)).trans HX8.out)
    have k10 : wr.cell? ⟨N, 10, none⟩ = some (.slice y.ba y.f.blocks.length y.bc) := rowcell HX9.out
    by_cases hlm : m < y.f.blocks.length
    · rw [HYO.out (by omega)] at k10
      have HSQ := Lib.hid (HSH8.out.bel HJ.out.bel)
      obtain ⟨⟨g1, g2, g3⟩, na, nc, hi9, hc9⟩ := (HYA.out m hlm).nine HSQ.out
      have HC9 := Lib.hid (cells9_see hc9)
      have HI9 := Lib.hid hi9
      have HR9 := Lib.hid HJ.out.row
      have HBJ := Lib.hid HJ.out.bel
      have HTM : Hid (y.f.blocks.take (m + 1) = y.f.blocks.take m ++ [y.f.blocks[m]]) := Lib.hid (List.take_succ_eq_append_getElem hlm)
      have hLl : (y.f.blocks.take m).length ≤ 100000 := by rw [List.length_take]; omega
      have hal := HBA.out _ (List.getElem_mem hlm)
      clear hi9 hc9
      generalize y.f.blocks[m] = b at *
      generalize hLk : y.f.blocks.take m = Lk at *
      go_upto_region 13 with (first
        | ((with_reducible refine at_sload 58 _ rfl ?_); go_must (refine wpList_smid rfl S_blk _ rfl (by simp [Act.eval]) (blkCells b (.slice na b.lab.after.length nc)) rfl HC9.out ?_))
        | ((with_reducible refine at_sstore 58 _ _ rfl ?_); go_must (refine wpList_snew rfl S_blk _ _ rfl rfl _ _ (blkCells b (.slice na b.lab.after.length nc)) (by simp [Act.eval]) (by simp [Act.eval]) rfl rfl (by simp [Value.oneCell']) ?_)))
      obtain ⟨W10, hW10⟩ : ∃ W10, W10 = wr.alloc (.cells (blkCells b (.slice na b.lab.after.length nc)) 58) := ⟨_, rfl⟩
      rw [← hW10]
      have hb10 : Below wr.heap.size wr W10 := by rw [hW10]; exact bel1 _ _
      have hn10 : W10.heap[wr.heap.size]? = some (.cells (blkCells b (.slice na b.lab.after.length nc)) 58 (0, 0)) := by rw [hW10]; exact World.alloc_heap_new _ _
      have HN10 := Lib.hid hn10
      have q6 : W10.cell? ⟨wr.heap.size, 6, none⟩ = some (.slice na b.lab.after.length nc) := rowcell hn10
      have hT10 : wr.heap.size < W10.heap.size := Go.Proofs.YtdkkhmjlamkgdaaGreatDoor.hlt hn10
      have HSZ10 := Lib.hid (HSQ.out.bel hb10)
      have HB10 := Lib.hid hb10
      clear hW10 hb10 hn10
      go_upto_region 14 with (first
        | ((with_reducible refine at_sslice 46 _ _ rfl ?_); go_must (refine wpList_empty_slice rfl E_int _ rfl rfl ?_))
        | ((with_reducible refine at_sappend _ _ 46 rfl ?_); go_must (refine wpList_app_after2 rfl _ _ rfl W10.heap.size (by simp [Act.eval]) (World.alloc_heap_new _ _) na nc b.lab.after (by simp [Act.eval]) HI9.out (HSZ10.out.alloc _) (by omega) ?_); intro v11 w11 hI11 hg11; have hs11 := hI11.shape; obtain ⟨a11, c11, rfl⟩ := hs11; have hb11 : Below W10.heap.size W10 w11 := (bel1 W10 _).grown hg11 (by rw [World.size_alloc]; omega) (fun k e => by injection e with e; omega); have hx11 := (hb11.block _ hT10).trans HN10.out; have y11 : w11.cell? ⟨wr.heap.size, 6, none⟩ = some (.slice na b.lab.after.length nc) := rowcell hx11; have z11 : w11.frozen? ⟨wr.heap.size, 6, none⟩ = false := rowfree hx11; have HX11 := Lib.hid hx11; have HB11 := Lib.hid hb11; have HI11 := Lib.hid hI11; clear hx11 hb11 hI11 hg11))
      have HX12 := Lib.hid (blk_set (j := 6) (u := .slice a11 b.lab.after.length c11) HX11.out)
      have hb12 : Below wr.heap.size wr (w11.setCell ⟨wr.heap.size, 6, none⟩ (.slice a11 b.lab.after.length c11)) := (HB10.out.trans (HB11.out.mono HB10.out.size)).setCell (Nat.le_refl _) _
      have hi12 : IntsM (memFr (w11.setCell ⟨wr.heap.size, 6, none⟩ (.slice a11 b.lab.after.length c11)) (fun k => k < W8.heap.size ∨ Value.ownBlock (.slice sa sn sc) = some k)) (.slice a11 b.lab.after.length c11) b.lab.after := by
        refine (IRow.kept HI11.out (upd_cell _ _ _ _) (fun k e q => ?_)).intsFr (fun k e q => ?_)
        · have := HI11.out.ge k e
          omega
        · have h1 := HI11.out.ge k e
          have h2 := HBJ.out.size
          rcases q with q | q
          · omega
          · have := (HR9.out.ge k q).2
            omega
      obtain ⟨W12, hW12⟩ : ∃ W12, W12 = w11.setCell ⟨wr.heap.size, 6, none⟩ (.slice a11 b.lab.after.length c11) := ⟨_, rfl⟩
      rw [← hW12] at HX12 hb12 hi12 ⊢
      have HB13 : Hid (∀ o, Below wr.heap.size wr (W12.alloc o)) := Lib.hid (fun o => hb12.alloc hb12.size _)
      have HI13 : Hid (∀ o, IntsM (memFr (W12.alloc o) (fun k => k < W8.heap.size ∨ Value.ownBlock (.slice sa sn sc) = some k)) (.slice a11 b.lab.after.length c11) b.lab.after) := Lib.hid (fun o => hi12.mono (memFr_below (bel1 W12 o)))
      have HR13 : Hid (∀ o, BRow (W12.alloc o) W8.heap.size (.slice sa sn sc) Lk) := Lib.hid (fun o => by
        have hb := HB13.out o
        exact HR9.out.kept (F := fun k => wr.heap.size ≤ k) ⟨hb.os, hb.tape, hb.output, hb.size, fun k hk hn => hb.block k (by omega)⟩ (fun k h => .inr h))
      have h8w : W8.heap.size ≤ W12.heap.size := Nat.le_trans HBJ.out.size hb12.size
      clear hW12 hb12 hi12 y11 z11 q6
      go_wp2_with (first
        | ((with_reducible refine at_sload 58 _ rfl ?_); go_must (refine wpList_sload rfl S_blk _ rfl (by simp [Act.eval]) (blkCells b (.slice a11 b.lab.after.length c11)) rfl HX12.out ?_))
        | ((with_reducible refine at_sslice 37 _ _ rfl ?_); go_must (refine wpList_one_slice rfl E_blk _ rfl (.agg (blkCells b (.slice a11 b.lab.after.length c11))) rfl (by simp [Act.eval, Act.put]) ?_))
        | ((with_reducible refine at_sappend _ _ 37 rfl ?_); go_must (refine wpList_app_blk rfl _ _ rfl W8.heap.size _ Lk (by simp [Act.eval, Act.put]) (HR13.out _) b a11 c11 (HI13.out _) W12.heap.size 1 (by simp [Act.eval, Act.put]) (World.alloc_heap_new _ _) hLl (by rw [World.size_alloc]; omega) ?_); intro v14 w14 hr14 hg14; have hs14 := hr14.sl; obtain ⟨qa, qn, qc, rfl⟩ := hs14; have HJ14 : Hid (CpJ W8 y.f.blocks (m + 1) (.slice qa qn qc) w14) := Lib.hid ⟨(HBJ.out.trans ((HB13.out _).mono HBJ.out.size)).grown hg14 (by rw [World.size_alloc]; omega) (fun k e => (HR9.out.ge k e).1), by rw [HTM.out]; exact hr14⟩; clear hr14 hg14))
      go_roundw
      case rel => exact ⟨m + 1, by omega, by go_num, ⟨_, _, _, rfl⟩, HJ14⟩
      case measure => (try simp only [intOf]); omega
    · obtain rfl : m = y.f.blocks.length := by omega
      have HRB : Hid (BRow wr W8.heap.size (.slice sa sn sc) y.f.blocks) := Lib.hid (by
        have := HJ.out.row
        rwa [List.take_length] at this)
      have hbs := HRB.out.blks HYOK.out.fok.bl
      have hsn : sn = y.f.blocks.length := (by obtain ⟨_, _, hse⟩ := hbs.slice; injection hse)
      subst hsn
      have z10 : wr.frozen? ⟨N, 10, none⟩ = false := rowfree HX9.out
      have HBS := Lib.hid hbs
      clear hbs
      go_upto_region 16 with fail
      obtain ⟨W15, hW15⟩ : ∃ W15, W15 = wr.setCell ⟨N, 10, none⟩ (.slice sa y.f.blocks.length sc) := ⟨_, rfl⟩
      rw [← hW15]
      obtain ⟨xe, hxe⟩ : ∃ xe : FctE, xe = ⟨y.f, a7, c7, sa, sc, y.aa, y.ac⟩ := ⟨_, rfl⟩
      have HX15 : Hid (W15.heap[N]? = some (.cells xe.cells 50 (0, 0))) := Lib.hid (by
        rw [hW15, hxe]
        exact blk_set HX9.out)
      have hb15 : Below wo.heap.size wo W15 := by rw [hW15]; exact HBQ.out.setCell hNw _
      have hu15 := upd_cell wr N 10 (.slice sa y.f.blocks.length sc)
      have HB15 : Hid (∀ o, Below wo.heap.size wo (W15.alloc o)) := Lib.hid (fun o => hb15.alloc hb15.size _)
      have HTT : Hid (∀ o, StrsM (memFr (W15.alloc o) (fun k => k < wo.heap.size)) xe.tv xe.f.topics) := Lib.hid (fun o => by
        rw [hxe]
        refine (HT8.out.mono (memFr_below HJ.out.bel)).mono (fun a u e => memFr_below (bel1 W15 o) a u ?_)
        rw [hW15]
        exact memFr_mono hu15 (fun k hk hf => ⟨fun q => hf (by omega), fun q => hf (by omega)⟩) a u e)
      have HBB : Hid (∀ o, BlksM (memFr (W15.alloc o) (fun k => k < wo.heap.size)) xe.bv xe.f.blocks) := Lib.hid (fun o => by
        rw [hxe]
        refine HBS.out.mono (fun a u e => memFr_below (bel1 W15 o) a u ?_)
        rw [hW15]
        exact memFr_mono hu15 (fun k hk hf => ⟨fun q => hf (by omega), fun q => hf (by omega)⟩) a u e)
      have HAA : Hid (∀ o, IntsM (memSh mem wo.heap.size (W15.alloc o) (fun _ => False)) xe.av xe.f.lab.after) := Lib.hid (fun o => by
        rw [hxe]
        refine HP3.out.mono (fun a u e => ?_)
        have h15 : Sees (memSh mem wo.heap.size w5 (fun _ => False)) W15 := by
          rw [hW15]
          refine ((HSH8.out.bel HJ.out.bel).upd hu15 (fun p u e q => ?_))
          rcases memSh_cases e with ⟨q1, _⟩ | ⟨_, q2⟩
          · omega
          · have := World.block_lt_of_cell? w5 p (memNo_get q2).1
            omega
        rcases memSh_cases e with ⟨q1, q2⟩ | ⟨q1, q2⟩
        · exact memSh_low q2 q1
        · exact memSh_new (memNo_of (sees_bel (bel1 W15 o) a u (h15 a u e)) (fun q => q)) q1)
      have HFR : Hid (∀ o, FRow (W15.alloc o) w0.heap.size (.slice ra rn rc) fs) := Lib.hid (fun o => by
        have hb := HB15.out o
        exact F1.out.kept (F := fun k => wo.heap.size ≤ k) ⟨hb.os, hb.tape, hb.output, hb.size, fun k hk hn => hb.block k (by omega)⟩ (fun k e q => by have := (F1.out.ge k e).2; omega))
      have hw15 : w0.heap.size ≤ W15.heap.size := by
        have h1 := HI.out.bel.size
        have h2 := hb15.size
        omega
      have HXE : Hid (xe.f = y.f) := Lib.hid (by rw [hxe])
      clear hxe hW15 k10 z10 hb15 hu15
      go_wp2_with (first
        | ((with_reducible refine at_fload _ rfl ?_); go_must (refine wpList_fct_load rfl _ rfl N (by simp [Act.eval]) xe.cells HX15.out rfl ?_))
        | ((with_reducible refine at_fslice _ rfl ?_); go_must (refine wpList_fct_slice rfl _ rfl xe (by simp [Act.eval, Act.put]) ?_))
        | ((with_reducible refine at_sappend _ _ 22 rfl ?_); go_must (refine wpList_app_fct rfl _ _ rfl w0.heap.size _ fs (by simp [Act.eval, Act.put]) (HFR.out _) xe W15.heap.size 1 (by simp [Act.eval, Act.put]) (World.alloc_heap_new _ _) hfl (by rw [World.size_alloc]; omega) ?_); intro v16 w16 hr16 hg16 hob16; have hs16 := hr16.sl; obtain ⟨qa, qn, qc, rfl⟩ := hs16; have HI16 : Hid (OwnI mem w0 es (k + 1) (.slice qa qn qc) w16) := Lib.hid (OwnI.snoc HS.out HI.out.bel F1.out F4.out (HB15.out _) hr16 hg16 hob16 (by rw [HXE.out]; exact HYOK.out.fok) (HTT.out _) (HBB.out _) (HAA.out _) (by rw [List.map_append, F2.out, HTK.out, List.map_singleton, HXE.out, HYF.out]) HFL.out); clear hr16 hg16 hob16))
      exact HQ.out _ _ _ _ _ _ _ _ _ _ _ _ _ _ _ _ _ _ _ _ _ _ _ _ _ _ _ _ _ _ _ _ _ _ _ _ _ _ _ _ _ _ _ _ _ _ _ _ _ _ _ _ _ _ _ _ _ _ _ (by go_num) HI16.out
set_option maxRecDepth 100000 in
set_option maxHeartbeats 4000000 in
theorem frOwn_loop {mem : Addr → Option Value} {w0 : World} {es : List FctE} {va : Option Addr} {vc : Nat} (hE : EsM mem (.slice va es.length vc) es) (hs : Sees mem w0) (c1 c2 c3 c10 c11 c12 c13 c14 c15 c16 c17 c18 c19 c20 c21 c22 c75 c76 c77 c78 c79 c80 c81 c82 c83 c84 c85 c86 c87 c88 c89 c90 c91 c92 c93 c94 c95 c96 c97 c98 c99 c100 c101 c102 c103 c104 c105 c106 c107 c108 c109 c110 c111 c112 c113 c114 c115 c116 c117 c118 c119 c120 c121 c122 c123 c124 c125 c126 c127 c128 c129 c130 c131 c132 c133 c134 c135 c136 c137 c138 c139 c140 c141 c142 c143 c144 c145 c146 c147 c148 c149 c150 c151 c152 c153 c154 c155 c156 c157 c158 c159 c160 c161 c162 c163 c164 c165 c166 c167 c168 c169 c170 c171 c172 c173 c174 c175 c176 c177 c178 c179 c180 c181 c182 c183 c184 c185 c186 c187 c188 c189 c190 c191 c192 c193 c194 c195 c196 c197 c198 c199 c200 c201 c202 c203 c204 c205 c206 c207 c208 c209 : Value) (u4 u5 u6 u7 u8 u9 u23 u24 u25 u26 u27 u28 u29 u30 u31 u32 u33 u34 u35 u36 u37 u38 u39 u40 u41 u42 u43 u44 u45 u46 u47 u48 u49 u50 u51 u52 u53 u54 u55 u56 u57 u58 u59 u60 u61 u62 u63 u64 u65 u66 u67 u68 u69 u70 u71 u72 u73 u74 : Value) (h0 : u5 = .int .i64 0) (wr : World) (hI : OwnI mem w0 es 0 u4 wr) (Q : Exit → Act → World → Prop)
    (hQ : ∀ (u4 u5 u6 u7 u8 u9 u23 u24 u25 u26 u27 u28 u29 u30 u31 u32 u33 u34 u35 u36 u37 u38 u39 u40 u41 u42 u43 u44 u45 u46 u47 u48 u49 u50 u51 u52 u53 u54 u55 u56 u57 u58 u59 u60 u61 u62 u63 u64 u65 u66 u67 u68 u69 u70 u71 u72 u73 u74 : Value) (w2 : World), OwnI mem w0 es (min es.length 40) u4 w2 → Q (.exit 0) ⟨#[.slice va es.length vc, c1, c2, c3, u4, u5, u6, u7, u8, u9, c10, c11, c12, c13, c14, c15, c16, c17, c18, c19, c20, c21, c22, u23, u24, u25, u26, u27, u28, u29, u30, u31, u32, u33, u34, u35, u36, u37, u38, u39, u40, u41, u42, u43, u44, u45, u46, u47, u48, u49, u50, u51, u52, u53, u54, u55, u56, u57, u58, u59, u60, u61, u62, u63, u64, u65, u66, u67, u68, u69, u70, u71, u72, u73, u74, c75, c76, c77, c78, c79, c80, c81, c82, c83, c84, c85, c86, c87, c88, c89, c90, c91, c92, c93, c94, c95, c96, c97, c98, c99, c100, c101, c102, c103, c104, c105, c106, c107, c108, c109, c110, c111, c112, c113, c114, c115, c116, c117, c118, c119, c120, c121, c122, c123, c124, c125, c126, c127, c128, c129, c130, c131, c132, c133, c134, c135, c136, c137, c138, c139, c140, c141, c142, c143, c144, c145, c146, c147, c148, c149, c150, c151, c152, c153, c154, c155, c156, c157, c158, c159, c160, c161, c162, c163, c164, c165, c166, c167, c168, c169, c170, c171, c172, c173, c174, c175, c176, c177, c178, c179, c180, c181, c182, c183, c184, c185, c186, c187, c188, c189, c190, c191, c192, c193, c194, c195, c196, c197, c198, c199, c200, c201, c202, c203, c204, c205, c206, c207, c208, c209], []⟩ w2) :
    (Code.loop frOwn).wp Tryz.prog Q ⟨#[.slice va es.length vc, c1, c2, c3, u4, u5, u6, u7, u8, u9, c10, c11, c12, c13, c14, c15, c16, c17, c18, c19, c20, c21, c22, u23, u24, u25, u26, u27, u28, u29, u30, u31, u32, u33, u34, u35, u36, u37, u38, u39, u40, u41, u42, u43, u44, u45, u46, u47, u48, u49, u50, u51, u52, u53, u54, u55, u56, u57, u58, u59, u60, u61, u62, u63, u64, u65, u66, u67, u68, u69, u70, u71, u72, u73, u74, c75, c76, c77, c78, c79, c80, c81, c82, c83, c84, c85, c86, c87, c88, c89, c90, c91, c92, c93, c94, c95, c96, c97, c98, c99, c100, c101, c102, c103, c104, c105, c106, c107, c108, c109, c110, c111, c112, c113, c114, c115, c116, c117, c118, c119, c120, c121, c122, c123, c124, c125, c126, c127, c128, c129, c130, c131, c132, c133, c134, c135, c136, c137, c138, c139, c140, c141, c142, c143, c144, c145, c146, c147, c148, c149, c150, c151, c152, c153, c154, c155, c156, c157, c158, c159, c160, c161, c162, c163, c164, c165, c166, c167, c168, c169, c170, c171, c172, c173, c174, c175, c176, c177, c178, c179, c180, c181, c182, c183, c184, c185, c186, c187, c188, c189, c190, c191, c192, c193, c194, c195, c196, c197, c198, c199, c200, c201, c202, c203, c204, c205, c206, c207, c208, c209], []⟩ wr := by
  have hcap : es.length ≤ 9223372036854775807 := by
    obtain ⟨_, _, _, _, _, hm, _⟩ := hE.open_
    unfold maxLen at hm
    omega
  refine wp_loop (fun a w => ∃ U : Nat → Value, (∃ j : Nat, j ≤ es.length ∧ j ≤ 40 ∧ U 5 = .int .i64 (j : Int) ∧ OwnI mem w0 es j (U 4) w) ∧ a = ⟨#[.slice va es.length vc, c1, c2, c3, U 4, U 5, U 6, U 7, U 8, U 9, c10, c11, c12, c13, c14, c15, c16, c17, c18, c19, c20, c21, c22, U 23, U 24, U 25, U 26, U 27, U 28, U 29, U 30, U 31, U 32, U 33, U 34, U 35, U 36, U 37, U 38, U 39, U 40, U 41, U 42, U 43, U 44, U 45, U 46, U 47, U 48, U 49, U 50, U 51, U 52, U 53, U 54, U 55, U 56, U 57, U 58, U 59, U 60, U 61, U 62, U 63, U 64, U 65, U 66, U 67, U 68, U 69, U 70, U 71, U 72, U 73, U 74, c75, c76, c77, c78, c79, c80, c81, c82, c83, c84, c85, c86, c87, c88, c89, c90, c91, c92, c93, c94, c95, c96, c97, c98, c99, c100, c101, c102, c103, c104, c105, c106, c107, c108, c109, c110, c111, c112, c113, c114, c115, c116, c117, c118, c119, c120, c121, c122, c123, c124, c125, c126, c127, c128, c129, c130, c131, c132, c133, c134, c135, c136, c137, c138, c139, c140, c141, c142, c143, c144, c145, c146, c147, c148, c149, c150, c151, c152, c153, c154, c155, c156, c157, c158, c159, c160, c161, c162, c163, c164, c165, c166, c167, c168, c169, c170, c171, c172, c173, c174, c175, c176, c177, c178, c179, c180, c181, c182, c183, c184, c185, c186, c187, c188, c189, c190, c191, c192, c193, c194, c195, c196, c197, c198, c199, c200, c201, c202, c203, c204, c205, c206, c207, c208, c209], []⟩) (fun a _ => es.length - (intOf (a.tmps.getD 5 undef)).toNat) ⟨fun i => ([undef, undef, undef, undef, u4, u5, u6, u7, u8, u9, undef, undef, undef, undef, undef, undef, undef, undef, undef, undef, undef, undef, undef, u23, u24, u25, u26, u27, u28, u29, u30, u31, u32, u33, u34, u35, u36, u37, u38, u39, u40, u41, u42, u43, u44, u45, u46, u47, u48, u49, u50, u51, u52, u53, u54, u55, u56, u57, u58, u59, u60, u61, u62, u63, u64, u65, u66, u67, u68, u69, u70, u71, u72, u73, u74, undef, undef, undef, undef, undef, undef, undef, undef, undef, undef, undef, undef, undef, undef, undef, undef, undef, undef, undef, undef, undef, undef, undef, undef, undef, undef, undef, undef, undef, undef, undef, undef, undef, undef, undef, undef, undef, undef, undef, undef, undef, undef, undef, undef, undef, undef, undef, undef, undef, undef, undef, undef, undef, undef, undef, undef, undef, undef, undef, undef, undef, undef, undef, undef, undef, undef, undef, undef, undef, undef, undef, undef, undef, undef, undef, undef, undef, undef, undef, undef, undef, undef, undef, undef, undef, undef, undef, undef, undef, undef, undef, undef, undef, undef, undef, undef, undef, undef, undef, undef, undef, undef, undef, undef, undef, undef, undef, undef, undef, undef, undef, undef, undef, undef, undef, undef, undef, undef, undef, undef, undef, undef, undef, undef, undef, undef, undef, undef, undef, undef, undef, undef, undef, undef, undef] : List Value).getD i undef, ⟨0, Nat.zero_le _, by omega, h0, hI⟩, rfl⟩ ?_
  rintro a w2 ⟨U, ⟨j, hj, hj40, e, hI2⟩, rfl⟩
  by_cases hlt : j < es.length ∧ j < 40
  · rw [e]
    refine frOwn_round hE hs _ _ _ _ _ _ _ _ _ _ _ _ _ _ _ _ _ _ _ _ _ _ _ _ _ _ _ _ _ _ _ _ _ _ _ _ _ _ _ _ _ _ _ _ _ _ _ _ _ _ _ _ _ _ _ _ _ _ _ _ _ _ _ _ _ _ _ _ _ _ _ _ _ _ _ _ _ _ _ _ _ _ _ _ _ _ _ _ _ _ _ _ _ _ _ _ _ _ _ _ _ _ _ _ _ _ _ _ _ _ _ _ _ _ _ _ _ _ _ _ _ _ _ _ _ _ _ _ _ _ _ _ _ _ _ _ _ _ _ _ _ _ _ _ _ _ _ _ _ _ _ _ _ _ _ _ _ _ _ _ _ _ _ _ _ _ _ _ _ _ _ _ _ _ _ _ _ _ _ _ _ _ _ _ _ _ _ _ _ _ _ _ _ _ _ _ _ _ _ _ _ _ _ _ _ _ _ (U 4) j hlt.1 hlt.2 w2 hI2 _ ?_
    intro u4 u5 u6 u7 u8 u9 u23 u24 u25 u26 u27 u28 u29 u30 u31 u32 u33 u34 u35 u36 u37 u38 u39 u40 u41 u42 u43 u44 u45 u46 u47 u48 u49 u50 u51 u52 u53 u54 u55 u56 u57 u58 u59 u60 u61 u62 u63 u64 u65 u66 u67 u68 u69 u70 u71 u72 u73 u74 w3 e3 hI3
    refine ⟨⟨fun i => ([undef, undef, undef, undef, u4, u5, u6, u7, u8, u9, undef, undef, undef, undef, undef, undef, undef, undef, undef, undef, undef, undef, undef, u23, u24, u25, u26, u27, u28, u29, u30, u31, u32, u33, u34, u35, u36, u37, u38, u39, u40, u41, u42, u43, u44, u45, u46, u47, u48, u49, u50, u51, u52, u53, u54, u55, u56, u57, u58, u59, u60, u61, u62, u63, u64, u65, u66, u67, u68, u69, u70, u71, u72, u73, u74, undef, undef, undef, undef, undef, undef, undef, undef, undef, undef, undef, undef, undef, undef, undef, undef, undef, undef, undef, undef, undef, undef, undef, undef, undef, undef, undef, undef, undef, undef, undef, undef, undef, undef, undef, undef, undef, undef, undef, undef, undef, undef, undef, undef, undef, undef, undef, undef, undef, undef, undef, undef, undef, undef, undef, undef, undef, undef, undef, undef, undef, undef, undef, undef, undef, undef, undef, undef, undef, undef, undef, undef, undef, undef, undef, undef, undef, undef, undef, undef, undef, undef, undef, undef, undef, undef, undef, undef, undef, undef, undef, undef, undef, undef, undef, undef, undef, undef, undef, undef, undef, undef, undef, undef, undef, undef, undef, undef, undef, undef, undef, undef, undef, undef, undef, undef, undef, undef, undef, undef, undef, undef, undef, undef, undef, undef, undef, undef, undef, undef, undef, undef, undef, undef, undef] : List Value).getD i undef, ⟨j + 1, hlt.1, hlt.2, e3, hI3⟩, rfl⟩, ?_⟩
    show es.length - (intOf u5).toNat < es.length - (intOf (.int .i64 (j : Nat))).toNat
    rw [e3]
    simp [intOf]; omega
  · obtain rfl : j = min es.length 40 := by omega
    rw [e]
    have HQ := Lib.hid hQ
    have HI2 := Lib.hid hI2
    have hcase : ((min es.length 40 : Nat) : Int) = es.length ∨ (((min es.length 40 : Nat) : Int) = 40 ∧ (40 : Int) < es.length) := by omega
    clear hQ hI2 e hlt hE hs hI h0
    generalize min es.length 40 = q at *
    conv => arg 2; whnf
    rcases hcase with hc | ⟨hc, hc2⟩
    · rw [hc]
      go_wp2_with fail
      exact HQ.out _ _ _ _ _ _ _ _ _ _ _ _ _ _ _ _ _ _ _ _ _ _ _ _ _ _ _ _ _ _ _ _ _ _ _ _ _ _ _ _ _ _ _ _ _ _ _ _ _ _ _ _ _ _ _ _ _ _ _ HI2.out
    · rw [hc]
      go_wp2_with fail
      exact HQ.out _ _ _ _ _ _ _ _ _ _ _ _ _ _ _ _ _ _ _ _ _ _ _ _ _ _ _ _ _ _ _ _ _ _ _ _ _ _ _ _ _ _ _ _ _ _ _ _ _ _ _ _ _ _ _ _ _ _ _ HI2.out
end Go.Proofs.YtdkkhmjlamkgdaaGreatDoor
namespace Go.Proofs.YtdkkhmjlamkgdaaGreatDoor
open Go.RowKit Mg Go.Shelf Go.Maps

structure FrC (mem1 : Addr → Option Value) (W : World) (a : Option Addr) (c : Nat) (b : Option Addr) (d n10 : Nat) (s : StF) (sb so : Nat) : Prop where
  st : StateM mem1 (.agg #[.slice a s.stories.length c, .slice b s.tpls.length d]) s
  sees : Sees mem1 W
  good : ∀ x ∈ s.stories, GSty x
  box : W.heap[n10]? = some (.cells #[.slice a s.stories.length c, .slice b s.tpls.length d] 27 (0, 0))
  sa : 0 < s.stories.length → a = some ⟨sb, so, none⟩
  at_ : ∀ j (h : j < s.stories.length), StyAt mem1 s.stories[j] sb (so + j * 8)
  len : s.stories.length ≤ 9223372036854775807
noncomputable def frSt : Code := ((Tryz.f15.body.map loopsFr).getD []).getD 2 .skip
set_option maxRecDepth 100000 in
set_option maxHeartbeats 8000000 in
theorem frSt_round {mem1 : Addr → Option Value} {W : World} {a b : Option Addr} {c d n10 : Nat} {s : StF} {sb so : Nat} (C : FrC mem1 W a c b d n10 s sb so) (c0 c1 c2 c3 c4 c5 c6 c7 c8 c9 c11 c18 c19 c20 c21 c22 c23 c24 c25 c26 c27 c28 c29 c30 c31 c32 c33 c34 c35 c36 c37 c38 c39 c40 c41 c42 c43 c44 c45 c46 c47 c48 c49 c50 c51 c52 c53 c54 c55 c56 c57 c58 c59 c60 c61 c62 c63 c64 c65 c66 c67 c68 c69 c70 c71 c72 c73 c74 c75 c76 c77 c78 c79 c136 c137 c138 c139 c140 c141 c142 c143 c144 c145 c146 c147 c148 c149 c150 c151 c152 c153 c154 c155 c156 c157 c158 c159 c160 c161 c162 c163 c164 c165 c166 c167 c168 c169 c170 c171 c172 c173 c174 c175 c176 c177 c178 c179 c180 c181 c182 c183 c184 c185 c186 c187 c188 c189 c190 c191 c192 c193 c194 c195 c196 c197 c198 c199 c200 c201 c202 c203 c204 c205 c206 c207 c208 c209 : Value) (u13 u14 u15 u16 u17 u80 u81 u82 u83 u84 u85 u86 u87 u88 u89 u90 u91 u92 u93 u94 u95 u96 u97 u98 u99 u100 u101 u102 u103 u104 u105 u106 u107 u108 u109 u110 u111 u112 u113 u114 u115 u116 u117 u118 u119 u120 u121 u122 u123 u124 u125 u126 u127 u128 u129 u130 u131 u132 u133 u134 u135 : Value) (k : Nat) (hlt : k < s.stories.length) (wr : World) (hB : Below W.heap.size W wr) (Q : Exit → Act → World → Prop)
    (hQ : ∀ (u12 u13 u14 u15 u16 u17 u80 u81 u82 u83 u84 u85 u86 u87 u88 u89 u90 u91 u92 u93 u94 u95 u96 u97 u98 u99 u100 u101 u102 u103 u104 u105 u106 u107 u108 u109 u110 u111 u112 u113 u114 u115 u116 u117 u118 u119 u120 u121 u122 u123 u124 u125 u126 u127 u128 u129 u130 u131 u132 u133 u134 u135 : Value) (w2 : World), u12 = .int .i64 ((k + 1 : Nat) : Int) → Below W.heap.size W w2 → Q .normal ⟨#[c0, c1, c2, c3, c4, c5, c6, c7, c8, c9, .pointer (some ⟨n10, 0, none⟩), c11, u12, u13, u14, u15, u16, u17, c18, c19, c20, c21, c22, c23, c24, c25, c26, c27, c28, c29, c30, c31, c32, c33, c34, c35, c36, c37, c38, c39, c40, c41, c42, c43, c44, c45, c46, c47, c48, c49, c50, c51, c52, c53, c54, c55, c56, c57, c58, c59, c60, c61, c62, c63, c64, c65, c66, c67, c68, c69, c70, c71, c72, c73, c74, c75, c76, c77, c78, c79, u80, u81, u82, u83, u84, u85, u86, u87, u88, u89, u90, u91, u92, u93, u94, u95, u96, u97, u98, u99, u100, u101, u102, u103, u104, u105, u106, u107, u108, u109, u110, u111, u112, u113, u114, u115, u116, u117, u118, u119, u120, u121, u122, u123, u124, u125, u126, u127, u128, u129, u130, u131, u132, u133, u134, u135, c136, c137, c138, c139, c140, c141, c142, c143, c144, c145, c146, c147, c148, c149, c150, c151, c152, c153, c154, c155, c156, c157, c158, c159, c160, c161, c162, c163, c164, c165, c166, c167, c168, c169, c170, c171, c172, c173, c174, c175, c176, c177, c178, c179, c180, c181, c182, c183, c184, c185, c186, c187, c188, c189, c190, c191, c192, c193, c194, c195, c196, c197, c198, c199, c200, c201, c202, c203, c204, c205, c206, c207, c208, c209], []⟩ w2) (hP : ∀ c a a2 w2, a2.defers = a.defers → Q (.panic c) a w2 → Q (.panic c) a2 w2) :
    frSt.wp Tryz.prog Q ⟨#[c0, c1, c2, c3, c4, c5, c6, c7, c8, c9, .pointer (some ⟨n10, 0, none⟩), c11, .int .i64 (k : Nat), u13, u14, u15, u16, u17, c18, c19, c20, c21, c22, c23, c24, c25, c26, c27, c28, c29, c30, c31, c32, c33, c34, c35, c36, c37, c38, c39, c40, c41, c42, c43, c44, c45, c46, c47, c48, c49, c50, c51, c52, c53, c54, c55, c56, c57, c58, c59, c60, c61, c62, c63, c64, c65, c66, c67, c68, c69, c70, c71, c72, c73, c74, c75, c76, c77, c78, c79, u80, u81, u82, u83, u84, u85, u86, u87, u88, u89, u90, u91, u92, u93, u94, u95, u96, u97, u98, u99, u100, u101, u102, u103, u104, u105, u106, u107, u108, u109, u110, u111, u112, u113, u114, u115, u116, u117, u118, u119, u120, u121, u122, u123, u124, u125, u126, u127, u128, u129, u130, u131, u132, u133, u134, u135, c136, c137, c138, c139, c140, c141, c142, c143, c144, c145, c146, c147, c148, c149, c150, c151, c152, c153, c154, c155, c156, c157, c158, c159, c160, c161, c162, c163, c164, c165, c166, c167, c168, c169, c170, c171, c172, c173, c174, c175, c176, c177, c178, c179, c180, c181, c182, c183, c184, c185, c186, c187, c188, c189, c190, c191, c192, c193, c194, c195, c196, c197, c198, c199, c200, c201, c202, c203, c204, c205, c206, c207, c208, c209], []⟩ wr := by
  have HQ := Lib.hid hQ
  have HP := Lib.hid hP
  have HST := Lib.hid C.st
  have HSE0 := Lib.hid C.sees
  have HGD := Lib.hid C.good
  have HBX := Lib.hid C.box
  have hnl := C.len
  obtain rfl := C.sa (by omega)
  obtain ⟨_, tv, ev, cv, hcells, _⟩ := C.at_ k hlt
  have HC0 : Hid (wr.drew.cell? ⟨sb, so + k * 8, none⟩ = some (.int .i64 (s.stories[k]'hlt).id)) := Lib.hid (cells_see (sz := 8) (C.sees.bel hB) hcells rfl 0 (by omega))
  generalize (s.stories[k]'hlt).id = yid at *
  have hlk : (k : Int) < s.stories.length := by omega
  obtain ⟨Wd, hWd⟩ : ∃ Wd, Wd = wr.drew := ⟨_, rfl⟩
  have HBD : Hid (Below W.heap.size W Wd) := Lib.hid (by rw [hWd]; exact hB.drew)
  have k0 : wr.cell? ⟨n10, 0, none⟩ = some (.slice (some ⟨sb, so, none⟩) s.stories.length c) := rowcell ((hB.block _ (Go.Proofs.YtdkkhmjlamkgdaaGreatDoor.hlt HBX.out)).trans HBX.out)
  clear hQ hP hB C hcells
  conv => arg 2; whnf
  go_upto_region 22 with fail
  rw [← hWd] at HC0
  have HND := Lib.hid ((HBD.out.block _ (Go.Proofs.YtdkkhmjlamkgdaaGreatDoor.hlt HBX.out)).trans HBX.out)
  refine wp_sch (.take 0 (.take 1 (.take 2 (.take 3 (.take 4 (.take 5 (.take 6 (.either 7 11 (.take 8 (.take 9 (.take 10 (.only 11 (.only 12 (.only 13 .done)))))) (.only 7 (.take 8 (.take 9 (.take 10 (.only 12 (.only 13 .done)))))))))))))) 1000 (fun W2 => Below Wd.heap.size Wd W2) (by kernel_rfl) (by kernel_rfl) (by rw [← hWd]; exact Below.refl _ _) ?_
  rw [← hWd]
  clear hWd k0
  refine wpSch_take rfl (.agg #[.slice (some ⟨sb, so, none⟩) s.stories.length c, .slice b s.tpls.length d]) (fun _ _ _ _ h => HP.out _ _ _ _ (by rfl) h) (Below.refl _ _) (by rfl) (fun W2 hW => by exact exec_smid S_state _ rfl (by simp [Act.eval]) _ rfl (whole_cells ((hW.block _ (Go.Proofs.YtdkkhmjlamkgdaaGreatDoor.hlt HND.out)).trans HND.out))) ?_
  simp only [Act.put, List.setIfInBounds_toArray, List.set_cons_zero, List.set_cons_succ]
  refine wpSch_take rfl (.pointer (some ⟨n10, 0, none⟩)) (fun _ _ _ _ h => HP.out _ _ _ _ (by rfl) h) (Below.refl _ _) (by rfl) (fun W2 hW => by go_simp) ?_
  simp only [Act.put, List.setIfInBounds_toArray, List.set_cons_zero, List.set_cons_succ]
  refine wpSch_take rfl (.slice (some ⟨sb, so, none⟩) s.stories.length c) (fun _ _ _ _ h => HP.out _ _ _ _ (by rfl) h) (Below.refl _ _) (by rfl) (fun W2 hW => by have q0 : W2.cell? ⟨n10, 0, none⟩ = some (.slice (some ⟨sb, so, none⟩) s.stories.length c) := rowcell ((hW.block _ (Go.Proofs.YtdkkhmjlamkgdaaGreatDoor.hlt HND.out)).trans HND.out); go_simp) ?_
  simp only [Act.put, List.setIfInBounds_toArray, List.set_cons_zero, List.set_cons_succ]
  refine wpSch_take rfl (.int .i64 k) (fun _ _ _ _ h => HP.out _ _ _ _ (by rfl) h) (Below.refl _ _) (by rfl) (fun W2 hW => by go_simp) ?_
  simp only [Act.put, List.setIfInBounds_toArray, List.set_cons_zero, List.set_cons_succ]
  refine wpSch_take rfl (.pointer (some ⟨sb, so + k * 8, none⟩)) (fun _ _ _ _ h => HP.out _ _ _ _ (by rfl) h) (Below.refl _ _) (by rfl) (fun W2 hW => by go_simp) ?_
  simp only [Act.put, List.setIfInBounds_toArray, List.set_cons_zero, List.set_cons_succ]
  refine wpSch_take rfl (.pointer (some ⟨sb, so + k * 8, none⟩)) (fun _ _ _ _ h => HP.out _ _ _ _ (by rfl) h) (Below.refl _ _) (by rfl) (fun W2 hW => by go_simp) ?_
  simp only [Act.put, List.setIfInBounds_toArray, List.set_cons_zero, List.set_cons_succ]
  refine wpSch_take rfl (.int .i64 yid) (fun _ _ _ _ h => HP.out _ _ _ _ (by rfl) h) (Below.refl _ _) (by rfl) (fun W2 hW => by have q0 : W2.cell? ⟨sb, so + k * 8, none⟩ = some (.int .i64 yid) := sees_bel hW _ _ HC0.out; go_simp) ?_
  simp only [Act.put, List.setIfInBounds_toArray, List.set_cons_zero, List.set_cons_succ]
  refine wpSch_either rfl rfl (fun K hK => ?_) (fun K hK => ?_)
  · skip
    have cN := Lib.hid (Find_any HST.out HGD.out yid Wd (HSE0.out.bel HBD.out))
    go_simp
    refine cN.out.mono ?_
    rintro e wE ⟨xt, xe, xc, rfl, hxo, hxs, _, hxt, hxe, hxc, hbE⟩
    obtain ⟨xta, xtc, rfl⟩ := lrow_shape hxt
    obtain ⟨xea, xec, rfl⟩ := hxe.shape
    obtain ⟨xca, xcc, hxcv⟩ := hxc.shape
    rw [List.length_map] at hxcv
    subst hxcv
    dsimp only
    generalize (findS s yid).isSome = fb at *
    generalize styOf s yid = X at *
    clear cN hxc hxo
    have HSE : Hid (Below Wd.heap.size Wd wE) := Lib.hid (((Below.refl Wd.heap.size Wd)).trans (hbE.mono ((Below.refl Wd.heap.size Wd)).size))
    obtain ⟨T, hT⟩ : ∃ T, T = wE.heap.size := ⟨_, rfl⟩
    have HS1 : Hid (StrsM (memFr wE (fun k => k < W.heap.size ∨ k = T)) (.slice xta X.topics.length xtc) X.topics) := Lib.hid (lrow_strs hxt hxs (fun k hk q => by
      have h1 := hxt.ge k hk
      have h2 := HBD.out.size
      omega))
    have HE1 : Hid (EdnsM (memFr wE (fun k => k < W.heap.size ∨ k = T)) (.slice xea X.eds.length xec) X.eds) := Lib.hid (by
      obtain ⟨cs, h1, h2⟩ := hxe
      refine EVals.ednsM h1 (h2.mono (memFr_mono (Upd.refl (fun _ => False) wE) (fun k hk hf => ⟨fun q => ?_, fun q => q⟩))) (fun k hk q => ?_)
      · have h3 := HBD.out.size
        have h4 : ¬ k < Wd.heap.size := fun q => hf (.inl q)
        omega
      · have h1 := h1.ge k hk
        have h2 := HBD.out.size
        omega)
    clear hxt hxe hxs
    refine hK _ _ HSE.out ?_
    clear hK K
    refine wpSch_take rfl (.tuple #[.agg (styCells X (.slice xta X.topics.length xtc) (.slice xea X.eds.length xec) (.slice xca X.corr.length xcc)), .bool fb]) (fun _ _ _ _ h => HP.out _ _ _ _ (by rfl) h) HSE.out (by rfl) (fun W2 hW => by go_simp) ?_
    simp only [Act.put, List.setIfInBounds_toArray, List.set_cons_zero, List.set_cons_succ]
    refine wpSch_take rfl (.agg (styCells X (.slice xta X.topics.length xtc) (.slice xea X.eds.length xec) (.slice xca X.corr.length xcc))) (fun _ _ _ _ h => HP.out _ _ _ _ (by rfl) h) HSE.out (by rfl) (fun W2 hW => by go_simp) ?_
    simp only [Act.put, List.setIfInBounds_toArray, List.set_cons_zero, List.set_cons_succ]
    refine wpSch_take rfl (.bool fb) (fun _ _ _ _ h => HP.out _ _ _ _ (by rfl) h) HSE.out (by rfl) (fun W2 hW => by go_simp) ?_
    simp only [Act.put, List.setIfInBounds_toArray, List.set_cons_zero, List.set_cons_succ]
    refine wpSch_only rfl (fun K hK => ?_)
    rw [if_pos (by rfl)]
    go_simp
    obtain ⟨wG, hwG⟩ : ∃ wG, wG = wE.alloc (.cells #[.int .i64 0, .string ⟨#[]⟩, .slice none 0 0, .slice none 0 0, .int .i64 0, .slice none 0 0, .bool false, .bool false] 34) := ⟨_, rfl⟩
    have HTG : Hid (wG.heap[wE.heap.size]? = some (.cells #[.int .i64 0, .string ⟨#[]⟩, .slice none 0 0, .slice none 0 0, .int .i64 0, .slice none 0 0, .bool false, .bool false] 34 (0, 0))) := Lib.hid (by rw [hwG]; exact World.alloc_heap_new _ _)
    have HSG : Hid (Below Wd.heap.size Wd wG) := Lib.hid (by rw [hwG]; exact HSE.out.alloc HSE.out.size _)
    have hEG : Below wE.heap.size wE wG := by rw [hwG]; exact bel1 _ _
    have HEG := Lib.hid hEG
    have hTs := HSE.out.size
    rw [← hwG]
    refine hK _ _ HSG.out ?_
    clear hK K hwG hEG
    rw [← hT] at hTs HTG ⊢
    clear hT
    refine wpSch_only rfl (fun K hK => ?_)
    rw [if_pos (by rfl)]
    refine wp_sstore S_sty _ _ rfl rfl rfl HTG.out rfl rfl (by simp [Value.oneCell']) ?_
    obtain ⟨WF, hWF⟩ : ∃ WF, WF = wG.setRow T (styCells X (.slice xta X.topics.length xtc) (.slice xea X.eds.length xec) (.slice xca X.corr.length xcc)) := ⟨_, rfl⟩
    have HSF : Hid (Below Wd.heap.size Wd WF) := Lib.hid (by rw [hWF]; exact below_setRow HSG.out (by omega) _)
    have HTF : Hid (WF.heap[T]? = some (.cells (styCells X (.slice xta X.topics.length xtc) (.slice xea X.eds.length xec) (.slice xca X.corr.length xcc)) 34 (0, 0))) := Lib.hid (by rw [hWF]; exact setRow_heap _ _ _ _ _ _ HTG.out)
    have hmf : ∀ p u, memFr wE (fun k => k < W.heap.size ∨ k = T) p = some u → memFr WF (fun k => k < W.heap.size) p = some u := fun p u e => by
      rw [hWF]
      refine memFr_mono (F := fun k => k < W.heap.size ∨ k = T) (G := fun k => k < W.heap.size) (upd_row wG T _) (fun k hk hf => ⟨fun q => hf (Or.inl q), fun q => hf (Or.inr q)⟩) p u ?_
      exact memFr_below HEG.out p u e
    have HS2 := Lib.hid (HS1.out.mono hmf)
    have HE2 := Lib.hid (HE1.out.mono hmf)
    rw [← hWF]
    clear hWF hmf HS1 HE1
    simp only [Act.put]
    refine hK _ _ HSF.out ?_
    clear hK K
    refine wpSch_only rfl (fun K hK => ?_)
    rw [if_pos (by rfl)]
    go_simp
    refine hK _ _ HSF.out ?_
    clear hK K
    refine wpSch_done ?_
    have HBF : Hid (Below W.heap.size W WF) := Lib.hid (HBD.out.trans (HSF.out.mono HBD.out.size))
    have hTB : W.heap.size ≤ T := by have := HBD.out.size; omega
    have hfz : ∀ j, WF.frozen? ⟨T, j, none⟩ = false := fun j => rowfree HTF.out
    have M2 : Hid (memFr WF (fun k => k < W.heap.size) ⟨T, 2, none⟩ = some (.slice xta X.topics.length xtc)) := Lib.hid (memFr_of (rowcell HTF.out) (hfz 2) (by simp only; omega))
    have M3 : Hid (memFr WF (fun k => k < W.heap.size) ⟨T, 3, none⟩ = some (.slice xea X.eds.length xec)) := Lib.hid (memFr_of (rowcell HTF.out) (hfz 3) (by simp only; omega))
    obtain ⟨tb, to_, ⟨_, _, _, hv1, ht1, ht2, ht3⟩, _, htat⟩ := HS2.out
    injection hv1 with e1 _ e3
    subst e1 e3
    obtain ⟨_, _, eb, eo, hv2, he1, he2, he3, heat⟩ := SlM.open_ HE2.out
    injection hv2 with e1 _ e3
    subst e1 e3
    have HTA := Lib.hid ht3
    have HTT := Lib.hid htat
    have HEA := Lib.hid he3
    have HEE := Lib.hid heat
    have htl : X.topics.length ≤ 9223372036854775807 := by unfold maxLen at ht2; omega
    have hel : X.eds.length ≤ 9223372036854775807 := by unfold maxLen at he2; omega
    clear ht1 ht2 ht3 he1 he2 he3 heat htat HS2 HE2 hfz
    clear HSF HSE HND HC0 HBD
    go_wp2_with fail
    go_loopw [15] (fun i wz => ∃ j : Nat, j ≤ X.topics.length ∧ i = .int .i64 j ∧ Hid (Chg2 (fun k => k < W.heap.size) WF wz)) (fun i _ => X.topics.length - (intOf i).toNat)
    case atStart => exact ⟨0, Nat.zero_le _, rfl, Lib.hid (Chg2.start _ _)⟩
    case round =>
      obtain ⟨j, hj, rfl, HC⟩ := hrel
      have k2 := HC.out.sl M2.out rfl
      by_cases hjl : j < X.topics.length
      · obtain rfl := HTA.out (by omega)
        have hmem := HTT.out j hjl
        obtain ⟨u, hu⟩ := HC.out.some_ hmem
        have hz := HC.out.free hmem
        have HN := Lib.hid (fun t => HC.out.set hmem rfl t)
        clear hmem
        go_wp2_with fail
        go_roundw
        case rel => exact ⟨j + 1, by omega, by go_num, Lib.hid (HN.out _)⟩
        case measure => (try simp only [intOf]); omega
      · obtain rfl : j = X.topics.length := by omega
        have HC1 := HC
        go_wp2_with fail
        go_loopw [16] (fun i wz => ∃ j : Nat, j ≤ X.eds.length ∧ i = .int .i64 j ∧ Hid (Chg2 (fun k => k < W.heap.size) WF wz)) (fun i _ => X.eds.length - (intOf i).toNat)
        case atStart => exact ⟨0, Nat.zero_le _, rfl, HC1⟩
        case round =>
          obtain ⟨j, hj, rfl, HC⟩ := hrel
          have k3 := HC.out.sl M3.out rfl
          by_cases hjl : j < X.eds.length
          · obtain rfl := HEA.out (by omega)
            obtain ⟨_, bv, hcells, hbm⟩ := HEE.out j hjl
            obtain ⟨_, _, bb, bo, rfl, _, hbc, hba, hbat⟩ := hbm.open_
            have m5 : Hid (memFr WF (fun k => k < W.heap.size) ⟨eb, eo + j * 5 + 3, none⟩ = some (.slice _ (X.eds[j]'hjl).blocks.length _)) := Lib.hid (hcells.get 3 rfl)
            have HBA := Lib.hid hba
            have HBB := Lib.hid hbat
            have hbl : (X.eds[j]'hjl).blocks.length ≤ 9223372036854775807 := by unfold maxLen at hbc; omega
            clear hcells hbm hba hbat
            generalize (X.eds[j]'hjl).blocks = bl at *
            have HC2 := HC
            go_wp2_with fail
            clear k3
            go_loopw [17] (fun i wz => ∃ m : Nat, m ≤ bl.length ∧ i = .int .i64 m ∧ Hid (Chg2 (fun k => k < W.heap.size) WF wz)) (fun i _ => bl.length - (intOf i).toNat)
            case atStart => exact ⟨0, Nat.zero_le _, rfl, HC2⟩
            case round =>
              obtain ⟨m, hm, rfl, HC⟩ := hrel
              have k3 := HC.out.sl M3.out rfl
              have k5 := HC.out.sl m5.out rfl
              by_cases hml : m < bl.length
              · rw [HBA.out (by omega)] at k5
                have hmem := (HBB.out m hml).1.2.2.1
                obtain ⟨u, hu⟩ := HC.out.some_ hmem
                have hz := HC.out.free hmem
                have HN := Lib.hid (fun t => HC.out.set hmem rfl t)
                clear hmem
                go_wp2_with fail
                go_roundw
                case rel => exact ⟨m + 1, by omega, by go_num, Lib.hid (HN.out _)⟩
                case measure => (try simp only [intOf]); omega
              · obtain rfl : m = bl.length := by omega
                have HC3 := HC
                go_wp2_with fail
                go_roundw
                case rel => exact ⟨j + 1, by omega, by go_num, HC3⟩
                case measure => (try simp only [intOf]); omega
          · obtain rfl : j = X.eds.length := by omega
            have HFN : Hid (Below W.heap.size W wr) := Lib.hid (by
              have h := HC.out.upd
              have h0 := HBF.out
              exact ⟨h.os.trans h0.os, h.tape.trans h0.tape, h.output.trans h0.output, Nat.le_trans h0.size h.size, fun k hk => (h.block k (Nat.lt_of_lt_of_le hk h0.size) (fun q => q hk)).trans (h0.block k hk)⟩)
            go_wp2_with fail
            exact HQ.out _ _ _ _ _ _ _ _ _ _ _ _ _ _ _ _ _ _ _ _ _ _ _ _ _ _ _ _ _ _ _ _ _ _ _ _ _ _ _ _ _ _ _ _ _ _ _ _ _ _ _ _ _ _ _ _ _ _ _ _ _ _ _ (by go_num) HFN.out
  · skip
    rw [if_pos (by rfl)]
    go_simp
    obtain ⟨wG, hwG⟩ : ∃ wG, wG = Wd.alloc (.cells #[.int .i64 0, .string ⟨#[]⟩, .slice none 0 0, .slice none 0 0, .int .i64 0, .slice none 0 0, .bool false, .bool false] 34) := ⟨_, rfl⟩
    have HTG : Hid (wG.heap[Wd.heap.size]? = some (.cells #[.int .i64 0, .string ⟨#[]⟩, .slice none 0 0, .slice none 0 0, .int .i64 0, .slice none 0 0, .bool false, .bool false] 34 (0, 0))) := Lib.hid (by rw [hwG]; exact World.alloc_heap_new _ _)
    have HSG : Hid (Below Wd.heap.size Wd wG) := Lib.hid (by rw [hwG]; exact bel1 Wd _)
    have HBG : Hid (Below W.heap.size W wG) := Lib.hid (HBD.out.trans (HSG.out.mono HBD.out.size))
    rw [← hwG]
    refine hK _ _ HSG.out ?_
    clear hK K hwG
    refine wpSch_only rfl (fun K hK => ?_)
    have cN := Lib.hid (Find_any HST.out HGD.out yid wG (HSE0.out.bel HBG.out))
    go_simp
    refine cN.out.mono ?_
    rintro e wE ⟨xt, xe, xc, rfl, hxo, hxs, _, hxt, hxe, hxc, hbE⟩
    obtain ⟨xta, xtc, rfl⟩ := lrow_shape hxt
    obtain ⟨xea, xec, rfl⟩ := hxe.shape
    obtain ⟨xca, xcc, hxcv⟩ := hxc.shape
    rw [List.length_map] at hxcv
    subst hxcv
    dsimp only
    generalize (findS s yid).isSome = fb at *
    generalize styOf s yid = X at *
    clear cN hxc hxo
    have HSE : Hid (Below Wd.heap.size Wd wE) := Lib.hid ((HSG.out).trans (hbE.mono (HSG.out).size))
    have hTl : Wd.heap.size < wG.heap.size := Go.Proofs.YtdkkhmjlamkgdaaGreatDoor.hlt HTG.out
    have HTE := Lib.hid ((hbE.block _ hTl).trans HTG.out)
    have HS1 : Hid (StrsM (memFr wE (fun k => k < W.heap.size ∨ k = Wd.heap.size)) (.slice xta X.topics.length xtc) X.topics) := Lib.hid (lrow_strs hxt hxs (fun k hk q => by
      have h1 := hxt.ge k hk
      have h2 := HBD.out.size
      omega))
    have HE1 : Hid (EdnsM (memFr wE (fun k => k < W.heap.size ∨ k = Wd.heap.size)) (.slice xea X.eds.length xec) X.eds) := Lib.hid (by
      obtain ⟨cs, h1, h2⟩ := hxe
      refine EVals.ednsM h1 (h2.mono (memFr_mono (Upd.refl (fun _ => False) wE) (fun k hk hf => ⟨fun q => ?_, fun q => q⟩))) (fun k hk q => ?_)
      · have h3 := HBD.out.size
        have h4 : ¬ k < wG.heap.size := fun q => hf (.inl q)
        omega
      · have h1 := h1.ge k hk
        have h2 := HBD.out.size
        omega)
    clear hxt hxe hxs
    refine hK _ _ HSE.out ?_
    clear hK K
    refine wpSch_take rfl (.tuple #[.agg (styCells X (.slice xta X.topics.length xtc) (.slice xea X.eds.length xec) (.slice xca X.corr.length xcc)), .bool fb]) (fun _ _ _ _ h => HP.out _ _ _ _ (by rfl) h) HSE.out (by rfl) (fun W2 hW => by go_simp) ?_
    simp only [Act.put, List.setIfInBounds_toArray, List.set_cons_zero, List.set_cons_succ]
    refine wpSch_take rfl (.agg (styCells X (.slice xta X.topics.length xtc) (.slice xea X.eds.length xec) (.slice xca X.corr.length xcc))) (fun _ _ _ _ h => HP.out _ _ _ _ (by rfl) h) HSE.out (by rfl) (fun W2 hW => by go_simp) ?_
    simp only [Act.put, List.setIfInBounds_toArray, List.set_cons_zero, List.set_cons_succ]
    refine wpSch_take rfl (.bool fb) (fun _ _ _ _ h => HP.out _ _ _ _ (by rfl) h) HSE.out (by rfl) (fun W2 hW => by go_simp) ?_
    simp only [Act.put, List.setIfInBounds_toArray, List.set_cons_zero, List.set_cons_succ]
    refine wpSch_only rfl (fun K hK => ?_)
    rw [if_pos (by rfl)]
    refine wp_sstore S_sty _ _ rfl rfl rfl HTE.out rfl rfl (by simp [Value.oneCell']) ?_
    obtain ⟨WF, hWF⟩ : ∃ WF, WF = wE.setRow Wd.heap.size (styCells X (.slice xta X.topics.length xtc) (.slice xea X.eds.length xec) (.slice xca X.corr.length xcc)) := ⟨_, rfl⟩
    have HSF : Hid (Below Wd.heap.size Wd WF) := Lib.hid (by rw [hWF]; exact below_setRow HSE.out (by omega) _)
    have HTF : Hid (WF.heap[Wd.heap.size]? = some (.cells (styCells X (.slice xta X.topics.length xtc) (.slice xea X.eds.length xec) (.slice xca X.corr.length xcc)) 34 (0, 0))) := Lib.hid (by rw [hWF]; exact setRow_heap _ _ _ _ _ _ HTE.out)
    have hmf : ∀ p u, memFr wE (fun k => k < W.heap.size ∨ k = Wd.heap.size) p = some u → memFr WF (fun k => k < W.heap.size) p = some u := fun p u e => by
      rw [hWF]
      refine memFr_mono (F := fun k => k < W.heap.size ∨ k = Wd.heap.size) (G := fun k => k < W.heap.size) (upd_row wE Wd.heap.size _) (fun k hk hf => ⟨fun q => hf (Or.inl q), fun q => hf (Or.inr q)⟩) p u ?_
      exact e
    have HS2 := Lib.hid (HS1.out.mono hmf)
    have HE2 := Lib.hid (HE1.out.mono hmf)
    rw [← hWF]
    clear hWF hmf HS1 HE1
    simp only [Act.put]
    refine hK _ _ HSF.out ?_
    clear hK K
    refine wpSch_only rfl (fun K hK => ?_)
    rw [if_pos (by rfl)]
    go_simp
    refine hK _ _ HSF.out ?_
    clear hK K
    refine wpSch_done ?_
    have HBF : Hid (Below W.heap.size W WF) := Lib.hid (HBD.out.trans (HSF.out.mono HBD.out.size))
    have hTB : W.heap.size ≤ Wd.heap.size := by have := HBD.out.size; omega
    have hfz : ∀ j, WF.frozen? ⟨Wd.heap.size, j, none⟩ = false := fun j => rowfree HTF.out
    have M2 : Hid (memFr WF (fun k => k < W.heap.size) ⟨Wd.heap.size, 2, none⟩ = some (.slice xta X.topics.length xtc)) := Lib.hid (memFr_of (rowcell HTF.out) (hfz 2) (by simp only; omega))
    have M3 : Hid (memFr WF (fun k => k < W.heap.size) ⟨Wd.heap.size, 3, none⟩ = some (.slice xea X.eds.length xec)) := Lib.hid (memFr_of (rowcell HTF.out) (hfz 3) (by simp only; omega))
    obtain ⟨tb, to_, ⟨_, _, _, hv1, ht1, ht2, ht3⟩, _, htat⟩ := HS2.out
    injection hv1 with e1 _ e3
    subst e1 e3
    obtain ⟨_, _, eb, eo, hv2, he1, he2, he3, heat⟩ := SlM.open_ HE2.out
    injection hv2 with e1 _ e3
    subst e1 e3
    have HTA := Lib.hid ht3
    have HTT := Lib.hid htat
    have HEA := Lib.hid he3
    have HEE := Lib.hid heat
    have htl : X.topics.length ≤ 9223372036854775807 := by unfold maxLen at ht2; omega
    have hel : X.eds.length ≤ 9223372036854775807 := by unfold maxLen at he2; omega
    clear ht1 ht2 ht3 he1 he2 he3 heat htat HS2 HE2 hfz
    clear HSF HSE HND HC0 HBD
    go_wp2_with fail
    go_loopw [15] (fun i wz => ∃ j : Nat, j ≤ X.topics.length ∧ i = .int .i64 j ∧ Hid (Chg2 (fun k => k < W.heap.size) WF wz)) (fun i _ => X.topics.length - (intOf i).toNat)
    case atStart => exact ⟨0, Nat.zero_le _, rfl, Lib.hid (Chg2.start _ _)⟩
    case round =>
      obtain ⟨j, hj, rfl, HC⟩ := hrel
      have k2 := HC.out.sl M2.out rfl
      by_cases hjl : j < X.topics.length
      · obtain rfl := HTA.out (by omega)
        have hmem := HTT.out j hjl
        obtain ⟨u, hu⟩ := HC.out.some_ hmem
        have hz := HC.out.free hmem
        have HN := Lib.hid (fun t => HC.out.set hmem rfl t)
        clear hmem
        go_wp2_with fail
        go_roundw
        case rel => exact ⟨j + 1, by omega, by go_num, Lib.hid (HN.out _)⟩
        case measure => (try simp only [intOf]); omega
      · obtain rfl : j = X.topics.length := by omega
        have HC1 := HC
        go_wp2_with fail
        go_loopw [16] (fun i wz => ∃ j : Nat, j ≤ X.eds.length ∧ i = .int .i64 j ∧ Hid (Chg2 (fun k => k < W.heap.size) WF wz)) (fun i _ => X.eds.length - (intOf i).toNat)
        case atStart => exact ⟨0, Nat.zero_le _, rfl, HC1⟩
        case round =>
          obtain ⟨j, hj, rfl, HC⟩ := hrel
          have k3 := HC.out.sl M3.out rfl
          by_cases hjl : j < X.eds.length
          · obtain rfl := HEA.out (by omega)
            obtain ⟨_, bv, hcells, hbm⟩ := HEE.out j hjl
            obtain ⟨_, _, bb, bo, rfl, _, hbc, hba, hbat⟩ := hbm.open_
            have m5 : Hid (memFr WF (fun k => k < W.heap.size) ⟨eb, eo + j * 5 + 3, none⟩ = some (.slice _ (X.eds[j]'hjl).blocks.length _)) := Lib.hid (hcells.get 3 rfl)
            have HBA := Lib.hid hba
            have HBB := Lib.hid hbat
            have hbl : (X.eds[j]'hjl).blocks.length ≤ 9223372036854775807 := by unfold maxLen at hbc; omega
            clear hcells hbm hba hbat
            generalize (X.eds[j]'hjl).blocks = bl at *
            have HC2 := HC
            go_wp2_with fail
            clear k3
            go_loopw [17] (fun i wz => ∃ m : Nat, m ≤ bl.length ∧ i = .int .i64 m ∧ Hid (Chg2 (fun k => k < W.heap.size) WF wz)) (fun i _ => bl.length - (intOf i).toNat)
            case atStart => exact ⟨0, Nat.zero_le _, rfl, HC2⟩
            case round =>
              obtain ⟨m, hm, rfl, HC⟩ := hrel
              have k3 := HC.out.sl M3.out rfl
              have k5 := HC.out.sl m5.out rfl
              by_cases hml : m < bl.length
              · rw [HBA.out (by omega)] at k5
                have hmem := (HBB.out m hml).1.2.2.1
                obtain ⟨u, hu⟩ := HC.out.some_ hmem
                have hz := HC.out.free hmem
                have HN := Lib.hid (fun t => HC.out.set hmem rfl t)
                clear hmem
                go_wp2_with fail
                go_roundw
                case rel => exact ⟨m + 1, by omega, by go_num, Lib.hid (HN.out _)⟩
                case measure => (try simp only [intOf]); omega
              · obtain rfl : m = bl.length := by omega
                have HC3 := HC
                go_wp2_with fail
                go_roundw
                case rel => exact ⟨j + 1, by omega, by go_num, HC3⟩
                case measure => (try simp only [intOf]); omega
          · obtain rfl : j = X.eds.length := by omega
            have HFN : Hid (Below W.heap.size W wr) := Lib.hid (by
              have h := HC.out.upd
              have h0 := HBF.out
              exact ⟨h.os.trans h0.os, h.tape.trans h0.tape, h.output.trans h0.output, Nat.le_trans h0.size h.size, fun k hk => (h.block k (Nat.lt_of_lt_of_le hk h0.size) (fun q => q hk)).trans (h0.block k hk)⟩)
            go_wp2_with fail
            exact HQ.out _ _ _ _ _ _ _ _ _ _ _ _ _ _ _ _ _ _ _ _ _ _ _ _ _ _ _ _ _ _ _ _ _ _ _ _ _ _ _ _ _ _ _ _ _ _ _ _ _ _ _ _ _ _ _ _ _ _ _ _ _ _ _ (by go_num) HFN.out
set_option maxRecDepth 100000 in
set_option maxHeartbeats 4000000 in
theorem frSt_loop {mem1 : Addr → Option Value} {W : World} {a b : Option Addr} {c d n10 : Nat} {s : StF} {sb so : Nat} (C : FrC mem1 W a c b d n10 s sb so) (c0 c1 c2 c3 c4 c5 c6 c7 c8 c9 c11 c18 c19 c20 c21 c22 c23 c24 c25 c26 c27 c28 c29 c30 c31 c32 c33 c34 c35 c36 c37 c38 c39 c40 c41 c42 c43 c44 c45 c46 c47 c48 c49 c50 c51 c52 c53 c54 c55 c56 c57 c58 c59 c60 c61 c62 c63 c64 c65 c66 c67 c68 c69 c70 c71 c72 c73 c74 c75 c76 c77 c78 c79 c136 c137 c138 c139 c140 c141 c142 c143 c144 c145 c146 c147 c148 c149 c150 c151 c152 c153 c154 c155 c156 c157 c158 c159 c160 c161 c162 c163 c164 c165 c166 c167 c168 c169 c170 c171 c172 c173 c174 c175 c176 c177 c178 c179 c180 c181 c182 c183 c184 c185 c186 c187 c188 c189 c190 c191 c192 c193 c194 c195 c196 c197 c198 c199 c200 c201 c202 c203 c204 c205 c206 c207 c208 c209 : Value) (u12 u13 u14 u15 u16 u17 u80 u81 u82 u83 u84 u85 u86 u87 u88 u89 u90 u91 u92 u93 u94 u95 u96 u97 u98 u99 u100 u101 u102 u103 u104 u105 u106 u107 u108 u109 u110 u111 u112 u113 u114 u115 u116 u117 u118 u119 u120 u121 u122 u123 u124 u125 u126 u127 u128 u129 u130 u131 u132 u133 u134 u135 : Value) (h0 : u12 = .int .i64 0) (wr : World) (hB : Below W.heap.size W wr) (Q : Exit → Act → World → Prop)
    (hQ : ∀ (u12 u13 u14 u15 u16 u17 u80 u81 u82 u83 u84 u85 u86 u87 u88 u89 u90 u91 u92 u93 u94 u95 u96 u97 u98 u99 u100 u101 u102 u103 u104 u105 u106 u107 u108 u109 u110 u111 u112 u113 u114 u115 u116 u117 u118 u119 u120 u121 u122 u123 u124 u125 u126 u127 u128 u129 u130 u131 u132 u133 u134 u135 : Value) (w2 : World), Below W.heap.size W w2 → Q (.exit 4) ⟨#[c0, c1, c2, c3, c4, c5, c6, c7, c8, c9, .pointer (some ⟨n10, 0, none⟩), c11, u12, u13, u14, u15, u16, u17, c18, c19, c20, c21, c22, c23, c24, c25, c26, c27, c28, c29, c30, c31, c32, c33, c34, c35, c36, c37, c38, c39, c40, c41, c42, c43, c44, c45, c46, c47, c48, c49, c50, c51, c52, c53, c54, c55, c56, c57, c58, c59, c60, c61, c62, c63, c64, c65, c66, c67, c68, c69, c70, c71, c72, c73, c74, c75, c76, c77, c78, c79, u80, u81, u82, u83, u84, u85, u86, u87, u88, u89, u90, u91, u92, u93, u94, u95, u96, u97, u98, u99, u100, u101, u102, u103, u104, u105, u106, u107, u108, u109, u110, u111, u112, u113, u114, u115, u116, u117, u118, u119, u120, u121, u122, u123, u124, u125, u126, u127, u128, u129, u130, u131, u132, u133, u134, u135, c136, c137, c138, c139, c140, c141, c142, c143, c144, c145, c146, c147, c148, c149, c150, c151, c152, c153, c154, c155, c156, c157, c158, c159, c160, c161, c162, c163, c164, c165, c166, c167, c168, c169, c170, c171, c172, c173, c174, c175, c176, c177, c178, c179, c180, c181, c182, c183, c184, c185, c186, c187, c188, c189, c190, c191, c192, c193, c194, c195, c196, c197, c198, c199, c200, c201, c202, c203, c204, c205, c206, c207, c208, c209], []⟩ w2) (hP : ∀ c a a2 w2, a2.defers = a.defers → Q (.panic c) a w2 → Q (.panic c) a2 w2) :
    (Code.loop frSt).wp Tryz.prog Q ⟨#[c0, c1, c2, c3, c4, c5, c6, c7, c8, c9, .pointer (some ⟨n10, 0, none⟩), c11, u12, u13, u14, u15, u16, u17, c18, c19, c20, c21, c22, c23, c24, c25, c26, c27, c28, c29, c30, c31, c32, c33, c34, c35, c36, c37, c38, c39, c40, c41, c42, c43, c44, c45, c46, c47, c48, c49, c50, c51, c52, c53, c54, c55, c56, c57, c58, c59, c60, c61, c62, c63, c64, c65, c66, c67, c68, c69, c70, c71, c72, c73, c74, c75, c76, c77, c78, c79, u80, u81, u82, u83, u84, u85, u86, u87, u88, u89, u90, u91, u92, u93, u94, u95, u96, u97, u98, u99, u100, u101, u102, u103, u104, u105, u106, u107, u108, u109, u110, u111, u112, u113, u114, u115, u116, u117, u118, u119, u120, u121, u122, u123, u124, u125, u126, u127, u128, u129, u130, u131, u132, u133, u134, u135, c136, c137, c138, c139, c140, c141, c142, c143, c144, c145, c146, c147, c148, c149, c150, c151, c152, c153, c154, c155, c156, c157, c158, c159, c160, c161, c162, c163, c164, c165, c166, c167, c168, c169, c170, c171, c172, c173, c174, c175, c176, c177, c178, c179, c180, c181, c182, c183, c184, c185, c186, c187, c188, c189, c190, c191, c192, c193, c194, c195, c196, c197, c198, c199, c200, c201, c202, c203, c204, c205, c206, c207, c208, c209], []⟩ wr := by
  refine wp_loop (fun a' w => ∃ U : Nat → Value, (∃ j : Nat, j ≤ s.stories.length ∧ U 12 = .int .i64 (j : Int) ∧ Below W.heap.size W w) ∧ a' = ⟨#[c0, c1, c2, c3, c4, c5, c6, c7, c8, c9, .pointer (some ⟨n10, 0, none⟩), c11, U 12, U 13, U 14, U 15, U 16, U 17, c18, c19, c20, c21, c22, c23, c24, c25, c26, c27, c28, c29, c30, c31, c32, c33, c34, c35, c36, c37, c38, c39, c40, c41, c42, c43, c44, c45, c46, c47, c48, c49, c50, c51, c52, c53, c54, c55, c56, c57, c58, c59, c60, c61, c62, c63, c64, c65, c66, c67, c68, c69, c70, c71, c72, c73, c74, c75, c76, c77, c78, c79, U 80, U 81, U 82, U 83, U 84, U 85, U 86, U 87, U 88, U 89, U 90, U 91, U 92, U 93, U 94, U 95, U 96, U 97, U 98, U 99, U 100, U 101, U 102, U 103, U 104, U 105, U 106, U 107, U 108, U 109, U 110, U 111, U 112, U 113, U 114, U 115, U 116, U 117, U 118, U 119, U 120, U 121, U 122, U 123, U 124, U 125, U 126, U 127, U 128, U 129, U 130, U 131, U 132, U 133, U 134, U 135, c136, c137, c138, c139, c140, c141, c142, c143, c144, c145, c146, c147, c148, c149, c150, c151, c152, c153, c154, c155, c156, c157, c158, c159, c160, c161, c162, c163, c164, c165, c166, c167, c168, c169, c170, c171, c172, c173, c174, c175, c176, c177, c178, c179, c180, c181, c182, c183, c184, c185, c186, c187, c188, c189, c190, c191, c192, c193, c194, c195, c196, c197, c198, c199, c200, c201, c202, c203, c204, c205, c206, c207, c208, c209], []⟩) (fun a' _ => s.stories.length - (intOf (a'.tmps.getD 12 undef)).toNat) ⟨fun i => ([undef, undef, undef, undef, undef, undef, undef, undef, undef, undef, undef, undef, u12, u13, u14, u15, u16, u17, undef, undef, undef, undef, undef, undef, undef, undef, undef, undef, undef, undef, undef, undef, undef, undef, undef, undef, undef, undef, undef, undef, undef, undef, undef, undef, undef, undef, undef, undef, undef, undef, undef, undef, undef, undef, undef, undef, undef, undef, undef, undef, undef, undef, undef, undef, undef, undef, undef, undef, undef, undef, undef, undef, undef, undef, undef, undef, undef, undef, undef, undef, u80, u81, u82, u83, u84, u85, u86, u87, u88, u89, u90, u91, u92, u93, u94, u95, u96, u97, u98, u99, u100, u101, u102, u103, u104, u105, u106, u107, u108, u109, u110, u111, u112, u113, u114, u115, u116, u117, u118, u119, u120, u121, u122, u123, u124, u125, u126, u127, u128, u129, u130, u131, u132, u133, u134, u135, undef, undef, undef, undef, undef, undef, undef, undef, undef, undef, undef, undef, undef, undef, undef, undef, undef, undef, undef, undef, undef, undef, undef, undef, undef, undef, undef, undef, undef, undef, undef, undef, undef, undef, undef, undef, undef, undef, undef, undef, undef, undef, undef, undef, undef, undef, undef, undef, undef, undef, undef, undef, undef, undef, undef, undef, undef, undef, undef, undef, undef, undef, undef, undef, undef, undef, undef, undef, undef, undef, undef, undef, undef, undef] : List Value).getD i undef, ⟨0, Nat.zero_le _, h0, hB⟩, rfl⟩ ?_
  rintro a' w2 ⟨U, ⟨j, hj, e, hB2⟩, rfl⟩
  by_cases hlt : j < s.stories.length
  · rw [e]
    refine frSt_round C _ _ _ _ _ _ _ _ _ _ _ _ _ _ _ _ _ _ _ _ _ _ _ _ _ _ _ _ _ _ _ _ _ _ _ _ _ _ _ _ _ _ _ _ _ _ _ _ _ _ _ _ _ _ _ _ _ _ _ _ _ _ _ _ _ _ _ _ _ _ _ _ _ _ _ _ _ _ _ _ _ _ _ _ _ _ _ _ _ _ _ _ _ _ _ _ _ _ _ _ _ _ _ _ _ _ _ _ _ _ _ _ _ _ _ _ _ _ _ _ _ _ _ _ _ _ _ _ _ _ _ _ _ _ _ _ _ _ _ _ _ _ _ _ _ _ _ _ _ _ _ _ _ _ _ _ _ _ _ _ _ _ _ _ _ _ _ _ _ _ _ _ _ _ _ _ _ _ _ _ _ _ _ _ _ _ _ _ _ _ _ _ _ _ _ _ _ _ _ _ _ _ _ _ _ _ _ _ j hlt w2 hB2 _ ?_ (fun c a a2 w2 e h => hP c a a2 w2 e h)
    intro u12 u13 u14 u15 u16 u17 u80 u81 u82 u83 u84 u85 u86 u87 u88 u89 u90 u91 u92 u93 u94 u95 u96 u97 u98 u99 u100 u101 u102 u103 u104 u105 u106 u107 u108 u109 u110 u111 u112 u113 u114 u115 u116 u117 u118 u119 u120 u121 u122 u123 u124 u125 u126 u127 u128 u129 u130 u131 u132 u133 u134 u135 w3 e3 hB3
    refine ⟨⟨fun i => ([undef, undef, undef, undef, undef, undef, undef, undef, undef, undef, undef, undef, u12, u13, u14, u15, u16, u17, undef, undef, undef, undef, undef, undef, undef, undef, undef, undef, undef, undef, undef, undef, undef, undef, undef, undef, undef, undef, undef, undef, undef, undef, undef, undef, undef, undef, undef, undef, undef, undef, undef, undef, undef, undef, undef, undef, undef, undef, undef, undef, undef, undef, undef, undef, undef, undef, undef, undef, undef, undef, undef, undef, undef, undef, undef, undef, undef, undef, undef, undef, u80, u81, u82, u83, u84, u85, u86, u87, u88, u89, u90, u91, u92, u93, u94, u95, u96, u97, u98, u99, u100, u101, u102, u103, u104, u105, u106, u107, u108, u109, u110, u111, u112, u113, u114, u115, u116, u117, u118, u119, u120, u121, u122, u123, u124, u125, u126, u127, u128, u129, u130, u131, u132, u133, u134, u135, undef, undef, undef, undef, undef, undef, undef, undef, undef, undef, undef, undef, undef, undef, undef, undef, undef, undef, undef, undef, undef, undef, undef, undef, undef, undef, undef, undef, undef, undef, undef, undef, undef, undef, undef, undef, undef, undef, undef, undef, undef, undef, undef, undef, undef, undef, undef, undef, undef, undef, undef, undef, undef, undef, undef, undef, undef, undef, undef, undef, undef, undef, undef, undef, undef, undef, undef, undef, undef, undef, undef, undef, undef, undef] : List Value).getD i undef, ⟨j + 1, hlt, e3, hB3⟩, rfl⟩, ?_⟩
    show s.stories.length - (intOf u12).toNat < s.stories.length - (intOf (.int .i64 (j : Nat))).toNat
    rw [e3]
    simp [intOf]; omega
  · obtain rfl : j = s.stories.length := by omega
    rw [e]
    have HQ := Lib.hid hQ
    have HB2 := Lib.hid hB2
    have k0 : w2.cell? ⟨n10, 0, none⟩ = some (.slice a s.stories.length c) := rowcell ((hB2.block _ (Go.Proofs.YtdkkhmjlamkgdaaGreatDoor.hlt C.box)).trans C.box)
    clear hQ hB2 e hlt hj C hB h0
    conv => arg 2; whnf
    go_wp2_with fail
    exact HQ.out _ _ _ _ _ _ _ _ _ _ _ _ _ _ _ _ _ _ _ _ _ _ _ _ _ _ _ _ _ _ _ _ _ _ _ _ _ _ _ _ _ _ _ _ _ _ _ _ _ _ _ _ _ _ _ _ _ _ _ _ _ _ _ HB2.out
end Go.Proofs.YtdkkhmjlamkgdaaGreatDoor
namespace Go.Proofs.YtdkkhmjlamkgdaaGreatDoor
open Go.RowKit Mg Go.Shelf Go.Maps

structure FwC (F : Nat → Prop) (W : World) (va : Option Addr) (vc : Nat) (fs : List FctE) (rb ro : Nat) : Prop where
  va : 0 < fs.length → va = some ⟨rb, ro, none⟩
  at_ : ∀ j (h : j < fs.length), fs[j].at (memFr W F) rb (ro + j * 23)
  tops : ∀ x ∈ fs, StrsM (memFr W F) x.tv x.f.topics
  blks : ∀ x ∈ fs, BlksM (memFr W F) x.bv x.f.blocks
  len : fs.length ≤ 9223372036854775807
noncomputable def frOver : Code := ((Tryz.f15.body.map loopsFr).getD []).getD 6 .skip
set_option maxRecDepth 100000 in
set_option maxHeartbeats 8000000 in
theorem frOver_round {F : Nat → Prop} {W : World} {va : Option Addr} {vc : Nat} {fs : List FctE} {rb ro : Nat} (C : FwC F W va vc fs rb ro) (c0 c1 c2 c3 c5 c6 c7 c8 c9 c10 c11 c12 c13 c14 c15 c16 c17 c22 c23 c24 c25 c26 c27 c28 c29 c30 c31 c32 c33 c34 c35 c36 c37 c38 c39 c40 c41 c42 c43 c44 c45 c46 c47 c48 c49 c50 c51 c52 c53 c54 c55 c56 c57 c58 c59 c60 c61 c62 c63 c64 c65 c66 c67 c68 c69 c70 c71 c72 c73 c74 c75 c76 c77 c78 c79 c80 c81 c82 c83 c84 c85 c86 c87 c88 c89 c90 c91 c92 c93 c94 c95 c96 c97 c98 c99 c100 c101 c102 c103 c104 c105 c106 c107 c108 c109 c110 c111 c112 c113 c114 c115 c116 c117 c118 c119 c120 c121 c122 c123 c124 c125 c126 c127 c128 c129 c130 c131 c132 c133 c134 c135 c204 c205 c206 c207 c208 c209 : Value) (u19 u20 u21 u136 u137 u138 u139 u140 u141 u142 u143 u144 u145 u146 u147 u148 u149 u150 u151 u152 u153 u154 u155 u156 u157 u158 u159 u160 u161 u162 u163 u164 u165 u166 u167 u168 u169 u170 u171 u172 u173 u174 u175 u176 u177 u178 u179 u180 u181 u182 u183 u184 u185 u186 u187 u188 u189 u190 u191 u192 u193 u194 u195 u196 u197 u198 u199 u200 u201 u202 u203 : Value) (k : Nat) (hlt : k < fs.length) (wr : World) (hB : Chg2 F W wr) (Q : Exit → Act → World → Prop)
    (hQ : ∀ (u18 u19 u20 u21 u136 u137 u138 u139 u140 u141 u142 u143 u144 u145 u146 u147 u148 u149 u150 u151 u152 u153 u154 u155 u156 u157 u158 u159 u160 u161 u162 u163 u164 u165 u166 u167 u168 u169 u170 u171 u172 u173 u174 u175 u176 u177 u178 u179 u180 u181 u182 u183 u184 u185 u186 u187 u188 u189 u190 u191 u192 u193 u194 u195 u196 u197 u198 u199 u200 u201 u202 u203 : Value) (w2 : World), u18 = .int .i64 ((k + 1 : Nat) : Int) → Chg2 F W w2 → Q .normal ⟨#[c0, c1, c2, c3, .slice va fs.length vc, c5, c6, c7, c8, c9, c10, c11, c12, c13, c14, c15, c16, c17, u18, u19, u20, u21, c22, c23, c24, c25, c26, c27, c28, c29, c30, c31, c32, c33, c34, c35, c36, c37, c38, c39, c40, c41, c42, c43, c44, c45, c46, c47, c48, c49, c50, c51, c52, c53, c54, c55, c56, c57, c58, c59, c60, c61, c62, c63, c64, c65, c66, c67, c68, c69, c70, c71, c72, c73, c74, c75, c76, c77, c78, c79, c80, c81, c82, c83, c84, c85, c86, c87, c88, c89, c90, c91, c92, c93, c94, c95, c96, c97, c98, c99, c100, c101, c102, c103, c104, c105, c106, c107, c108, c109, c110, c111, c112, c113, c114, c115, c116, c117, c118, c119, c120, c121, c122, c123, c124, c125, c126, c127, c128, c129, c130, c131, c132, c133, c134, c135, u136, u137, u138, u139, u140, u141, u142, u143, u144, u145, u146, u147, u148, u149, u150, u151, u152, u153, u154, u155, u156, u157, u158, u159, u160, u161, u162, u163, u164, u165, u166, u167, u168, u169, u170, u171, u172, u173, u174, u175, u176, u177, u178, u179, u180, u181, u182, u183, u184, u185, u186, u187, u188, u189, u190, u191, u192, u193, u194, u195, u196, u197, u198, u199, u200, u201, u202, u203, c204, c205, c206, c207, c208, c209], []⟩ w2) :
    frOver.wp Tryz.prog Q ⟨#[c0, c1, c2, c3, .slice va fs.length vc, c5, c6, c7, c8, c9, c10, c11, c12, c13, c14, c15, c16, c17, .int .i64 (k : Nat), u19, u20, u21, c22, c23, c24, c25, c26, c27, c28, c29, c30, c31, c32, c33, c34, c35, c36, c37, c38, c39, c40, c41, c42, c43, c44, c45, c46, c47, c48, c49, c50, c51, c52, c53, c54, c55, c56, c57, c58, c59, c60, c61, c62, c63, c64, c65, c66, c67, c68, c69, c70, c71, c72, c73, c74, c75, c76, c77, c78, c79, c80, c81, c82, c83, c84, c85, c86, c87, c88, c89, c90, c91, c92, c93, c94, c95, c96, c97, c98, c99, c100, c101, c102, c103, c104, c105, c106, c107, c108, c109, c110, c111, c112, c113, c114, c115, c116, c117, c118, c119, c120, c121, c122, c123, c124, c125, c126, c127, c128, c129, c130, c131, c132, c133, c134, c135, u136, u137, u138, u139, u140, u141, u142, u143, u144, u145, u146, u147, u148, u149, u150, u151, u152, u153, u154, u155, u156, u157, u158, u159, u160, u161, u162, u163, u164, u165, u166, u167, u168, u169, u170, u171, u172, u173, u174, u175, u176, u177, u178, u179, u180, u181, u182, u183, u184, u185, u186, u187, u188, u189, u190, u191, u192, u193, u194, u195, u196, u197, u198, u199, u200, u201, u202, u203, c204, c205, c206, c207, c208, c209], []⟩ wr := by
  have HQ := Lib.hid hQ
  have HC0 := Lib.hid hB
  have hnl := C.len
  have hlk : (k : Int) < fs.length := by omega
  obtain rfl := C.va (by omega)
  have hat := C.at_ k hlt
  have htp := C.tops _ (List.getElem_mem hlt)
  have hbk := C.blks _ (List.getElem_mem hlt)
  clear hQ hB C
  generalize fs[k] = x at *
  have M9 : Hid (memFr W F ⟨rb, ro + k * 23 + 9, none⟩ = some x.tv) := Lib.hid (hat 9 _ rfl)
  have M10 : Hid (memFr W F ⟨rb, ro + k * 23 + 10, none⟩ = some x.bv) := Lib.hid (hat 10 _ rfl)
  obtain ⟨tb, to_, ⟨_, _, _, hv1, ht1, ht2, ht3⟩, _, htat⟩ := htp
  injection hv1 with e1 _ e3
  obtain ⟨_, _, bb, bo, hv2, hb1, hb2, hb3, hbat⟩ := hbk.open_
  injection hv2 with e4 _ e6
  have HTA : Hid (0 < x.f.topics.length → x.ta = some ⟨tb, to_, none⟩) := Lib.hid (by rw [e1]; exact ht3)
  have HTT := Lib.hid htat
  have HBA : Hid (0 < x.f.blocks.length → x.ba = some ⟨bb, bo, none⟩) := Lib.hid (by rw [e4]; exact hb3)
  have HBB := Lib.hid hbat
  have htl : x.f.topics.length ≤ 9223372036854775807 := by unfold maxLen at ht2; omega
  have hbl : x.f.blocks.length ≤ 9223372036854775807 := by unfold maxLen at hb2; omega
  clear hat hbk ht1 ht2 ht3 htat hb1 hb2 hb3 hbat e1 e3 e4 e6
  conv => arg 2; whnf
  go_wp2_with fail
  go_loopw [19] (fun i wz => ∃ j : Nat, j ≤ x.f.topics.length ∧ i = .int .i64 j ∧ Hid (Chg2 F W wz)) (fun i _ => x.f.topics.length - (intOf i).toNat)
  case atStart => exact ⟨0, Nat.zero_le _, rfl, HC0⟩
  case round =>
    obtain ⟨j, hj, rfl, HC⟩ := hrel
    have k9 : wr.cell? ⟨rb, ro + k * 23 + 9, none⟩ = some (.slice x.ta x.f.topics.length x.tc) := HC.out.sl M9.out rfl
    by_cases hjl : j < x.f.topics.length
    · rw [HTA.out (by omega)] at k9
      have hmem := HTT.out j hjl
      obtain ⟨u, hu⟩ := HC.out.some_ hmem
      have hz := HC.out.free hmem
      have HN := Lib.hid (fun t => HC.out.set hmem rfl t)
      clear hmem
      go_wp2_with fail
      go_roundw
      case rel => exact ⟨j + 1, by omega, by go_num, Lib.hid (HN.out _)⟩
      case measure => (try simp only [intOf]); omega
    · obtain rfl : j = x.f.topics.length := by omega
      have HC1 := HC
      go_wp2_with fail
      clear k9
      go_loopw [20] (fun i wz => ∃ j : Nat, j ≤ x.f.blocks.length ∧ i = .int .i64 j ∧ Hid (Chg2 F W wz)) (fun i _ => x.f.blocks.length - (intOf i).toNat)
      case atStart => exact ⟨0, Nat.zero_le _, rfl, HC1⟩
      case round =>
        obtain ⟨j, hj, rfl, HC⟩ := hrel
        have k10 : wr.cell? ⟨rb, ro + k * 23 + 10, none⟩ = some (.slice x.ba x.f.blocks.length x.bc) := HC.out.sl M10.out rfl
        by_cases hjl : j < x.f.blocks.length
        · have HBO := Lib.hid (HBA.out (by omega))
          rw [HBO.out] at k10
          have hblk := HBB.out j hjl
          obtain ⟨⟨hid, _⟩, _, _, av, h6, ab, ao, ⟨_, aa, ac, rfl, ha1, ha2, ha3⟩, haat⟩ := hblk
          generalize (x.f.blocks[j]'hjl).lab.after = al at *
          have M6 := Lib.hid h6
          have HAA := Lib.hid ha3
          have HAT := Lib.hid haat
          have hal : al.length ≤ 9223372036854775807 := by unfold maxLen at ha2; omega
          obtain ⟨u, hu⟩ := HC.out.some_ hid
          have hz := HC.out.free hid
          have HN := Lib.hid (fun t => HC.out.set hid rfl t)
          clear hid h6 ha1 ha2 ha3 haat
          go_upto_region 45 with fail
          have HC2 := Lib.hid (HN.out (.int .i64 77))
          generalize World.setCell wr _ _ = W1 at *
          clear HN hu hz k10
          go_wp2_with fail
          go_loopw [21] (fun i wz => ∃ m : Nat, m ≤ al.length ∧ i = .int .i64 m ∧ Hid (Chg2 F W wz)) (fun i _ => al.length - (intOf i).toNat)
          case atStart => exact ⟨0, Nat.zero_le _, rfl, HC2⟩
          case round =>
            obtain ⟨m, hm, rfl, HC⟩ := hrel
            have k10 : wr.cell? ⟨rb, ro + k * 23 + 10, none⟩ = some (.slice x.ba x.f.blocks.length x.bc) := HC.out.sl M10.out rfl
            rw [HBO.out] at k10
            have k6 := HC.out.sl M6.out rfl
            by_cases hml : m < al.length
            · rw [HAA.out (by omega)] at k6
              have hmem := HAT.out m hml
              obtain ⟨u, hu⟩ := HC.out.some_ hmem
              have hz := HC.out.free hmem
              have HN := Lib.hid (fun t => HC.out.set hmem rfl t)
              clear hmem
              go_wp2_with fail
              go_roundw
              case rel => exact ⟨m + 1, by omega, by go_num, Lib.hid (HN.out _)⟩
              case measure => (try simp only [intOf]); omega
            · obtain rfl : m = al.length := by omega
              have HC3 := HC
              go_wp2_with fail
              go_roundw
              case rel => exact ⟨j + 1, by omega, by go_num, HC3⟩
              case measure => (try simp only [intOf]); omega
        · obtain rfl : j = x.f.blocks.length := by omega
          have HC4 := HC
          go_wp2_with fail
          exact HQ.out _ _ _ _ _ _ _ _ _ _ _ _ _ _ _ _ _ _ _ _ _ _ _ _ _ _ _ _ _ _ _ _ _ _ _ _ _ _ _ _ _ _ _ _ _ _ _ _ _ _ _ _ _ _ _ _ _ _ _ _ _ _ _ _ _ _ _ _ _ _ _ _ _ (by go_num) HC4.out
set_option maxRecDepth 100000 in
set_option maxHeartbeats 4000000 in
theorem frOver_loop {F : Nat → Prop} {W : World} {va : Option Addr} {vc : Nat} {fs : List FctE} {rb ro : Nat} (C : FwC F W va vc fs rb ro) (c0 c1 c2 c3 c5 c6 c7 c8 c9 c10 c11 c12 c13 c14 c15 c16 c17 c22 c23 c24 c25 c26 c27 c28 c29 c30 c31 c32 c33 c34 c35 c36 c37 c38 c39 c40 c41 c42 c43 c44 c45 c46 c47 c48 c49 c50 c51 c52 c53 c54 c55 c56 c57 c58 c59 c60 c61 c62 c63 c64 c65 c66 c67 c68 c69 c70 c71 c72 c73 c74 c75 c76 c77 c78 c79 c80 c81 c82 c83 c84 c85 c86 c87 c88 c89 c90 c91 c92 c93 c94 c95 c96 c97 c98 c99 c100 c101 c102 c103 c104 c105 c106 c107 c108 c109 c110 c111 c112 c113 c114 c115 c116 c117 c118 c119 c120 c121 c122 c123 c124 c125 c126 c127 c128 c129 c130 c131 c132 c133 c134 c135 c204 c205 c206 c207 c208 c209 : Value) (u18 u19 u20 u21 u136 u137 u138 u139 u140 u141 u142 u143 u144 u145 u146 u147 u148 u149 u150 u151 u152 u153 u154 u155 u156 u157 u158 u159 u160 u161 u162 u163 u164 u165 u166 u167 u168 u169 u170 u171 u172 u173 u174 u175 u176 u177 u178 u179 u180 u181 u182 u183 u184 u185 u186 u187 u188 u189 u190 u191 u192 u193 u194 u195 u196 u197 u198 u199 u200 u201 u202 u203 : Value) (h0 : u18 = .int .i64 0) (wr : World) (hB : Chg2 F W wr) (Q : Exit → Act → World → Prop)
    (hQ : ∀ (u18 u19 u20 u21 u136 u137 u138 u139 u140 u141 u142 u143 u144 u145 u146 u147 u148 u149 u150 u151 u152 u153 u154 u155 u156 u157 u158 u159 u160 u161 u162 u163 u164 u165 u166 u167 u168 u169 u170 u171 u172 u173 u174 u175 u176 u177 u178 u179 u180 u181 u182 u183 u184 u185 u186 u187 u188 u189 u190 u191 u192 u193 u194 u195 u196 u197 u198 u199 u200 u201 u202 u203 : Value) (w2 : World), Chg2 F W w2 → Q (.exit 12) ⟨#[c0, c1, c2, c3, .slice va fs.length vc, c5, c6, c7, c8, c9, c10, c11, c12, c13, c14, c15, c16, c17, u18, u19, u20, u21, c22, c23, c24, c25, c26, c27, c28, c29, c30, c31, c32, c33, c34, c35, c36, c37, c38, c39, c40, c41, c42, c43, c44, c45, c46, c47, c48, c49, c50, c51, c52, c53, c54, c55, c56, c57, c58, c59, c60, c61, c62, c63, c64, c65, c66, c67, c68, c69, c70, c71, c72, c73, c74, c75, c76, c77, c78, c79, c80, c81, c82, c83, c84, c85, c86, c87, c88, c89, c90, c91, c92, c93, c94, c95, c96, c97, c98, c99, c100, c101, c102, c103, c104, c105, c106, c107, c108, c109, c110, c111, c112, c113, c114, c115, c116, c117, c118, c119, c120, c121, c122, c123, c124, c125, c126, c127, c128, c129, c130, c131, c132, c133, c134, c135, u136, u137, u138, u139, u140, u141, u142, u143, u144, u145, u146, u147, u148, u149, u150, u151, u152, u153, u154, u155, u156, u157, u158, u159, u160, u161, u162, u163, u164, u165, u166, u167, u168, u169, u170, u171, u172, u173, u174, u175, u176, u177, u178, u179, u180, u181, u182, u183, u184, u185, u186, u187, u188, u189, u190, u191, u192, u193, u194, u195, u196, u197, u198, u199, u200, u201, u202, u203, c204, c205, c206, c207, c208, c209], []⟩ w2) :
    (Code.loop frOver).wp Tryz.prog Q ⟨#[c0, c1, c2, c3, .slice va fs.length vc, c5, c6, c7, c8, c9, c10, c11, c12, c13, c14, c15, c16, c17, u18, u19, u20, u21, c22, c23, c24, c25, c26, c27, c28, c29, c30, c31, c32, c33, c34, c35, c36, c37, c38, c39, c40, c41, c42, c43, c44, c45, c46, c47, c48, c49, c50, c51, c52, c53, c54, c55, c56, c57, c58, c59, c60, c61, c62, c63, c64, c65, c66, c67, c68, c69, c70, c71, c72, c73, c74, c75, c76, c77, c78, c79, c80, c81, c82, c83, c84, c85, c86, c87, c88, c89, c90, c91, c92, c93, c94, c95, c96, c97, c98, c99, c100, c101, c102, c103, c104, c105, c106, c107, c108, c109, c110, c111, c112, c113, c114, c115, c116, c117, c118, c119, c120, c121, c122, c123, c124, c125, c126, c127, c128, c129, c130, c131, c132, c133, c134, c135, u136, u137, u138, u139, u140, u141, u142, u143, u144, u145, u146, u147, u148, u149, u150, u151, u152, u153, u154, u155, u156, u157, u158, u159, u160, u161, u162, u163, u164, u165, u166, u167, u168, u169, u170, u171, u172, u173, u174, u175, u176, u177, u178, u179, u180, u181, u182, u183, u184, u185, u186, u187, u188, u189, u190, u191, u192, u193, u194, u195, u196, u197, u198, u199, u200, u201, u202, u203, c204, c205, c206, c207, c208, c209], []⟩ wr := by
  refine wp_loop (fun a' w => ∃ U : Nat → Value, (∃ j : Nat, j ≤ fs.length ∧ U 18 = .int .i64 (j : Int) ∧ Chg2 F W w) ∧ a' = ⟨#[c0, c1, c2, c3, .slice va fs.length vc, c5, c6, c7, c8, c9, c10, c11, c12, c13, c14, c15, c16, c17, U 18, U 19, U 20, U 21, c22, c23, c24, c25, c26, c27, c28, c29, c30, c31, c32, c33, c34, c35, c36, c37, c38, c39, c40, c41, c42, c43, c44, c45, c46, c47, c48, c49, c50, c51, c52, c53, c54, c55, c56, c57, c58, c59, c60, c61, c62, c63, c64, c65, c66, c67, c68, c69, c70, c71, c72, c73, c74, c75, c76, c77, c78, c79, c80, c81, c82, c83, c84, c85, c86, c87, c88, c89, c90, c91, c92, c93, c94, c95, c96, c97, c98, c99, c100, c101, c102, c103, c104, c105, c106, c107, c108, c109, c110, c111, c112, c113, c114, c115, c116, c117, c118, c119, c120, c121, c122, c123, c124, c125, c126, c127, c128, c129, c130, c131, c132, c133, c134, c135, U 136, U 137, U 138, U 139, U 140, U 141, U 142, U 143, U 144, U 145, U 146, U 147, U 148, U 149, U 150, U 151, U 152, U 153, U 154, U 155, U 156, U 157, U 158, U 159, U 160, U 161, U 162, U 163, U 164, U 165, U 166, U 167, U 168, U 169, U 170, U 171, U 172, U 173, U 174, U 175, U 176, U 177, U 178, U 179, U 180, U 181, U 182, U 183, U 184, U 185, U 186, U 187, U 188, U 189, U 190, U 191, U 192, U 193, U 194, U 195, U 196, U 197, U 198, U 199, U 200, U 201, U 202, U 203, c204, c205, c206, c207, c208, c209], []⟩) (fun a' _ => fs.length - (intOf (a'.tmps.getD 18 undef)).toNat) ⟨fun i => ([undef, undef, undef, undef, undef, undef, undef, undef, undef, undef, undef, undef, undef, undef, undef, undef, undef, undef, u18, u19, u20, u21, undef, undef, undef, undef, undef, undef, undef, undef, undef, undef, undef, undef, undef, undef, undef, undef, undef, undef, undef, undef, undef, undef, undef, undef, undef, undef, undef, undef, undef, undef, undef, undef, undef, undef, undef, undef, undef, undef, undef, undef, undef, undef, undef, undef, undef, undef, undef, undef, undef, undef, undef, undef, undef, undef, undef, undef, undef, undef, undef, undef, undef, undef, undef, undef, undef, undef, undef, undef, undef, undef, undef, undef, undef, undef, undef, undef, undef, undef, undef, undef, undef, undef, undef, undef, undef, undef, undef, undef, undef, undef, undef, undef, undef, undef, undef, undef, undef, undef, undef, undef, undef, undef, undef, undef, undef, undef, undef, undef, undef, undef, undef, undef, undef, undef, u136, u137, u138, u139, u140, u141, u142, u143, u144, u145, u146, u147, u148, u149, u150, u151, u152, u153, u154, u155, u156, u157, u158, u159, u160, u161, u162, u163, u164, u165, u166, u167, u168, u169, u170, u171, u172, u173, u174, u175, u176, u177, u178, u179, u180, u181, u182, u183, u184, u185, u186, u187, u188, u189, u190, u191, u192, u193, u194, u195, u196, u197, u198, u199, u200, u201, u202, u203, undef, undef, undef, undef, undef, undef] : List Value).getD i undef, ⟨0, Nat.zero_le _, h0, hB⟩, rfl⟩ ?_
  rintro a' w2 ⟨U, ⟨j, hj, e, hB2⟩, rfl⟩
  by_cases hlt : j < fs.length
  · rw [e]
    refine frOver_round C _ _ _ _ _ _ _ _ _ _ _ _ _ _ _ _ _ _ _ _ _ _ _ _ _ _ _ _ _ _ _ _ _ _ _ _ _ _ _ _ _ _ _ _ _ _ _ _ _ _ _ _ _ _ _ _ _ _ _ _ _ _ _ _ _ _ _ _ _ _ _ _ _ _ _ _ _ _ _ _ _ _ _ _ _ _ _ _ _ _ _ _ _ _ _ _ _ _ _ _ _ _ _ _ _ _ _ _ _ _ _ _ _ _ _ _ _ _ _ _ _ _ _ _ _ _ _ _ _ _ _ _ _ _ _ _ _ _ _ _ _ _ _ _ _ _ _ _ _ _ _ _ _ _ _ _ _ _ _ _ _ _ _ _ _ _ _ _ _ _ _ _ _ _ _ _ _ _ _ _ _ _ _ _ _ _ _ _ _ _ _ _ _ _ _ _ _ _ _ _ _ _ _ _ _ _ _ _ j hlt w2 hB2 _ ?_
    intro u18 u19 u20 u21 u136 u137 u138 u139 u140 u141 u142 u143 u144 u145 u146 u147 u148 u149 u150 u151 u152 u153 u154 u155 u156 u157 u158 u159 u160 u161 u162 u163 u164 u165 u166 u167 u168 u169 u170 u171 u172 u173 u174 u175 u176 u177 u178 u179 u180 u181 u182 u183 u184 u185 u186 u187 u188 u189 u190 u191 u192 u193 u194 u195 u196 u197 u198 u199 u200 u201 u202 u203 w3 e3 hB3
    refine ⟨⟨fun i => ([undef, undef, undef, undef, undef, undef, undef, undef, undef, undef, undef, undef, undef, undef, undef, undef, undef, undef, u18, u19, u20, u21, undef, undef, undef, undef, undef, undef, undef, undef, undef, undef, undef, undef, undef, undef, undef, undef, undef, undef, undef, undef, undef, undef, undef, undef, undef, undef, undef, undef, undef, undef, undef, undef, undef, undef, undef, undef, undef, undef, undef, undef, undef, undef, undef, undef, undef, undef, undef, undef, undef, undef, undef, undef, undef, undef, undef, undef, undef, undef, undef, undef, undef, undef, undef, undef, undef, undef, undef, undef, undef, undef, undef, undef, undef, undef, undef, undef, undef, undef, undef, undef, undef, undef, undef, undef, undef, undef, undef, undef, undef, undef, undef, undef, undef, undef, undef, undef, undef, undef, undef, undef, undef, undef, undef, undef, undef, undef, undef, undef, undef, undef, undef, undef, undef, undef, u136, u137, u138, u139, u140, u141, u142, u143, u144, u145, u146, u147, u148, u149, u150, u151, u152, u153, u154, u155, u156, u157, u158, u159, u160, u161, u162, u163, u164, u165, u166, u167, u168, u169, u170, u171, u172, u173, u174, u175, u176, u177, u178, u179, u180, u181, u182, u183, u184, u185, u186, u187, u188, u189, u190, u191, u192, u193, u194, u195, u196, u197, u198, u199, u200, u201, u202, u203, undef, undef, undef, undef, undef, undef] : List Value).getD i undef, ⟨j + 1, hlt, e3, hB3⟩, rfl⟩, ?_⟩
    show fs.length - (intOf u18).toNat < fs.length - (intOf (.int .i64 (j : Nat))).toNat
    rw [e3]
    simp [intOf]; omega
  · obtain rfl : j = fs.length := by omega
    rw [e]
    have HQ := Lib.hid hQ
    have HB2 := Lib.hid hB2
    have hll := C.len
    clear hQ hB2 e hlt hj C hB h0
    conv => arg 2; whnf
    go_wp2_with fail
    exact HQ.out _ _ _ _ _ _ _ _ _ _ _ _ _ _ _ _ _ _ _ _ _ _ _ _ _ _ _ _ _ _ _ _ _ _ _ _ _ _ _ _ _ _ _ _ _ _ _ _ _ _ _ _ _ _ _ _ _ _ _ _ _ _ _ _ _ _ _ _ _ _ _ _ _ HB2.out
end Go.Proofs.YtdkkhmjlamkgdaaGreatDoor
namespace Go.Proofs.YtdkkhmjlamkgdaaGreatDoor
open Go.RowKit Mg Go.Shelf Go.Maps

set_option maxHeartbeats 1000000 in
theorem eqStrs_any {mem : Addr → Option Value} {v u : Value} {l m : List ByteArray} (h1 : StrsM mem v l) (h2 : StrsM mem u m) (w : World) (hs : Sees mem w) :
    Calls Tryz.prog 87 #[v, u] w fun e w' => e = .returned (.bool (decide (l = m))) ∧ Below w.heap.size w w' := by
  obtain ⟨ao, cap, b, o, rfl, hcap, hm, hao, _, hcells⟩ := h1.open_ hs
  obtain ⟨ao2, cap2, b2, o2, rfl, hcap2, hm2, hao2, _, hcells2⟩ := h2.open_ hs
  have HA := Lib.hid hao
  have HA2 := Lib.hid hao2
  have HC := Lib.hid hcells
  have HC2 := Lib.hid hcells2
  have hlen : (l.length : Int) ≤ 9223372036854775807 := by unfold maxLen at hm; omega
  have hlen2 : (m.length : Int) ≤ 9223372036854775807 := by unfold maxLen at hm2; omega
  clear hao hao2 hcells hcells2 hs h1 h2 hcap hcap2 hm hm2
  by_cases hl : l.length = m.length
  · have HL := Lib.hid hl
    rw [← hl]
    clear hl
    go_enter Tryz.func87, Tryz.ntmps87
    go_wp2_with fail
    go_loopw [13] (fun i wr => ∃ k : Nat, k ≤ l.length ∧ i = .int .i64 k ∧ Below w.heap.size w wr ∧ Hid (l.take k = m.take k)) (fun i _ => l.length - (intOf i).toNat)
    case atStart => exact ⟨0, Nat.zero_le _, rfl, Below.refl _ _, Lib.hid rfl⟩
    case round =>
      obtain ⟨k, hk, rfl, hb, ht⟩ := hrel
      by_cases hlt : k < l.length
      · have hlt2 : k < m.length := by rw [← HL.out]; exact hlt
        have c1 := HC.out k hlt
        have c2 := HC2.out k hlt2
        obtain rfl := HA.out (by omega)
        obtain rfl := HA2.out (by omega)
        replace c1 := (hb.cell (p := ⟨b, o + k, none⟩) (World.block_lt_of_cell? w _ c1)).trans c1
        replace c2 := (hb.cell (p := ⟨b2, o2 + k, none⟩) (World.block_lt_of_cell? w _ c2)).trans c2
        have HE : Hid (l[k] = m[k] → l.take (k + 1) = m.take (k + 1)) := Lib.hid (take_step hlt hlt2 ht.out)
        have HN : Hid (l[k] ≠ m[k] → l ≠ m) := Lib.hid (ne_of_get hlt hlt2)
        generalize l[k] = x at *
        generalize m[k] = y at *
        have hk0 : (0 : Int) ≤ k := by omega
        have hk1 : (k : Int) < l.length := by omega
        clear ht hlt2
        by_cases hxy : x = y
        · subst hxy
          have HE2 := Lib.hid (HE.out rfl)
          clear HE
          go_wp2_with fail
          go_quiet (fail)
          go_wp2_with fail
          go_roundw
          case rel => exact ⟨k + 1, by omega, by go_num, below_drewN hb _, HE2⟩
          case measure => simp [intOf]; omega
        · have hne : (x.toList != y.toList) = true := by
            rw [bne_iff_ne]
            intro e
            exact hxy (str_ext (by simpa [ByteArray.toList_eq] using e))
          have hne2 : (x.toList == y.toList) = false := by
            rw [beq_eq_false_iff_ne]
            intro e
            exact hxy (str_ext (by simpa [ByteArray.toList_eq] using e))
          have HNE := Lib.hid hxy
          clear hxy
          go_wp2_with fail
          go_quiet (fail)
          go_wp2_with fail
          go_ret
          exact ⟨ret_bool (by symm; exact decide_eq_false (HN.out HNE.out)), below_drewN hb _⟩
      · have e : k = l.length := by omega
        subst e
        have HF : Hid (l = m) := Lib.hid (eq_full HL.out ht.out)
        go_wp2_with fail
        go_ret
        exact ⟨ret_bool (by symm; exact decide_eq_true HF.out), hb⟩
  · have hne : decide (l.length = m.length) = false := decide_eq_false hl
    have HNE : Hid (l ≠ m) := Lib.hid (fun e => hl (by rw [e]))
    go_enter Tryz.func87, Tryz.ntmps87
    go_wp2_with fail
    all_goals first
      | (go_ret
         exact ⟨ret_bool (by symm; exact decide_eq_false HNE.out), Below.refl _ _⟩)
      | (exfalso; simp_all; done)
theorem cells_in {w w' : World} {b o sz : Nat} {cs : Array Value} (h : ∀ t, t < sz → w.cell? ⟨b, o + t, none⟩ = cs[t]?) (hb : Below w.heap.size w w') (hz : cs.size = sz := by rfl) : ∀ t, t < sz → w'.cell? ⟨b, o + t, none⟩ = cs[t]? := fun t ht => by
  have h1 := h t ht
  rw [Array.getElem?_eq_getElem (by omega)] at h1 ⊢
  exact sees_bel hb _ _ h1
theorem edn_dec (lang : ByteArray) (rev : Int) (title : ByteArray) (blocks : List Blk) (changed : Int) (lang2 : ByteArray) (rev2 : Int) (title2 : ByteArray) (blocks2 : List Blk) (changed2 : Int) : decide ((⟨lang, rev, title, blocks, changed⟩ : EdnF) = ⟨lang2, rev2, title2, blocks2, changed2⟩) =
    (decide (lang = lang2) && (decide (rev = rev2) && (decide (title = title2) && (decide (blocks = blocks2) && decide (changed = changed2))))) := by
  simp only [EdnF.mk.injEq, Bool.decide_and]
theorem sty_dec (id : Int) (author : ByteArray) (topics : List ByteArray) (eds : List EdnF) (pub : Int) (corr : List Corr) (retr taken : Bool) (id2 : Int) (author2 : ByteArray) (topics2 : List ByteArray) (eds2 : List EdnF) (pub2 : Int) (corr2 : List Corr) (retr2 taken2 : Bool) : decide ((⟨id, author, topics, eds, pub, corr, retr, taken⟩ : StyF) = ⟨id2, author2, topics2, eds2, pub2, corr2, retr2, taken2⟩) =
    (decide (id = id2) && (decide (author = author2) && (decide (topics = topics2) && (decide (eds = eds2) && (decide (pub = pub2) && (decide (corr = corr2) && (decide (retr = retr2) && decide (taken = taken2)))))))) := by
  simp only [StyF.mk.injEq, Bool.decide_and]
theorem str_ne {a b : ByteArray} (h : a ≠ b) : (a.toList == b.toList) = false := by
  simp only [beq_eq_false_iff_ne, ne_eq, ByteArray.toList_eq]
  intro e
  exact h (str_ext e)
set_option maxRecDepth 10000 in
set_option maxHeartbeats 4000000 in
theorem sameEdition_any {mem : Addr → Option Value} {v u : Value} {x y : EdnF} (h1 : EdnV mem v x) (h2 : EdnV mem u y) (w : World) (hs : Sees mem w) :
    Calls Tryz.prog 89 #[v, u] w fun e w' => e = .returned (.bool (decide (x = y))) ∧ Below w.heap.size w w' := by
  obtain ⟨_, bv, rfl, hb1⟩ := h1
  obtain ⟨_, bv2, rfl, hb2⟩ := h2
  obtain ⟨lang, rev, title, blocks, changed⟩ := x
  obtain ⟨lang2, rev2, title2, blocks2, changed2⟩ := y
  have HL := Lib.hid (fun W hW => sameList_any hb1 hb2 W hW)
  obtain ⟨ao, cap, rfl⟩ := hb1.slice
  obtain ⟨ao2, cap2, rfl⟩ := hb2.slice
  have HR := Lib.hid (edn_dec lang rev title blocks changed lang2 rev2 title2 blocks2 changed2)
  have HS := Lib.hid hs
  dsimp only at HL ⊢
  clear hb1 hb2 hs
  generalize hn1 : blocks.length = n1 at *
  generalize hn2 : blocks2.length = n2 at *
  clear hn1 hn2
  obtain ⟨W2, hW2⟩ : ∃ W2, W2 = (w.alloc (.cells #[.string lang, .int .i64 rev, .string title, .slice ao n1 cap, .int .i64 changed] 39)).alloc (.cells #[.string lang2, .int .i64 rev2, .string title2, .slice ao2 n2 cap2, .int .i64 changed2] 39) := ⟨_, rfl⟩
  have hB2 : Below w.heap.size w W2 := by rw [hW2]; exact (bel1 w _).alloc (by simp) _
  have HN1 : Hid (W2.heap[w.heap.size]? = some (.cells #[.string lang, .int .i64 rev, .string title, .slice ao n1 cap, .int .i64 changed] 39 (0, 0))) := Lib.hid (by rw [hW2]; exact heap_new1 w _ _)
  have HN2 : Hid (W2.heap[w.heap.size + 1]? = some (.cells #[.string lang2, .int .i64 rev2, .string title2, .slice ao2 n2 cap2, .int .i64 changed2] 39 (0, 0))) := Lib.hid (by
    rw [hW2]
    have := World.alloc_heap_new (w.alloc (.cells #[.string lang, .int .i64 rev, .string title, .slice ao n1 cap, .int .i64 changed] 39)) (.cells #[.string lang2, .int .i64 rev2, .string title2, .slice ao2 n2 cap2, .int .i64 changed2] 39)
    simpa using this)
  have HB2 := Lib.hid hB2
  have HW2 := Lib.hid hW2
  have HS2 := Lib.hid (HS.out.bel hB2)
  clear hB2 hW2
  go_enter Tryz.func89, Tryz.ntmps89
  go_upto_region 1 with fail
  rw [← HW2.out]
  have HB := HB2
  have HSW := HS2
  have HH1 := HN1
  have HH2 := HN2
  clear HB2 HS2 HN1 HN2 HW2
  have p0 : W2.cell? ⟨w.heap.size, 0, none⟩ = some (.string lang) := rowcell HH1.out
  have q0 : W2.cell? ⟨w.heap.size + 1, 0, none⟩ = some (.string lang2) := rowcell HH2.out
  have p1 : W2.cell? ⟨w.heap.size, 1, none⟩ = some (.int .i64 rev) := rowcell HH1.out
  have q1 : W2.cell? ⟨w.heap.size + 1, 1, none⟩ = some (.int .i64 rev2) := rowcell HH2.out
  have p2 : W2.cell? ⟨w.heap.size, 2, none⟩ = some (.string title) := rowcell HH1.out
  have q2 : W2.cell? ⟨w.heap.size + 1, 2, none⟩ = some (.string title2) := rowcell HH2.out
  have p3 : W2.cell? ⟨w.heap.size, 3, none⟩ = some (.slice ao n1 cap) := rowcell HH1.out
  have q3 : W2.cell? ⟨w.heap.size + 1, 3, none⟩ = some (.slice ao2 n2 cap2) := rowcell HH2.out
  have p4 : W2.cell? ⟨w.heap.size, 4, none⟩ = some (.int .i64 changed) := rowcell HH1.out
  have q4 : W2.cell? ⟨w.heap.size + 1, 4, none⟩ = some (.int .i64 changed2) := rowcell HH2.out
  by_cases e0 : lang = lang2
  · subst e0
    by_cases e1 : rev = rev2
    · subst e1
      by_cases e2 : title = title2
      · subst e2
        go_wp2_with fail
        refine (HL.out _ HSW.out).mono ?_
        rintro e w13 ⟨rfl, hb⟩
        have HB := Lib.hid (HB.out.trans (hb.mono HB.out.size))
        have HSW := Lib.hid (HSW.out.bel hb)
        have HH1 := Lib.hid ((hb.block _ (hlt HH1.out)).trans HH1.out)
        have HH2 := Lib.hid ((hb.block _ (hlt HH2.out)).trans HH2.out)
        clear hb p0 q0 p1 q1 p2 q2 p3 q3 p4 q4
        have p0 : w13.cell? ⟨w.heap.size, 0, none⟩ = some (.string lang) := rowcell HH1.out
        have q0 : w13.cell? ⟨w.heap.size + 1, 0, none⟩ = some (.string lang) := rowcell HH2.out
        have p1 : w13.cell? ⟨w.heap.size, 1, none⟩ = some (.int .i64 rev) := rowcell HH1.out
        have q1 : w13.cell? ⟨w.heap.size + 1, 1, none⟩ = some (.int .i64 rev) := rowcell HH2.out
        have p2 : w13.cell? ⟨w.heap.size, 2, none⟩ = some (.string title) := rowcell HH1.out
        have q2 : w13.cell? ⟨w.heap.size + 1, 2, none⟩ = some (.string title) := rowcell HH2.out
        have p3 : w13.cell? ⟨w.heap.size, 3, none⟩ = some (.slice ao n1 cap) := rowcell HH1.out
        have q3 : w13.cell? ⟨w.heap.size + 1, 3, none⟩ = some (.slice ao2 n2 cap2) := rowcell HH2.out
        have p4 : w13.cell? ⟨w.heap.size, 4, none⟩ = some (.int .i64 changed) := rowcell HH1.out
        have q4 : w13.cell? ⟨w.heap.size + 1, 4, none⟩ = some (.int .i64 changed2) := rowcell HH2.out
        have EN : Hid (decide (blocks = blocks2) = false → decide (blocks = blocks2) = false) := Lib.hid (fun h => h)
        have EY : Hid (decide (blocks = blocks2) = true → blocks = blocks2) := Lib.hid of_decide_eq_true
        generalize hq : decide (blocks = blocks2) = q at *
        cases q with
        | false =>
          clear hq EY EN
          have EN := Lib.hid (Eq.refl false)
          go_wp2_with fail
          go_ret
          exact ⟨ret_false (by first | (rw [HR.out]; simp; done) | (simp [EN.out]; done)), HB.out⟩
        | true =>
          clear hq EY EN
          by_cases e4 : changed = changed2
          · subst e4
            go_wp2_with fail
            go_ret
            exact ⟨ret_true (by first | (rw [HR.out]; simp; done) | (simp; done)), HB.out⟩
          · have ne : (changed == changed2) = false := by simpa using e4
            have EN := Lib.hid (decide_eq_false e4)
            clear e4
            go_wp2_with fail
            go_ret
            exact ⟨ret_false (by first | (rw [HR.out]; simp [EN.out]; done) | (simp [EN.out]; done)), HB.out⟩
      · have ne : (title.toList == title2.toList) = false := str_ne e2
        have EN := Lib.hid (decide_eq_false e2)
        clear e2
        go_wp2_with fail
        go_ret
        exact ⟨ret_false (by first | (rw [HR.out]; simp [EN.out]; done) | (simp [EN.out]; done)), HB.out⟩
    · have ne : (rev == rev2) = false := by simpa using e1
      have EN := Lib.hid (decide_eq_false e1)
      clear e1
      go_wp2_with fail
      go_ret
      exact ⟨ret_false (by first | (rw [HR.out]; simp [EN.out]; done) | (simp [EN.out]; done)), HB.out⟩
  · have ne : (lang.toList == lang2.toList) = false := str_ne e0
    have EN := Lib.hid (decide_eq_false e0)
    clear e0
    go_wp2_with fail
    go_ret
    exact ⟨ret_false (by first | (rw [HR.out]; simp [EN.out]; done) | (simp [EN.out]; done)), HB.out⟩
set_option maxRecDepth 10000 in
set_option maxHeartbeats 4000000 in
theorem eqEdns_any {mem : Addr → Option Value} {v u : Value} {l m : List EdnF} (h1 : EdnsM mem v l) (h2 : EdnsM mem u m) (w : World) (hs : Sees mem w) :
    Calls Tryz.prog 88 #[v, u, .func (.func 89) #[] #[]] w fun e w' => e = .returned (.bool (decide (l = m))) ∧ Below w.heap.size w w' := by
  obtain ⟨ao, cap, b, o, rfl, hcap, hm, hao, hblks⟩ := SlM.open_ h1
  obtain ⟨ao2, cap2, b2, o2, rfl, hcap2, hm2, hao2, hblks2⟩ := SlM.open_ h2
  have HA := Lib.hid hao
  have HA2 := Lib.hid hao2
  have HB := Lib.hid hblks
  have HB2 := Lib.hid hblks2
  have HS := Lib.hid hs
  have hlen : (l.length : Int) ≤ 9223372036854775807 := by unfold maxLen at hm; omega
  have hlen2 : (m.length : Int) ≤ 9223372036854775807 := by unfold maxLen at hm2; omega
  clear h1 h2 hao hao2 hblks hblks2 hs hcap hcap2 hm hm2
  by_cases hl : l.length = m.length
  · have HL := Lib.hid hl
    rw [← hl]
    clear hl
    go_enter Tryz.func88, Tryz.ntmps88
    go_wp2_with fail
    go_loopw [17] (fun i wr => ∃ k : Nat, k ≤ l.length ∧ i = .int .i64 k ∧ Below w.heap.size w wr ∧ Hid (l.take k = m.take k)) (fun i _ => l.length - (intOf i).toNat)
    case atStart => exact ⟨0, Nat.zero_le _, rfl, Below.refl _ _, Lib.hid rfl⟩
    case round =>
      obtain ⟨k, hk, rfl, hb, ht⟩ := hrel
      by_cases hlt : k < l.length
      · have hlt2 : k < m.length := by rw [← HL.out]; exact hlt
        obtain rfl := HA.out (by omega)
        obtain rfl := HA2.out (by omega)
        obtain ⟨hok, bv, hcells, hP⟩ := HB.out k hlt
        obtain ⟨hok2, bv2, hcells2, hP2⟩ := HB2.out k hlt2
        have HV1 : Hid (EdnV mem (.agg (ednCells l[k] bv)) l[k]) := Lib.hid ⟨hok, _, rfl, hP⟩
        have HV2 : Hid (EdnV mem (.agg (ednCells m[k] bv2)) m[k]) := Lib.hid ⟨hok2, _, rfl, hP2⟩
        have HD1 := Lib.hid (cells_see (sz := 5) (HS.out.bel hb) hcells rfl)
        have HD2 := Lib.hid (cells_see (sz := 5) (HS.out.bel hb) hcells2 rfl)
        obtain ⟨a1, q1, rfl⟩ := hP.slice
        obtain ⟨a2, q2, rfl⟩ := hP2.slice
        generalize l[k].blocks.length = n1 at *
        generalize m[k].blocks.length = n2 at *
        clear hok hok2 hcells hcells2 hP hP2
        have HE : Hid (l[k] = m[k] → l.take (k + 1) = m.take (k + 1)) := Lib.hid (take_step hlt hlt2 ht.out)
        have HN : Hid (l[k] ≠ m[k] → decide (l = m) = false) := Lib.hid (fun e => decide_eq_false (ne_of_get hlt hlt2 e))
        have hk0 : (0 : Int) ≤ k := by omega
        have hk1 : (k : Int) < l.length := by omega
        generalize l[k] = x at *
        generalize m[k] = y at *
        have HC : Hid (∀ W, Sees mem W → Calls Tryz.prog 89 #[.agg (ednCells x (.slice a1 n1 q1)), .agg (ednCells y (.slice a2 n2 q2))] W fun e w' => e = .returned (.bool (decide (x = y))) ∧ Below W.heap.size W w') :=
          Lib.hid (fun W hW => sameEdition_any HV1.out HV2.out W hW)
        have HC9 : Hid (decide (x = y) = true → x = y) := Lib.hid of_decide_eq_true
        have HC8 : Hid (decide (x = y) = false → x ≠ y) := Lib.hid of_decide_eq_false
        generalize hq : decide (x = y) = q at *
        have HB0 := Lib.hid hb
        clear hq ht hb
        go_upto_region 6 with (first
          | ((with_reducible refine at_sload 39 _ rfl ?_); go_must (refine wpList_smid rfl S_edn _ rfl (by simp [Act.eval]) (ednCells x (.slice a1 n1 q1)) rfl HD1.out ?_))
          | ((with_reducible refine at_sstore 39 _ _ rfl ?_); go_must (refine wpList_snew rfl S_edn _ _ rfl rfl _ _ (ednCells x (.slice a1 n1 q1)) (by simp [Act.eval]) (by simp [Act.eval]) rfl rfl (by simp [Value.oneCell']) ?_)))
        obtain ⟨W4, hW4⟩ : ∃ W4, W4 = wr.alloc (.cells (ednCells x (.slice a1 n1 q1)) 39) := ⟨_, rfl⟩
        rw [← hW4]
        have hb4 : Below wr.heap.size wr W4 := by rw [hW4]; exact bel1 _ _
        have HN4 : Hid (W4.heap[wr.heap.size]? = some (.cells (ednCells x (.slice a1 n1 q1)) 39 (0, 0))) := Lib.hid (by rw [hW4]; exact World.alloc_heap_new _ _)
        have HD3 := Lib.hid (cells_in HD2.out hb4)
        have HB4 := Lib.hid hb4
        clear hW4 hb4
        go_upto_region 7 with (first
          | ((with_reducible refine at_sload 39 _ rfl ?_); go_must (refine wpList_smid rfl S_edn _ rfl (by simp [Act.eval]) (ednCells y (.slice a2 n2 q2)) rfl HD3.out ?_))
          | ((with_reducible refine at_sstore 39 _ _ rfl ?_); go_must (refine wpList_snew rfl S_edn _ _ rfl rfl _ _ (ednCells y (.slice a2 n2 q2)) (by simp [Act.eval]) (by simp [Act.eval]) rfl rfl (by simp [Value.oneCell']) ?_)))
        obtain ⟨W5, hW5⟩ : ∃ W5, W5 = W4.alloc (.cells (ednCells y (.slice a2 n2 q2)) 39) := ⟨_, rfl⟩
        rw [← hW5]
        have hb5 : Below W4.heap.size W4 W5 := by rw [hW5]; exact bel1 _ _
        have HN6 : Hid (W5.heap[W4.heap.size]? = some (.cells (ednCells y (.slice a2 n2 q2)) 39 (0, 0))) := Lib.hid (by rw [hW5]; exact World.alloc_heap_new _ _)
        have HN5 := Lib.hid ((hb5.block _ (Go.Proofs.YtdkkhmjlamkgdaaGreatDoor.hlt HN4.out)).trans HN4.out)
        have HB5 : Hid (Below w.heap.size w W5) := Lib.hid ((HB0.out.trans (HB4.out.mono HB0.out.size)).trans (hb5.mono (Nat.le_trans HB0.out.size HB4.out.size)))
        have HS5 := Lib.hid (HS.out.bel HB5.out)
        clear hW5 hb5
        go_wp2_with (first
          | ((with_reducible refine at_sload 39 (.tmp 8) rfl ?_); go_must (refine wpList_sload rfl S_edn _ rfl (by simp [Act.eval]) (ednCells x (.slice a1 n1 q1)) rfl HN5.out ?_))
          | ((with_reducible refine at_sload 39 (.tmp 9) rfl ?_); go_must (refine wpList_sload rfl S_edn _ rfl (by simp [Act.eval, Act.put]) (ednCells y (.slice a2 n2 q2)) rfl HN6.out ?_)))
        refine (HC.out _ HS5.out).mono ?_
        rintro e w3 ⟨rfl, hb3⟩
        have hB3 : Below w.heap.size w w3 := HB5.out.trans (hb3.mono HB5.out.size)
        clear hb3 HB0
        cases q with
        | true =>
          have HE2 := Lib.hid (HE.out (HC9.out rfl))
          clear HE HN HC9 HC8
          go_wp2_with fail
          go_roundw
          case rel => exact ⟨k + 1, by omega, by go_num, hB3, HE2⟩
          case measure => simp [intOf]; omega
        | false =>
          have HN2 := Lib.hid (HN.out (HC8.out rfl))
          clear HE HN HC9 HC8
          go_wp2_with fail
          go_ret
          exact ⟨ret_false HN2.out, hB3⟩
      · have e : k = l.length := by omega
        subst e
        have HF : Hid (decide (l = m) = true) := Lib.hid (decide_eq_true (eq_full HL.out ht.out))
        go_wp2_with fail
        go_ret
        exact ⟨ret_true HF.out, hb⟩
  · have HNE : Hid (decide (l = m) = false) := Lib.hid (decide_eq_false (fun e => hl (by rw [e])))
    have hne : decide (l.length = m.length) = false := decide_eq_false hl
    go_enter Tryz.func88, Tryz.ntmps88
    go_wp2_with fail
    all_goals first
      | (go_ret
         exact ⟨ret_false HNE.out, Below.refl _ _⟩)
      | (exfalso; simp_all; done)
end Go.Proofs.YtdkkhmjlamkgdaaGreatDoor
namespace Go.Proofs.YtdkkhmjlamkgdaaGreatDoor
open Go.RowKit Mg Go.Shelf Go.Maps

theorem wpStill_value {P : Program} {ops : Array Oper} {w : World} {Q : Act → Prop} {a : Act} {o : Oper} {rest : List Oper} (hg : o.guard = none) (v : Value) (hr : (execOp a.eval o).run P w = .ok (.value v) w) (h : wpStill P ops w Q rest (a.put o.dst v)) : wpStill P ops w Q (o :: rest) a := by
  refine wpStill_step fun K hK => ?_
  rw [if_pos (by simp [Region.wanted, hg])]
  unfold Oper.still
  rw [hr, Oper.stillUpon_value]
  exact hK _ h
theorem S_tpl : StructT Tryz.prog 52 2 := ⟨⟨_, Tryz.underlying52⟩, by kernel_rfl, by decide⟩
theorem toList_iff {a b : ByteArray} : (a.toList = b.toList) ↔ a = b := ⟨fun h => str_ext (by rw [← ByteArray.toList_eq, ← ByteArray.toList_eq]; exact h), fun h => by rw [h]⟩
theorem corrCells_neq (x y : Corr) (W : World) : (binOp .neq 69 (.agg (corrCells x)) (.agg (corrCells y))).run Tryz.prog W = .ok (.bool (!decide (x = y))) W := by
  obtain ⟨a0, a1, a2, a3, a4⟩ := x
  obtain ⟨b0, b1, b2, b3, b4⟩ := y
  rw [run_neq_struct, run_equalIn_agg _ _ _ _ _ (by kernel_rfl) (by kernel_rfl)]
  simp only [Program.fieldsOf, Tryz.underlying69]
  go_simp
  simp only [toList_iff]
  by_cases h0 : a0 = b0 <;> by_cases h1 : a1 = b1 <;> by_cases h2 : a2 = b2 <;> by_cases h3 : a3 = b3 <;> by_cases h4 : a4 = b4 <;> simp [h0, h1, h2, h3, h4]
set_option maxRecDepth 10000 in
set_option maxHeartbeats 1000000 in
theorem eqCorrs_any {mem : Addr → Option Value} {v u : Value} {l m : List Corr} (h1 : CorrsM mem v l) (h2 : CorrsM mem u m) (w : World) (hs : Sees mem w) :
    Calls Tryz.prog 90 #[v, u] w fun e w' => e = .returned (.bool (decide (l = m))) ∧ Below w.heap.size w w' := by
  obtain ⟨ao, cap, b, o, rfl, hcap, hm, hao, hcells⟩ := SlM.open_ h1
  obtain ⟨ao2, cap2, b2, o2, rfl, hcap2, hm2, hao2, hcells2⟩ := SlM.open_ h2
  have HS := Lib.hid hs
  have HA := Lib.hid hao
  have HA2 := Lib.hid hao2
  have HC := Lib.hid hcells
  have HC2 := Lib.hid hcells2
  have hlen : (l.length : Int) ≤ 9223372036854775807 := by unfold maxLen at hm; omega
  have hlen2 : (m.length : Int) ≤ 9223372036854775807 := by unfold maxLen at hm2; omega
  clear hao hao2 hcells hcells2 hs h1 h2 hcap hcap2 hm hm2
  by_cases hl : l.length = m.length
  · have HL := Lib.hid hl
    rw [← hl]
    clear hl
    go_enter Tryz.func90, Tryz.ntmps90
    go_wp2_with fail
    go_loopw [13] (fun i wr => ∃ k : Nat, k ≤ l.length ∧ i = .int .i64 k ∧ Below w.heap.size w wr ∧ Hid (l.take k = m.take k)) (fun i _ => l.length - (intOf i).toNat)
    case atStart => exact ⟨0, Nat.zero_le _, rfl, Below.refl _ _, Lib.hid rfl⟩
    case round =>
      obtain ⟨k, hk, rfl, hb, ht⟩ := hrel
      by_cases hlt : k < l.length
      · have hlt2 : k < m.length := by rw [← HL.out]; exact hlt
        have g1 := cells_see (sz := 5) (HS.out.bel hb) (HC.out k hlt).2 rfl
        have g2 := cells_see (sz := 5) (HS.out.bel hb) (HC2.out k hlt2).2 rfl
        obtain rfl := HA.out (by omega)
        obtain rfl := HA2.out (by omega)
        have HE : Hid (l[k] = m[k] → l.take (k + 1) = m.take (k + 1)) := Lib.hid (take_step hlt hlt2 ht.out)
        have HN : Hid (l[k] ≠ m[k] → l ≠ m) := Lib.hid (ne_of_get hlt hlt2)
        generalize l[k] = x at *
        generalize m[k] = y at *
        have G1 := Lib.hid g1
        have G2 := Lib.hid g2
        clear g1 g2
        have hqr : ∀ W : World, (binOp .neq 69 (.agg (corrCells x)) (.agg (corrCells y))).run Tryz.prog W = .ok (.bool (!decide (x = y))) W := fun W => corrCells_neq x y W
        have hk0 : (0 : Int) ≤ k := by omega
        have hk1 : (k : Int) < l.length := by omega
        clear ht hlt2
        by_cases hxy : x = y
        · have HE2 := Lib.hid (HE.out hxy)
          have hxd : decide (x = y) = true := decide_eq_true hxy
          rw [hxd] at hqr
          clear hxy
          clear HE
          go_wp2_with fail
          refine wp_tail 8 (by kernel_rfl) (by kernel_rfl) ?_
          simp only [List.take_succ_cons, List.take_zero, List.drop_succ_cons, List.drop_zero]
          still_step
          still_step
          still_step
          refine wpStill_value rfl _ (exec_smid S_corr _ rfl (by simp [Act.eval]) (corrCells x) rfl G1.out) ?_
          simp only [Act.put, List.setIfInBounds_toArray, List.set_cons_zero, List.set_cons_succ]
          still_step
          still_step
          still_step
          refine wpStill_value rfl _ (exec_smid S_corr _ rfl (by simp [Act.eval]) (corrCells y) rfl G2.out) ?_
          simp only [Act.put, List.setIfInBounds_toArray, List.set_cons_zero, List.set_cons_succ]
          refine wpStill_nil ?_
          go_wp2_with fail
          go_roundw
          case rel => exact ⟨k + 1, by omega, by go_num, hb.drew, HE2⟩
          case measure => simp [intOf]; omega
        · have hxd : decide (x = y) = false := decide_eq_false hxy
          rw [hxd] at hqr
          have HNE := Lib.hid hxy
          clear hxy
          go_wp2_with fail
          refine wp_tail 8 (by kernel_rfl) (by kernel_rfl) ?_
          simp only [List.take_succ_cons, List.take_zero, List.drop_succ_cons, List.drop_zero]
          still_step
          still_step
          still_step
          refine wpStill_value rfl _ (exec_smid S_corr _ rfl (by simp [Act.eval]) (corrCells x) rfl G1.out) ?_
          simp only [Act.put, List.setIfInBounds_toArray, List.set_cons_zero, List.set_cons_succ]
          still_step
          still_step
          still_step
          refine wpStill_value rfl _ (exec_smid S_corr _ rfl (by simp [Act.eval]) (corrCells y) rfl G2.out) ?_
          simp only [Act.put, List.setIfInBounds_toArray, List.set_cons_zero, List.set_cons_succ]
          refine wpStill_nil ?_
          go_wp2_with fail
          go_ret
          exact ⟨ret_bool (by symm; exact decide_eq_false (HN.out HNE.out)), hb.drew⟩
      · have e : k = l.length := by omega
        subst e
        have HF : Hid (l = m) := Lib.hid (eq_full HL.out ht.out)
        go_wp2_with fail
        go_ret
        exact ⟨ret_bool (by symm; exact decide_eq_true HF.out), hb⟩
  · have hne : decide (l.length = m.length) = false := decide_eq_false hl
    have HNE : Hid (l ≠ m) := Lib.hid (fun e => hl (by rw [e]))
    go_enter Tryz.func90, Tryz.ntmps90
    go_wp2_with fail
    all_goals first
      | (go_ret
         exact ⟨ret_bool (by symm; exact decide_eq_false HNE.out), Below.refl _ _⟩)
      | (exfalso; simp_all; done)
set_option maxRecDepth 10000 in
set_option maxHeartbeats 4000000 in
theorem sameStory_any {mem : Addr → Option Value} {v u : Value} {x y : StyF} (h1 : StyV mem v x) (h2 : StyV mem u y) (w : World) (hs : Sees mem w) :
    Calls Tryz.prog 59 #[v, u] w fun e w' => e = .returned (.bool (decide (x = y))) ∧ Below w.heap.size w w' := by
  obtain ⟨_, tv, ev, cv, rfl, ht1, he1, hc1⟩ := h1
  obtain ⟨_, tv2, ev2, cv2, rfl, ht2, he2, hc2⟩ := h2
  obtain ⟨id, author, topics, eds, pub, corr, retr, taken⟩ := x
  obtain ⟨id2, author2, topics2, eds2, pub2, corr2, retr2, taken2⟩ := y
  have HT := Lib.hid (fun W hW => eqStrs_any ht1 ht2 W hW)
  have HE := Lib.hid (fun W hW => eqEdns_any he1 he2 W hW)
  have HC := Lib.hid (fun W hW => eqCorrs_any hc1 hc2 W hW)
  obtain ⟨ta, tc, rfl⟩ := ht1.slice
  obtain ⟨ta2, tc2, rfl⟩ := ht2.slice
  obtain ⟨ea, ec, rfl⟩ := SlM.slice he1
  obtain ⟨ea2, ec2, rfl⟩ := SlM.slice he2
  obtain ⟨ca, cc, rfl⟩ := SlM.slice hc1
  obtain ⟨ca2, cc2, rfl⟩ := SlM.slice hc2
  have HR := Lib.hid (sty_dec id author topics eds pub corr retr taken id2 author2 topics2 eds2 pub2 corr2 retr2 taken2)
  have HS := Lib.hid hs
  dsimp only at HT HE HC ⊢
  clear ht1 ht2 he1 he2 hc1 hc2 hs
  generalize hn1 : topics.length = n1 at *
  generalize hn2 : topics2.length = n2 at *
  generalize hn3 : eds.length = n3 at *
  generalize hn4 : eds2.length = n4 at *
  generalize hn5 : corr.length = n5 at *
  generalize hn6 : corr2.length = n6 at *
  clear hn1 hn2 hn3 hn4 hn5 hn6
  obtain ⟨W2, hW2⟩ : ∃ W2, W2 = (w.alloc (.cells #[.int .i64 id, .string author, .slice ta n1 tc, .slice ea n3 ec, .int .i64 pub, .slice ca n5 cc, .bool retr, .bool taken] 34)).alloc (.cells #[.int .i64 id2, .string author2, .slice ta2 n2 tc2, .slice ea2 n4 ec2, .int .i64 pub2, .slice ca2 n6 cc2, .bool retr2, .bool taken2] 34) := ⟨_, rfl⟩
  have hB2 : Below w.heap.size w W2 := by rw [hW2]; exact (bel1 w _).alloc (by simp) _
  have HN1 : Hid (W2.heap[w.heap.size]? = some (.cells #[.int .i64 id, .string author, .slice ta n1 tc, .slice ea n3 ec, .int .i64 pub, .slice ca n5 cc, .bool retr, .bool taken] 34 (0, 0))) := Lib.hid (by rw [hW2]; exact heap_new1 w _ _)
  have HN2 : Hid (W2.heap[w.heap.size + 1]? = some (.cells #[.int .i64 id2, .string author2, .slice ta2 n2 tc2, .slice ea2 n4 ec2, .int .i64 pub2, .slice ca2 n6 cc2, .bool retr2, .bool taken2] 34 (0, 0))) := Lib.hid (by
    rw [hW2]
    have := World.alloc_heap_new (w.alloc (.cells #[.int .i64 id, .string author, .slice ta n1 tc, .slice ea n3 ec, .int .i64 pub, .slice ca n5 cc, .bool retr, .bool taken] 34)) (.cells #[.int .i64 id2, .string author2, .slice ta2 n2 tc2, .slice ea2 n4 ec2, .int .i64 pub2, .slice ca2 n6 cc2, .bool retr2, .bool taken2] 34)
    simpa using this)
  have HB2 := Lib.hid hB2
  have HW2 := Lib.hid hW2
  have HS2 := Lib.hid (HS.out.bel hB2)
  clear hB2 hW2
  go_enter Tryz.func59, Tryz.ntmps59
  go_upto_region 1 with fail
  rw [← HW2.out]
  have HB := HB2
  have HSW := HS2
  have HH1 := HN1
  have HH2 := HN2
  clear HB2 HS2 HN1 HN2 HW2
  have p0 : W2.cell? ⟨w.heap.size, 0, none⟩ = some (.int .i64 id) := rowcell HH1.out
  have q0 : W2.cell? ⟨w.heap.size + 1, 0, none⟩ = some (.int .i64 id2) := rowcell HH2.out
  have p1 : W2.cell? ⟨w.heap.size, 1, none⟩ = some (.string author) := rowcell HH1.out
  have q1 : W2.cell? ⟨w.heap.size + 1, 1, none⟩ = some (.string author2) := rowcell HH2.out
  have p2 : W2.cell? ⟨w.heap.size, 2, none⟩ = some (.slice ta n1 tc) := rowcell HH1.out
  have q2 : W2.cell? ⟨w.heap.size + 1, 2, none⟩ = some (.slice ta2 n2 tc2) := rowcell HH2.out
  have p3 : W2.cell? ⟨w.heap.size, 3, none⟩ = some (.slice ea n3 ec) := rowcell HH1.out
  have q3 : W2.cell? ⟨w.heap.size + 1, 3, none⟩ = some (.slice ea2 n4 ec2) := rowcell HH2.out
  have p4 : W2.cell? ⟨w.heap.size, 4, none⟩ = some (.int .i64 pub) := rowcell HH1.out
  have q4 : W2.cell? ⟨w.heap.size + 1, 4, none⟩ = some (.int .i64 pub2) := rowcell HH2.out
  have p5 : W2.cell? ⟨w.heap.size, 5, none⟩ = some (.slice ca n5 cc) := rowcell HH1.out
  have q5 : W2.cell? ⟨w.heap.size + 1, 5, none⟩ = some (.slice ca2 n6 cc2) := rowcell HH2.out
  have p6 : W2.cell? ⟨w.heap.size, 6, none⟩ = some (.bool retr) := rowcell HH1.out
  have q6 : W2.cell? ⟨w.heap.size + 1, 6, none⟩ = some (.bool retr2) := rowcell HH2.out
  have p7 : W2.cell? ⟨w.heap.size, 7, none⟩ = some (.bool taken) := rowcell HH1.out
  have q7 : W2.cell? ⟨w.heap.size + 1, 7, none⟩ = some (.bool taken2) := rowcell HH2.out
  by_cases e0 : id = id2
  · subst e0
    by_cases e1 : author = author2
    · subst e1
      go_wp2_with fail
      refine (HT.out _ HSW.out).mono ?_
      rintro e w12 ⟨rfl, hb⟩
      have HB := Lib.hid (HB.out.trans (hb.mono HB.out.size))
      have HSW := Lib.hid (HSW.out.bel hb)
      have HH1 := Lib.hid ((hb.block _ (hlt HH1.out)).trans HH1.out)
      have HH2 := Lib.hid ((hb.block _ (hlt HH2.out)).trans HH2.out)
      clear hb p0 q0 p1 q1 p2 q2 p3 q3 p4 q4 p5 q5 p6 q6 p7 q7
      have p0 : w12.cell? ⟨w.heap.size, 0, none⟩ = some (.int .i64 id) := rowcell HH1.out
      have q0 : w12.cell? ⟨w.heap.size + 1, 0, none⟩ = some (.int .i64 id) := rowcell HH2.out
      have p1 : w12.cell? ⟨w.heap.size, 1, none⟩ = some (.string author) := rowcell HH1.out
      have q1 : w12.cell? ⟨w.heap.size + 1, 1, none⟩ = some (.string author) := rowcell HH2.out
      have p2 : w12.cell? ⟨w.heap.size, 2, none⟩ = some (.slice ta n1 tc) := rowcell HH1.out
      have q2 : w12.cell? ⟨w.heap.size + 1, 2, none⟩ = some (.slice ta2 n2 tc2) := rowcell HH2.out
      have p3 : w12.cell? ⟨w.heap.size, 3, none⟩ = some (.slice ea n3 ec) := rowcell HH1.out
      have q3 : w12.cell? ⟨w.heap.size + 1, 3, none⟩ = some (.slice ea2 n4 ec2) := rowcell HH2.out
      have p4 : w12.cell? ⟨w.heap.size, 4, none⟩ = some (.int .i64 pub) := rowcell HH1.out
      have q4 : w12.cell? ⟨w.heap.size + 1, 4, none⟩ = some (.int .i64 pub2) := rowcell HH2.out
      have p5 : w12.cell? ⟨w.heap.size, 5, none⟩ = some (.slice ca n5 cc) := rowcell HH1.out
      have q5 : w12.cell? ⟨w.heap.size + 1, 5, none⟩ = some (.slice ca2 n6 cc2) := rowcell HH2.out
      have p6 : w12.cell? ⟨w.heap.size, 6, none⟩ = some (.bool retr) := rowcell HH1.out
      have q6 : w12.cell? ⟨w.heap.size + 1, 6, none⟩ = some (.bool retr2) := rowcell HH2.out
      have p7 : w12.cell? ⟨w.heap.size, 7, none⟩ = some (.bool taken) := rowcell HH1.out
      have q7 : w12.cell? ⟨w.heap.size + 1, 7, none⟩ = some (.bool taken2) := rowcell HH2.out
      have EN : Hid (decide (topics = topics2) = false → decide (topics = topics2) = false) := Lib.hid (fun h => h)
      have EY : Hid (decide (topics = topics2) = true → topics = topics2) := Lib.hid of_decide_eq_true
      generalize hq : decide (topics = topics2) = q at *
      cases q with
      | false =>
        clear hq EY EN
        have EN := Lib.hid (Eq.refl false)
        go_wp2_with fail
        go_ret
        exact ⟨ret_false (by first | (rw [HR.out]; simp; done) | (simp [EN.out]; done)), HB.out⟩
      | true =>
        clear hq EY EN
        go_wp2_with fail
        refine (HE.out _ HSW.out).mono ?_
        rintro e w13 ⟨rfl, hb⟩
        have HB := Lib.hid (HB.out.trans (hb.mono HB.out.size))
        have HSW := Lib.hid (HSW.out.bel hb)
        have HH1 := Lib.hid ((hb.block _ (hlt HH1.out)).trans HH1.out)
        have HH2 := Lib.hid ((hb.block _ (hlt HH2.out)).trans HH2.out)
        clear hb p0 q0 p1 q1 p2 q2 p3 q3 p4 q4 p5 q5 p6 q6 p7 q7
        have p0 : w13.cell? ⟨w.heap.size, 0, none⟩ = some (.int .i64 id) := rowcell HH1.out
        have q0 : w13.cell? ⟨w.heap.size + 1, 0, none⟩ = some (.int .i64 id) := rowcell HH2.out
        have p1 : w13.cell? ⟨w.heap.size, 1, none⟩ = some (.string author) := rowcell HH1.out
        have q1 : w13.cell? ⟨w.heap.size + 1, 1, none⟩ = some (.string author) := rowcell HH2.out
        have p2 : w13.cell? ⟨w.heap.size, 2, none⟩ = some (.slice ta n1 tc) := rowcell HH1.out
        have q2 : w13.cell? ⟨w.heap.size + 1, 2, none⟩ = some (.slice ta2 n2 tc2) := rowcell HH2.out
        have p3 : w13.cell? ⟨w.heap.size, 3, none⟩ = some (.slice ea n3 ec) := rowcell HH1.out
        have q3 : w13.cell? ⟨w.heap.size + 1, 3, none⟩ = some (.slice ea2 n4 ec2) := rowcell HH2.out
        have p4 : w13.cell? ⟨w.heap.size, 4, none⟩ = some (.int .i64 pub) := rowcell HH1.out
        have q4 : w13.cell? ⟨w.heap.size + 1, 4, none⟩ = some (.int .i64 pub2) := rowcell HH2.out
        have p5 : w13.cell? ⟨w.heap.size, 5, none⟩ = some (.slice ca n5 cc) := rowcell HH1.out
        have q5 : w13.cell? ⟨w.heap.size + 1, 5, none⟩ = some (.slice ca2 n6 cc2) := rowcell HH2.out
        have p6 : w13.cell? ⟨w.heap.size, 6, none⟩ = some (.bool retr) := rowcell HH1.out
        have q6 : w13.cell? ⟨w.heap.size + 1, 6, none⟩ = some (.bool retr2) := rowcell HH2.out
        have p7 : w13.cell? ⟨w.heap.size, 7, none⟩ = some (.bool taken) := rowcell HH1.out
        have q7 : w13.cell? ⟨w.heap.size + 1, 7, none⟩ = some (.bool taken2) := rowcell HH2.out
        have EN : Hid (decide (eds = eds2) = false → decide (eds = eds2) = false) := Lib.hid (fun h => h)
        have EY : Hid (decide (eds = eds2) = true → eds = eds2) := Lib.hid of_decide_eq_true
        generalize hq : decide (eds = eds2) = q at *
        cases q with
        | false =>
          clear hq EY EN
          have EN := Lib.hid (Eq.refl false)
          go_wp2_with fail
          go_ret
          exact ⟨ret_false (by first | (rw [HR.out]; simp; done) | (simp [EN.out]; done)), HB.out⟩
        | true =>
          clear hq EY EN
          by_cases e4 : pub = pub2
          · subst e4
            go_wp2_with fail
            refine (HC.out _ HSW.out).mono ?_
            rintro e w15 ⟨rfl, hb⟩
            have HB := Lib.hid (HB.out.trans (hb.mono HB.out.size))
            have HSW := Lib.hid (HSW.out.bel hb)
            have HH1 := Lib.hid ((hb.block _ (hlt HH1.out)).trans HH1.out)
            have HH2 := Lib.hid ((hb.block _ (hlt HH2.out)).trans HH2.out)
            clear hb p0 q0 p1 q1 p2 q2 p3 q3 p4 q4 p5 q5 p6 q6 p7 q7
            have p0 : w15.cell? ⟨w.heap.size, 0, none⟩ = some (.int .i64 id) := rowcell HH1.out
            have q0 : w15.cell? ⟨w.heap.size + 1, 0, none⟩ = some (.int .i64 id) := rowcell HH2.out
            have p1 : w15.cell? ⟨w.heap.size, 1, none⟩ = some (.string author) := rowcell HH1.out
            have q1 : w15.cell? ⟨w.heap.size + 1, 1, none⟩ = some (.string author) := rowcell HH2.out
            have p2 : w15.cell? ⟨w.heap.size, 2, none⟩ = some (.slice ta n1 tc) := rowcell HH1.out
            have q2 : w15.cell? ⟨w.heap.size + 1, 2, none⟩ = some (.slice ta2 n2 tc2) := rowcell HH2.out
            have p3 : w15.cell? ⟨w.heap.size, 3, none⟩ = some (.slice ea n3 ec) := rowcell HH1.out
            have q3 : w15.cell? ⟨w.heap.size + 1, 3, none⟩ = some (.slice ea2 n4 ec2) := rowcell HH2.out
            have p4 : w15.cell? ⟨w.heap.size, 4, none⟩ = some (.int .i64 pub) := rowcell HH1.out
            have q4 : w15.cell? ⟨w.heap.size + 1, 4, none⟩ = some (.int .i64 pub) := rowcell HH2.out
            have p5 : w15.cell? ⟨w.heap.size, 5, none⟩ = some (.slice ca n5 cc) := rowcell HH1.out
            have q5 : w15.cell? ⟨w.heap.size + 1, 5, none⟩ = some (.slice ca2 n6 cc2) := rowcell HH2.out
            have p6 : w15.cell? ⟨w.heap.size, 6, none⟩ = some (.bool retr) := rowcell HH1.out
            have q6 : w15.cell? ⟨w.heap.size + 1, 6, none⟩ = some (.bool retr2) := rowcell HH2.out
            have p7 : w15.cell? ⟨w.heap.size, 7, none⟩ = some (.bool taken) := rowcell HH1.out
            have q7 : w15.cell? ⟨w.heap.size + 1, 7, none⟩ = some (.bool taken2) := rowcell HH2.out
            have EN : Hid (decide (corr = corr2) = false → decide (corr = corr2) = false) := Lib.hid (fun h => h)
            have EY : Hid (decide (corr = corr2) = true → corr = corr2) := Lib.hid of_decide_eq_true
            generalize hq : decide (corr = corr2) = q at *
            cases q with
            | false =>
              clear hq EY EN
              have EN := Lib.hid (Eq.refl false)
              go_wp2_with fail
              go_ret
              exact ⟨ret_false (by first | (rw [HR.out]; simp; done) | (simp [EN.out]; done)), HB.out⟩
            | true =>
              clear hq EY EN
              by_cases e6 : retr = retr2
              · subst e6
                by_cases e7 : taken = taken2
                · subst e7
                  go_wp2_with fail
                  go_ret
                  exact ⟨ret_true (by first | (rw [HR.out]; simp; done) | (simp; done)), HB.out⟩
                · have ne : (taken == taken2) = false := by simpa using e7
                  have EN := Lib.hid (decide_eq_false e7)
                  clear e7
                  go_wp2_with fail
                  go_ret
                  exact ⟨ret_false (by first | (rw [HR.out]; simp [EN.out]; done) | (simp [EN.out]; done)), HB.out⟩
              · have ne : (retr == retr2) = false := by simpa using e6
                have EN := Lib.hid (decide_eq_false e6)
                clear e6
                go_wp2_with fail
                go_ret
                exact ⟨ret_false (by first | (rw [HR.out]; simp [EN.out]; done) | (simp [EN.out]; done)), HB.out⟩
          · have ne : (pub == pub2) = false := by simpa using e4
            have EN := Lib.hid (decide_eq_false e4)
            clear e4
            go_wp2_with fail
            go_ret
            exact ⟨ret_false (by first | (rw [HR.out]; simp [EN.out]; done) | (simp [EN.out]; done)), HB.out⟩
    · have ne : (author.toList == author2.toList) = false := str_ne e1
      have EN := Lib.hid (decide_eq_false e1)
      clear e1
      go_wp2_with fail
      go_ret
      exact ⟨ret_false (by first | (rw [HR.out]; simp [EN.out]; done) | (simp [EN.out]; done)), HB.out⟩
  · have ne : (id == id2) = false := by simpa using e0
    have EN := Lib.hid (decide_eq_false e0)
    clear e0
    go_wp2_with fail
    go_ret
    exact ⟨ret_false (by first | (rw [HR.out]; simp [EN.out]; done) | (simp [EN.out]; done)), HB.out⟩
set_option maxRecDepth 10000 in
set_option maxHeartbeats 4000000 in
theorem eqStys_any {mem : Addr → Option Value} {v u : Value} {l m : List StyF} (h1 : StysM mem v l) (h2 : StysM mem u m) (w : World) (hs : Sees mem w) :
    Calls Tryz.prog 58 #[v, u, .func (.func 59) #[] #[]] w fun e w' => e = .returned (.bool (decide (l = m))) ∧ Below w.heap.size w w' := by
  obtain ⟨ao, cap, b, o, rfl, hcap, hm, hao, hblks⟩ := SlM.open_ h1
  obtain ⟨ao2, cap2, b2, o2, rfl, hcap2, hm2, hao2, hblks2⟩ := SlM.open_ h2
  have HA := Lib.hid hao
  have HA2 := Lib.hid hao2
  have HB := Lib.hid hblks
  have HB2 := Lib.hid hblks2
  have HS := Lib.hid hs
  have hlen : (l.length : Int) ≤ 9223372036854775807 := by unfold maxLen at hm; omega
  have hlen2 : (m.length : Int) ≤ 9223372036854775807 := by unfold maxLen at hm2; omega
  clear h1 h2 hao hao2 hblks hblks2 hs hcap hcap2 hm hm2
  by_cases hl : l.length = m.length
  · have HL := Lib.hid hl
    rw [← hl]
    clear hl
    go_enter Tryz.func58, Tryz.ntmps58
    go_wp2_with fail
    go_loopw [17] (fun i wr => ∃ k : Nat, k ≤ l.length ∧ i = .int .i64 k ∧ Below w.heap.size w wr ∧ Hid (l.take k = m.take k)) (fun i _ => l.length - (intOf i).toNat)
    case atStart => exact ⟨0, Nat.zero_le _, rfl, Below.refl _ _, Lib.hid rfl⟩
    case round =>
      obtain ⟨k, hk, rfl, hb, ht⟩ := hrel
      by_cases hlt : k < l.length
      · have hlt2 : k < m.length := by rw [← HL.out]; exact hlt
        obtain rfl := HA.out (by omega)
        obtain rfl := HA2.out (by omega)
        obtain ⟨hok, tv, ev, cv, hcells, hP⟩ := HB.out k hlt
        obtain ⟨hok2, tv2, ev2, cv2, hcells2, hP2⟩ := HB2.out k hlt2
        have HV1 : Hid (StyV mem (.agg (styCells l[k] tv ev cv)) l[k]) := Lib.hid ⟨hok, _, _, _, rfl, hP⟩
        have HV2 : Hid (StyV mem (.agg (styCells m[k] tv2 ev2 cv2)) m[k]) := Lib.hid ⟨hok2, _, _, _, rfl, hP2⟩
        have HD1 := Lib.hid (cells_see (sz := 8) (HS.out.bel hb) hcells rfl)
        have HD2 := Lib.hid (cells_see (sz := 8) (HS.out.bel hb) hcells2 rfl)
        obtain ⟨t1, t2, e1, e2, c1, c2, rfl, rfl, rfl⟩ := hP.shape
        obtain ⟨t3, t4, e3, e4, c3, c4, rfl, rfl, rfl⟩ := hP2.shape
        generalize l[k].topics.length = n1 at *
        generalize l[k].eds.length = n2 at *
        generalize l[k].corr.length = n3 at *
        generalize m[k].topics.length = n4 at *
        generalize m[k].eds.length = n5 at *
        generalize m[k].corr.length = n6 at *
        clear hok hok2 hcells hcells2 hP hP2
        have HE : Hid (l[k] = m[k] → l.take (k + 1) = m.take (k + 1)) := Lib.hid (take_step hlt hlt2 ht.out)
        have HN : Hid (l[k] ≠ m[k] → decide (l = m) = false) := Lib.hid (fun e => decide_eq_false (ne_of_get hlt hlt2 e))
        have hk0 : (0 : Int) ≤ k := by omega
        have hk1 : (k : Int) < l.length := by omega
        generalize l[k] = x at *
        generalize m[k] = y at *
        have HC : Hid (∀ W, Sees mem W → Calls Tryz.prog 59 #[.agg (styCells x (.slice t1 n1 t2) (.slice e1 n2 e2) (.slice c1 n3 c2)), .agg (styCells y (.slice t3 n4 t4) (.slice e3 n5 e4) (.slice c3 n6 c4))] W fun e w' => e = .returned (.bool (decide (x = y))) ∧ Below W.heap.size W w') :=
          Lib.hid (fun W hW => sameStory_any HV1.out HV2.out W hW)
        have HC9 : Hid (decide (x = y) = true → x = y) := Lib.hid of_decide_eq_true
        have HC8 : Hid (decide (x = y) = false → x ≠ y) := Lib.hid of_decide_eq_false
        generalize hq : decide (x = y) = q at *
        have HB0 := Lib.hid hb
        clear hq ht hb
        go_upto_region 6 with (first
          | ((with_reducible refine at_sload 34 _ rfl ?_); go_must (refine wpList_smid rfl S_sty _ rfl (by simp [Act.eval]) (styCells x (.slice t1 n1 t2) (.slice e1 n2 e2) (.slice c1 n3 c2)) rfl HD1.out ?_))
          | ((with_reducible refine at_sstore 34 _ _ rfl ?_); go_must (refine wpList_snew rfl S_sty _ _ rfl rfl _ _ (styCells x (.slice t1 n1 t2) (.slice e1 n2 e2) (.slice c1 n3 c2)) (by simp [Act.eval]) (by simp [Act.eval]) rfl rfl (by simp [Value.oneCell']) ?_)))
        obtain ⟨W4, hW4⟩ : ∃ W4, W4 = wr.alloc (.cells (styCells x (.slice t1 n1 t2) (.slice e1 n2 e2) (.slice c1 n3 c2)) 34) := ⟨_, rfl⟩
        rw [← hW4]
        have hb4 : Below wr.heap.size wr W4 := by rw [hW4]; exact bel1 _ _
        have HN4 : Hid (W4.heap[wr.heap.size]? = some (.cells (styCells x (.slice t1 n1 t2) (.slice e1 n2 e2) (.slice c1 n3 c2)) 34 (0, 0))) := Lib.hid (by rw [hW4]; exact World.alloc_heap_new _ _)
        have HD3 := Lib.hid (cells_in HD2.out hb4)
        have HB4 := Lib.hid hb4
        clear hW4 hb4
        go_upto_region 7 with (first
          | ((with_reducible refine at_sload 34 _ rfl ?_); go_must (refine wpList_smid rfl S_sty _ rfl (by simp [Act.eval]) (styCells y (.slice t3 n4 t4) (.slice e3 n5 e4) (.slice c3 n6 c4)) rfl HD3.out ?_))
          | ((with_reducible refine at_sstore 34 _ _ rfl ?_); go_must (refine wpList_snew rfl S_sty _ _ rfl rfl _ _ (styCells y (.slice t3 n4 t4) (.slice e3 n5 e4) (.slice c3 n6 c4)) (by simp [Act.eval]) (by simp [Act.eval]) rfl rfl (by simp [Value.oneCell']) ?_)))
        obtain ⟨W5, hW5⟩ : ∃ W5, W5 = W4.alloc (.cells (styCells y (.slice t3 n4 t4) (.slice e3 n5 e4) (.slice c3 n6 c4)) 34) := ⟨_, rfl⟩
        rw [← hW5]
        have hb5 : Below W4.heap.size W4 W5 := by rw [hW5]; exact bel1 _ _
        have HN6 : Hid (W5.heap[W4.heap.size]? = some (.cells (styCells y (.slice t3 n4 t4) (.slice e3 n5 e4) (.slice c3 n6 c4)) 34 (0, 0))) := Lib.hid (by rw [hW5]; exact World.alloc_heap_new _ _)
        have HN5 := Lib.hid ((hb5.block _ (Go.Proofs.YtdkkhmjlamkgdaaGreatDoor.hlt HN4.out)).trans HN4.out)
        have HB5 : Hid (Below w.heap.size w W5) := Lib.hid ((HB0.out.trans (HB4.out.mono HB0.out.size)).trans (hb5.mono (Nat.le_trans HB0.out.size HB4.out.size)))
        have HS5 := Lib.hid (HS.out.bel HB5.out)
        clear hW5 hb5
        go_wp2_with (first
          | ((with_reducible refine at_sload 34 (.tmp 8) rfl ?_); go_must (refine wpList_sload rfl S_sty _ rfl (by simp [Act.eval]) (styCells x (.slice t1 n1 t2) (.slice e1 n2 e2) (.slice c1 n3 c2)) rfl HN5.out ?_))
          | ((with_reducible refine at_sload 34 (.tmp 9) rfl ?_); go_must (refine wpList_sload rfl S_sty _ rfl (by simp [Act.eval, Act.put]) (styCells y (.slice t3 n4 t4) (.slice e3 n5 e4) (.slice c3 n6 c4)) rfl HN6.out ?_)))
        refine (HC.out _ HS5.out).mono ?_
        rintro e w3 ⟨rfl, hb3⟩
        have hB3 : Below w.heap.size w w3 := HB5.out.trans (hb3.mono HB5.out.size)
        clear hb3 HB0
        cases q with
        | true =>
          have HE2 := Lib.hid (HE.out (HC9.out rfl))
          clear HE HN HC9 HC8
          go_wp2_with fail
          go_roundw
          case rel => exact ⟨k + 1, by omega, by go_num, hB3, HE2⟩
          case measure => simp [intOf]; omega
        | false =>
          have HN2 := Lib.hid (HN.out (HC8.out rfl))
          clear HE HN HC9 HC8
          go_wp2_with fail
          go_ret
          exact ⟨ret_false HN2.out, hB3⟩
      · have e : k = l.length := by omega
        subst e
        have HF : Hid (decide (l = m) = true) := Lib.hid (decide_eq_true (eq_full HL.out ht.out))
        go_wp2_with fail
        go_ret
        exact ⟨ret_true HF.out, hb⟩
  · have HNE : Hid (decide (l = m) = false) := Lib.hid (decide_eq_false (fun e => hl (by rw [e])))
    have hne : decide (l.length = m.length) = false := decide_eq_false hl
    go_enter Tryz.func58, Tryz.ntmps58
    go_wp2_with fail
    all_goals first
      | (go_ret
         exact ⟨ret_false HNE.out, Below.refl _ _⟩)
      | (exfalso; simp_all; done)
end Go.Proofs.YtdkkhmjlamkgdaaGreatDoor
namespace Go.Proofs.YtdkkhmjlamkgdaaGreatDoor
open Go.RowKit Mg Go.Shelf Go.Maps

theorem tplCells_neq (x y : TplF) (W : World) : (binOp .neq 52 (.agg (tplCells x)) (.agg (tplCells y))).run Tryz.prog W = .ok (.bool (!decide (x = y))) W := by
  obtain ⟨a0, a1⟩ := x
  obtain ⟨b0, b1⟩ := y
  rw [run_neq_struct, run_equalIn_agg _ _ _ _ _ (by kernel_rfl) (by kernel_rfl)]
  simp only [Program.fieldsOf, Tryz.underlying52]
  go_simp
  simp only [toList_iff]
  by_cases h0 : a0 = b0 <;> by_cases h1 : a1 = b1 <;> simp [h0, h1]
set_option maxRecDepth 10000 in
set_option maxHeartbeats 1000000 in
theorem eqTpls_any {mem : Addr → Option Value} {v u : Value} {l m : List TplF} (h1 : TplsM mem v l) (h2 : TplsM mem u m) (w : World) (hs : Sees mem w) :
    Calls Tryz.prog 60 #[v, u] w fun e w' => e = .returned (.bool (decide (l = m))) ∧ Below w.heap.size w w' := by
  obtain ⟨ao, cap, b, o, rfl, hcap, hm, hao, hcells⟩ := SlM.open_ h1
  obtain ⟨ao2, cap2, b2, o2, rfl, hcap2, hm2, hao2, hcells2⟩ := SlM.open_ h2
  have HS := Lib.hid hs
  have HA := Lib.hid hao
  have HA2 := Lib.hid hao2
  have HC := Lib.hid hcells
  have HC2 := Lib.hid hcells2
  have hlen : (l.length : Int) ≤ 9223372036854775807 := by unfold maxLen at hm; omega
  have hlen2 : (m.length : Int) ≤ 9223372036854775807 := by unfold maxLen at hm2; omega
  clear hao hao2 hcells hcells2 hs h1 h2 hcap hcap2 hm hm2
  by_cases hl : l.length = m.length
  · have HL := Lib.hid hl
    rw [← hl]
    clear hl
    go_enter Tryz.func60, Tryz.ntmps60
    go_wp2_with fail
    go_loopw [13] (fun i wr => ∃ k : Nat, k ≤ l.length ∧ i = .int .i64 k ∧ Below w.heap.size w wr ∧ Hid (l.take k = m.take k)) (fun i _ => l.length - (intOf i).toNat)
    case atStart => exact ⟨0, Nat.zero_le _, rfl, Below.refl _ _, Lib.hid rfl⟩
    case round =>
      obtain ⟨k, hk, rfl, hb, ht⟩ := hrel
      by_cases hlt : k < l.length
      · have hlt2 : k < m.length := by rw [← HL.out]; exact hlt
        have g1 := cells_see (sz := 2) (HS.out.bel hb) (HC.out k hlt).2 rfl
        have g2 := cells_see (sz := 2) (HS.out.bel hb) (HC2.out k hlt2).2 rfl
        obtain rfl := HA.out (by omega)
        obtain rfl := HA2.out (by omega)
        have HE : Hid (l[k] = m[k] → l.take (k + 1) = m.take (k + 1)) := Lib.hid (take_step hlt hlt2 ht.out)
        have HN : Hid (l[k] ≠ m[k] → l ≠ m) := Lib.hid (ne_of_get hlt hlt2)
        generalize l[k] = x at *
        generalize m[k] = y at *
        have G1 := Lib.hid g1
        have G2 := Lib.hid g2
        clear g1 g2
        have hqr : ∀ W : World, (binOp .neq 52 (.agg (tplCells x)) (.agg (tplCells y))).run Tryz.prog W = .ok (.bool (!decide (x = y))) W := fun W => tplCells_neq x y W
        have hk0 : (0 : Int) ≤ k := by omega
        have hk1 : (k : Int) < l.length := by omega
        clear ht hlt2
        by_cases hxy : x = y
        · have HE2 := Lib.hid (HE.out hxy)
          have hxd : decide (x = y) = true := decide_eq_true hxy
          rw [hxd] at hqr
          clear hxy
          clear HE
          go_wp2_with fail
          refine wp_tail 8 (by kernel_rfl) (by kernel_rfl) ?_
          simp only [List.take_succ_cons, List.take_zero, List.drop_succ_cons, List.drop_zero]
          still_step
          still_step
          still_step
          refine wpStill_value rfl _ (exec_smid S_tpl _ rfl (by simp [Act.eval]) (tplCells x) rfl G1.out) ?_
          simp only [Act.put, List.setIfInBounds_toArray, List.set_cons_zero, List.set_cons_succ]
          still_step
          still_step
          still_step
          refine wpStill_value rfl _ (exec_smid S_tpl _ rfl (by simp [Act.eval]) (tplCells y) rfl G2.out) ?_
          simp only [Act.put, List.setIfInBounds_toArray, List.set_cons_zero, List.set_cons_succ]
          refine wpStill_nil ?_
          go_wp2_with fail
          go_roundw
          case rel => exact ⟨k + 1, by omega, by go_num, hb.drew, HE2⟩
          case measure => simp [intOf]; omega
        · have hxd : decide (x = y) = false := decide_eq_false hxy
          rw [hxd] at hqr
          have HNE := Lib.hid hxy
          clear hxy
          go_wp2_with fail
          refine wp_tail 8 (by kernel_rfl) (by kernel_rfl) ?_
          simp only [List.take_succ_cons, List.take_zero, List.drop_succ_cons, List.drop_zero]
          still_step
          still_step
          still_step
          refine wpStill_value rfl _ (exec_smid S_tpl _ rfl (by simp [Act.eval]) (tplCells x) rfl G1.out) ?_
          simp only [Act.put, List.setIfInBounds_toArray, List.set_cons_zero, List.set_cons_succ]
          still_step
          still_step
          still_step
          refine wpStill_value rfl _ (exec_smid S_tpl _ rfl (by simp [Act.eval]) (tplCells y) rfl G2.out) ?_
          simp only [Act.put, List.setIfInBounds_toArray, List.set_cons_zero, List.set_cons_succ]
          refine wpStill_nil ?_
          go_wp2_with fail
          go_ret
          exact ⟨ret_bool (by symm; exact decide_eq_false (HN.out HNE.out)), hb.drew⟩
      · have e : k = l.length := by omega
        subst e
        have HF : Hid (l = m) := Lib.hid (eq_full HL.out ht.out)
        go_wp2_with fail
        go_ret
        exact ⟨ret_bool (by symm; exact decide_eq_true HF.out), hb⟩
  · have hne : decide (l.length = m.length) = false := decide_eq_false hl
    have HNE : Hid (l ≠ m) := Lib.hid (fun e => hl (by rw [e]))
    go_enter Tryz.func60, Tryz.ntmps60
    go_wp2_with fail
    all_goals first
      | (go_ret
         exact ⟨ret_bool (by symm; exact decide_eq_false HNE.out), Below.refl _ _⟩)
      | (exfalso; simp_all; done)
set_option maxRecDepth 10000 in
set_option maxHeartbeats 4000000 in
theorem same_law {mem : Addr → Option Value} {v u : Value} {x y : StF} (h1 : StateM mem v x) (h2 : StateM mem u y) (w : World) (hs : Sees mem w) :
    Calls Tryz.prog 31 #[v, u] w fun e w' => e = .returned (.bool (decide (x = y))) ∧ Below w.heap.size w w' := by
  obtain ⟨sv, tv, rfl, hs1, ht1⟩ := h1
  obtain ⟨sv2, tv2, rfl, hs2, ht2⟩ := h2
  obtain ⟨sts, tps⟩ := x
  obtain ⟨sts2, tps2⟩ := y
  dsimp only at hs1 ht1 hs2 ht2
  have HL := Lib.hid (fun W hW => eqStys_any hs1 hs2 W hW)
  have HT := Lib.hid (fun W hW => eqTpls_any ht1 ht2 W hW)
  obtain ⟨a, c, rfl⟩ := SlM.slice hs1
  obtain ⟨a2, c2, rfl⟩ := SlM.slice hs2
  obtain ⟨b, d, rfl⟩ := SlM.slice ht1
  obtain ⟨b2, d2, rfl⟩ := SlM.slice ht2
  have HR : Hid (decide ((⟨sts, tps⟩ : StF) = ⟨sts2, tps2⟩) = (decide (sts = sts2) && decide (tps = tps2))) := Lib.hid (by simp only [StF.mk.injEq, Bool.decide_and])
  have HS := Lib.hid hs
  clear hs1 hs2 ht1 ht2 hs
  generalize hn1 : sts.length = n1 at *
  generalize hn2 : sts2.length = n2 at *
  generalize hn3 : tps.length = n3 at *
  generalize hn4 : tps2.length = n4 at *
  clear hn1 hn2 hn3 hn4
  obtain ⟨W2, hW2⟩ : ∃ W2, W2 = (w.alloc (.cells #[.slice a n1 c, .slice b n3 d] 27)).alloc (.cells #[.slice a2 n2 c2, .slice b2 n4 d2] 27) := ⟨_, rfl⟩
  have hB2 : Below w.heap.size w W2 := by rw [hW2]; exact (bel1 w _).alloc (by simp) _
  have HN1 : Hid (W2.heap[w.heap.size]? = some (.cells #[.slice a n1 c, .slice b n3 d] 27 (0, 0))) := Lib.hid (by rw [hW2]; exact heap_new1 w _ _)
  have HN2 : Hid (W2.heap[w.heap.size + 1]? = some (.cells #[.slice a2 n2 c2, .slice b2 n4 d2] 27 (0, 0))) := Lib.hid (by
    rw [hW2]
    have := World.alloc_heap_new (w.alloc (.cells #[.slice a n1 c, .slice b n3 d] 27)) (.cells #[.slice a2 n2 c2, .slice b2 n4 d2] 27)
    simpa using this)
  have HB2 := Lib.hid hB2
  have HW2 := Lib.hid hW2
  have HS2 := Lib.hid (HS.out.bel hB2)
  clear hB2 hW2
  go_enter Tryz.func31, Tryz.ntmps31
  go_upto_region 1 with fail
  rw [← HW2.out]
  have HB := HB2
  have HSW := HS2
  have HH1 := HN1
  have HH2 := HN2
  clear HB2 HS2 HN1 HN2 HW2
  have p0 : W2.cell? ⟨w.heap.size, 0, none⟩ = some (.slice a n1 c) := rowcell HH1.out
  have q0 : W2.cell? ⟨w.heap.size + 1, 0, none⟩ = some (.slice a2 n2 c2) := rowcell HH2.out
  have p1 : W2.cell? ⟨w.heap.size, 1, none⟩ = some (.slice b n3 d) := rowcell HH1.out
  have q1 : W2.cell? ⟨w.heap.size + 1, 1, none⟩ = some (.slice b2 n4 d2) := rowcell HH2.out
  go_wp2_with fail
  refine (HL.out _ HSW.out).mono ?_
  rintro e w10 ⟨rfl, hb⟩
  have HB := Lib.hid (HB.out.trans (hb.mono HB.out.size))
  have HSW := Lib.hid (HSW.out.bel hb)
  have HH1 := Lib.hid ((hb.block _ (hlt HH1.out)).trans HH1.out)
  have HH2 := Lib.hid ((hb.block _ (hlt HH2.out)).trans HH2.out)
  clear hb p0 q0 p1 q1
  have p0 : w10.cell? ⟨w.heap.size, 0, none⟩ = some (.slice a n1 c) := rowcell HH1.out
  have q0 : w10.cell? ⟨w.heap.size + 1, 0, none⟩ = some (.slice a2 n2 c2) := rowcell HH2.out
  have p1 : w10.cell? ⟨w.heap.size, 1, none⟩ = some (.slice b n3 d) := rowcell HH1.out
  have q1 : w10.cell? ⟨w.heap.size + 1, 1, none⟩ = some (.slice b2 n4 d2) := rowcell HH2.out
  have EN : Hid (decide (sts = sts2) = false → decide (sts = sts2) = false) := Lib.hid (fun h => h)
  have EY : Hid (decide (sts = sts2) = true → sts = sts2) := Lib.hid of_decide_eq_true
  generalize hq : decide (sts = sts2) = q at *
  cases q with
  | false =>
    clear hq EY EN
    have EN := Lib.hid (Eq.refl false)
    go_wp2_with fail
    go_ret
    exact ⟨ret_false (by first | (rw [HR.out]; simp; done) | (simp [EN.out]; done)), HB.out⟩
  | true =>
    clear hq EY EN
    go_wp2_with fail
    refine (HT.out _ HSW.out).mono ?_
    rintro e w11 ⟨rfl, hb⟩
    have HB := Lib.hid (HB.out.trans (hb.mono HB.out.size))
    have HSW := Lib.hid (HSW.out.bel hb)
    have HH1 := Lib.hid ((hb.block _ (hlt HH1.out)).trans HH1.out)
    have HH2 := Lib.hid ((hb.block _ (hlt HH2.out)).trans HH2.out)
    clear hb p0 q0 p1 q1
    have p0 : w11.cell? ⟨w.heap.size, 0, none⟩ = some (.slice a n1 c) := rowcell HH1.out
    have q0 : w11.cell? ⟨w.heap.size + 1, 0, none⟩ = some (.slice a2 n2 c2) := rowcell HH2.out
    have p1 : w11.cell? ⟨w.heap.size, 1, none⟩ = some (.slice b n3 d) := rowcell HH1.out
    have q1 : w11.cell? ⟨w.heap.size + 1, 1, none⟩ = some (.slice b2 n4 d2) := rowcell HH2.out
    have EN : Hid (decide (tps = tps2) = false → decide (tps = tps2) = false) := Lib.hid (fun h => h)
    have EY : Hid (decide (tps = tps2) = true → tps = tps2) := Lib.hid of_decide_eq_true
    generalize hq : decide (tps = tps2) = q at *
    cases q with
    | false =>
      clear hq EY EN
      have EN := Lib.hid (Eq.refl false)
      go_wp2_with fail
      go_ret
      exact ⟨ret_false (by first | (rw [HR.out]; simp; done) | (simp [EN.out]; done)), HB.out⟩
    | true =>
      clear hq EY EN
      go_wp2_with fail
      go_ret
      exact ⟨ret_true (by first | (rw [HR.out]; simp; done) | (simp; done)), HB.out⟩
end Go.Proofs.YtdkkhmjlamkgdaaGreatDoor
namespace Go.Proofs.YtdkkhmjlamkgdaaGreatDoor
open Go.RowKit Mg Go.Shelf Go.Maps

theorem take40 (l : List FctE) : ((l.take (min l.length 40)).map FctE.f).map shortF = shortL7 (l.map FctE.f) := by
  unfold shortL7
  rw [← List.map_take]
  congr 2
  rcases Nat.le_total l.length 40 with h | h
  · rw [Nat.min_eq_left h, List.take_length, List.take_of_length_le h]
  · rw [Nat.min_eq_right h]
theorem OwnI.over {mem : Addr → Option Value} {w0 w6 W : World} {oa : Option Addr} {oc : Nat} {fs : List FctE} (hr : FRow w6 w0.heap.size (.slice oa fs.length oc) fs) (hp : ∀ x ∈ fs, OwnP mem w6 w0.heap.size (.slice oa fs.length oc) x) (hb : Below w6.heap.size w6 W) : ∃ rb ro, FwC (fun k => k < w0.heap.size ∨ w6.heap.size ≤ k) W oa oc fs rb ro := by
  have hm : ∀ a u, memFr w6 (fun q => q < w0.heap.size ∨ (Value.slice oa fs.length oc).ownBlock = some q) a = some u → memFr W (fun k => k < w0.heap.size ∨ w6.heap.size ≤ k) a = some u := fun a u e => by
    obtain ⟨h1, h2, h3⟩ := memFr_lt a u e
    refine memFr_of (sees_bel hb a u (memFr_sees w6 _ a u e)) ((World.frozen?_of_block (hb.block _ h1)).trans h3) (fun q => ?_)
    rcases q with q | q
    · exact h2 (.inl q)
    · omega
  obtain ⟨va, vc, vb, vo, hv, hvm, hva, hve⟩ := (hr.es (fun x hx => (hp x hx).ok)).open_
  injection hv with e1 _ e3
  subst e1 e3
  refine ⟨vb, vo, hva, fun j hj i u hi => ?_, fun x hx => (hp x hx).tops.mono hm, fun x hx => (hp x hx).blks.mono hm, by unfold maxLen at hvm; omega⟩
  have hc := (hve j hj).2 i u hi
  rcases hr.2 with ⟨_, hz⟩ | ⟨g, cap, cur, hq, hg, hgg, _⟩
  · omega
  · have hq1 := hva (by omega)
    injection hq with hq _ _
    rw [hq1] at hq
    injection hq with hq
    injection hq with q1 q2 _
    subst q1
    have hgl := Go.Proofs.YtdkkhmjlamkgdaaGreatDoor.hlt hgg
    refine memFr_of (sees_bel hb _ _ hc) ((World.frozen?_of_block (hb.block _ hgl)).trans (rowfree hgg)) (fun q => ?_)
    rcases q with q | q
    · simp only at q; omega
    · simp only at q; omega
set_option maxRecDepth 100000 in
set_option maxHeartbeats 8000000 in
theorem fresh_any {mem : Addr → Option Value} {v : Value} {es : List FctE} (h : EsM mem v es) (w : World) (hs : Sees mem w) :
    Calls Tryz.prog 15 #[v] w fun e w' => e = .returned (.bool true) ∧ Below w.heap.size w w' := by
  have c0 := Lib.hid (sane_any w)
  have HS := Lib.hid hs
  have HE := Lib.hid h
  obtain ⟨va, vc, vb, vo, rfl, _⟩ := h.open_
  clear h hs
  go_enter Tryz.func15, Tryz.ntmps15
  go_wp2_with fail
  refine c0.out.mono ?_
  rintro e w0 ⟨rfl, hb0⟩
  have HB0 := Lib.hid hb0
  have HS0 := Lib.hid (HS.out.bel hb0)
  clear hb0 c0
  go_wp2_with fail
  refine frOwn_loop HE.out HS0.out _ _ _ _ _ _ _ _ _ _ _ _ _ _ _ _ _ _ _ _ _ _ _ _ _ _ _ _ _ _ _ _ _ _ _ _ _ _ _ _ _ _ _ _ _ _ _ _ _ _ _ _ _ _ _ _ _ _ _ _ _ _ _ _ _ _ _ _ _ _ _ _ _ _ _ _ _ _ _ _ _ _ _ _ _ _ _ _ _ _ _ _ _ _ _ _ _ _ _ _ _ _ _ _ _ _ _ _ _ _ _ _ _ _ _ _ _ _ _ _ _ _ _ _ _ _ _ _ _ _ _ _ _ _ _ _ _ _ _ _ _ _ _ _ _ _ _ _ _ _ _ _ _ _ _ _ _ _ _ _ _ _ _ _ _ _ _ _ _ _ _ _ _ _ _ _ _ _ _ _ _ _ _ _ _ _ _ _ _ _ _ _ _ _ _ _ _ _ _ _ _ _ _ _ _ _ _ _ _ rfl w0 (OwnI.start _ _ _) _ ?_
  intro u4 u5 u6 u7 u8 u9 u23 u24 u25 u26 u27 u28 u29 u30 u31 u32 u33 u34 u35 u36 u37 u38 u39 u40 u41 u42 u43 u44 u45 u46 u47 u48 u49 u50 u51 u52 u53 u54 u55 u56 u57 u58 u59 u60 u61 u62 u63 u64 u65 u66 u67 u68 u69 u70 u71 u72 u73 u74 w6 hI
  obtain ⟨fs, f1, f2, f3, f4⟩ := hI.row
  rw [take40] at f2
  obtain ⟨oa, oc, rfl⟩ := f1.shape
  have HFR := Lib.hid f1
  have HFM := Lib.hid f2
  have HFP := Lib.hid f4
  have hfl : fs.length ≤ 40 := by omega
  have HB6 : Hid (Below w.heap.size w w6) := Lib.hid (HB0.out.trans (hI.bel.mono HB0.out.size))
  have HB06 := Lib.hid hI.bel
  have HES : Hid (EsM (fun a => w6.cell? a) (.slice oa fs.length oc) fs) := Lib.hid (f1.es (fun x hx => (f4 x hx).ok))
  have HGD : Hid (∀ x ∈ fs, FGood x.f) := Lib.hid (fun x hx => by
    refine shortL7_good (es.map FctE.f) _ ?_
    rw [← f2]
    exact List.mem_map_of_mem hx)
  clear f1 f2 f3 f4 hI
  have cF := Lib.hid (Fold_law HES.out (by omega) (fun x hx _ => HGD.out x hx) w6 (Sees.self w6) (cells_lt w6))
  go_wp2_with fail
  refine cF.out.mono ?_
  rintro e w7 ⟨a, c, b, d, s, rfl, hF⟩
  have HF := Lib.hid hF
  have HB7 : Hid (Below w6.heap.size w6 w7) := Lib.hid hF.bel
  clear hF cF
  go_upto_region 18 with ((with_reducible refine at_sstore 27 _ _ rfl ?_); go_must (refine wpList_snew rfl S_state _ _ rfl rfl _ _ #[.slice a s.stories.length c, .slice b s.tpls.length d] (by simp [Act.eval]) (by simp [Act.eval]) rfl rfl (by simp [Value.oneCell']) ?_))
  obtain ⟨W8, hW8⟩ : ∃ W8, W8 = w7.alloc (.cells #[.slice a s.stories.length c, .slice b s.tpls.length d] 27) := ⟨_, rfl⟩
  rw [← hW8]
  have hb8 : Below w7.heap.size w7 W8 := by rw [hW8]; exact bel1 _ _
  have HN8 : Hid (W8.heap[w7.heap.size]? = some (.cells #[.slice a s.stories.length c, .slice b s.tpls.length d] 27 (0, 0))) := Lib.hid (by rw [hW8]; exact World.alloc_heap_new _ _)
  have HB78 := Lib.hid hb8
  have HB8 : Hid (Below w6.heap.size w6 W8) := Lib.hid (HB7.out.trans (hb8.mono HB7.out.size))
  clear hW8 hb8
  have cS := Lib.hid (short_law HE.out W8 (HS.out.bel (HB6.out.trans (HB8.out.mono HB6.out.size))))
  go_wp2_with fail
  refine cS.out.mono ?_
  rintro e w9 ⟨ra, rc, gs, rfl, hsh⟩
  have HB89 := Lib.hid hsh.bel
  have cF := Lib.hid hsh.fold
  have hgl := hsh.len
  clear hsh cS
  go_wp2_with fail
  refine cF.out.mono ?_
  rintro e w10 ⟨a9, c9, b9, d9, t, rfl, hF⟩
  have HF9 := Lib.hid hF
  have HB910 := Lib.hid hF.bel
  clear hF cF
  go_upto_region 19 with ((with_reducible refine at_sstore 27 _ _ rfl ?_); go_must (refine wpList_snew rfl S_state _ _ rfl rfl _ _ #[.slice a9 t.stories.length c9, .slice b9 t.tpls.length d9] (by simp [Act.eval]) (by simp [Act.eval]) rfl rfl (by simp [Value.oneCell']) ?_))
  obtain ⟨W11, hW11⟩ : ∃ W11, W11 = w10.alloc (.cells #[.slice a9 t.stories.length c9, .slice b9 t.tpls.length d9] 27) := ⟨_, rfl⟩
  rw [← hW11]
  have hb11 : Below w10.heap.size w10 W11 := by rw [hW11]; exact bel1 _ _
  have HN11 : Hid (W11.heap[w10.heap.size]? = some (.cells #[.slice a9 t.stories.length c9, .slice b9 t.tpls.length d9] 27 (0, 0))) := Lib.hid (by rw [hW11]; exact World.alloc_heap_new _ _)
  have HB1011 := Lib.hid hb11
  clear hW11 hb11
  have HB811 : Hid (Below W8.heap.size W8 W11) := Lib.hid (HB89.out.trans ((HB910.out.trans (HB1011.out.mono HB910.out.size)).mono HB89.out.size))
  have HB711 : Hid (Below w7.heap.size w7 W11) := Lib.hid (HB78.out.trans (HB811.out.mono HB78.out.size))
  have HB611 : Hid (Below w6.heap.size w6 W11) := Lib.hid (HB8.out.trans (HB811.out.mono HB8.out.size))
  have HNS : Hid (W11.heap[w7.heap.size]? = some (.cells #[.slice a s.stories.length c, .slice b s.tpls.length d] 27 (0, 0))) := Lib.hid ((HB811.out.block _ (Go.Proofs.YtdkkhmjlamkgdaaGreatDoor.hlt HN8.out)).trans HN8.out)
  obtain ⟨hst, _⟩ := HF.out.stys
  obtain ⟨sa, sc, sb, so, hsv, hcap, hm, hsa, hat⟩ := SlM.open_ hst
  injection hsv with e1 e2 e3
  subst e1 e3
  clear e2
  have HFC : Hid (FrC (memFr w7 (fun k => k < w6.heap.size + 1)) W11 a c b d w7.heap.size s sb so) := Lib.hid ⟨HF.out.st, (memFr_sees w7 _).bel HB711.out, gsty_all HF.out.good, HNS.out, hsa, hat, by unfold maxLen at hm; omega⟩
  clear hst hcap hm hsa hat
  go_wp2_with fail
  refine frSt_loop HFC.out _ _ _ _ _ _ _ _ _ _ _ _ _ _ _ _ _ _ _ _ _ _ _ _ _ _ _ _ _ _ _ _ _ _ _ _ _ _ _ _ _ _ _ _ _ _ _ _ _ _ _ _ _ _ _ _ _ _ _ _ _ _ _ _ _ _ _ _ _ _ _ _ _ _ _ _ _ _ _ _ _ _ _ _ _ _ _ _ _ _ _ _ _ _ _ _ _ _ _ _ _ _ _ _ _ _ _ _ _ _ _ _ _ _ _ _ _ _ _ _ _ _ _ _ _ _ _ _ _ _ _ _ _ _ _ _ _ _ _ _ _ _ _ _ _ _ _ _ _ _ _ _ _ _ _ _ _ _ _ _ _ _ _ _ _ _ _ _ _ _ _ _ _ _ _ _ _ _ _ _ _ _ _ _ _ _ _ _ _ _ _ _ _ _ _ _ _ _ _ _ _ _ _ _ _ _ _ _ _ rfl W11 (Below.refl _ _) _ ?_ (fun c a a2 w2 e h => ⟨e.trans h.1, h.2⟩)
  intro u12 u13 u14 u15 u16 u17 u80 u81 u82 u83 u84 u85 u86 u87 u88 u89 u90 u91 u92 u93 u94 u95 u96 u97 u98 u99 u100 u101 u102 u103 u104 u105 u106 u107 u108 u109 u110 u111 u112 u113 u114 u115 u116 u117 u118 u119 u120 u121 u122 u123 u124 u125 u126 u127 u128 u129 u130 u131 u132 u133 u134 u135 w12 hb12
  have HB12 := Lib.hid hb12
  have HB612 : Hid (Below w6.heap.size w6 w12) := Lib.hid (HB611.out.trans (hb12.mono HB611.out.size))
  clear hb12 HFC
  obtain ⟨rb, ro, hfw⟩ := OwnI.over HFR.out HFP.out HB612.out
  have HFW := Lib.hid hfw
  clear hfw
  go_wp2_with fail
  refine frOver_loop HFW.out _ _ _ _ _ _ _ _ _ _ _ _ _ _ _ _ _ _ _ _ _ _ _ _ _ _ _ _ _ _ _ _ _ _ _ _ _ _ _ _ _ _ _ _ _ _ _ _ _ _ _ _ _ _ _ _ _ _ _ _ _ _ _ _ _ _ _ _ _ _ _ _ _ _ _ _ _ _ _ _ _ _ _ _ _ _ _ _ _ _ _ _ _ _ _ _ _ _ _ _ _ _ _ _ _ _ _ _ _ _ _ _ _ _ _ _ _ _ _ _ _ _ _ _ _ _ _ _ _ _ _ _ _ _ _ _ _ _ _ _ _ _ _ _ _ _ _ _ _ _ _ _ _ _ _ _ _ _ _ _ _ _ _ _ _ _ _ _ _ _ _ _ _ _ _ _ _ _ _ _ _ _ _ _ _ _ _ _ _ _ _ _ _ _ _ _ _ _ _ _ _ _ _ _ _ _ _ _ _ rfl w12 (Chg2.start _ _) _ ?_
  intro u18 u19 u20 u21 u136 u137 u138 u139 u140 u141 u142 u143 u144 u145 u146 u147 u148 u149 u150 u151 u152 u153 u154 u155 u156 u157 u158 u159 u160 u161 u162 u163 u164 u165 u166 u167 u168 u169 u170 u171 u172 u173 u174 u175 u176 u177 u178 u179 u180 u181 u182 u183 u184 u185 u186 u187 u188 u189 u190 u191 u192 u193 u194 u195 u196 u197 u198 u199 u200 u201 u202 u203 w13 hc
  have hsame : ∀ k, w6.heap.size ≤ k → k < W11.heap.size → w13.heap[k]? = W11.heap[k]? := fun k h1 h2 => (hc.low (Nat.lt_of_lt_of_le h2 HB12.out.size) (.inr h1)).trans (HB12.out.block k h2)
  have HSB := Lib.hid (memB_sees (lo := w6.heap.size) (hi := W11.heap.size) hsame)
  have HBW : Hid (Below w.heap.size w w13) := Lib.hid (by
    have h0 : Below w.heap.size w w12 := HB6.out.trans (HB612.out.mono HB6.out.size)
    have h1 : Below w.heap.size w12 w13 := hc.upd.below (fun k hk => by
      have := HB0.out.size
      rcases Nat.lt_or_ge k w.heap.size with q | q
      · exact absurd (show k < w0.heap.size ∨ w6.heap.size ≤ k from .inl (by omega)) hk
      · exact q) h0.size
    exact h0.trans h1)
  have z7 : w6.heap.size ≤ w7.heap.size := HB7.out.size
  have z11 : w7.heap.size < W11.heap.size := Go.Proofs.YtdkkhmjlamkgdaaGreatDoor.hlt HNS.out
  have z10 : w6.heap.size ≤ w10.heap.size := Nat.le_trans HB8.out.size (Nat.le_trans HB89.out.size HB910.out.size)
  have z12 : w10.heap.size < W11.heap.size := Go.Proofs.YtdkkhmjlamkgdaaGreatDoor.hlt HN11.out
  have HX10 : Hid (w13.heap[w7.heap.size]? = some (.cells #[.slice a s.stories.length c, .slice b s.tpls.length d] 27 (0, 0))) := Lib.hid ((hsame _ z7 z11).trans HNS.out)
  have HX11 : Hid (w13.heap[w10.heap.size]? = some (.cells #[.slice a9 t.stories.length c9, .slice b9 t.tpls.length d9] 27 (0, 0))) := Lib.hid ((hsame _ z10 z12).trans HN11.out)
  have HSS : Hid (StateM (memB W11 w6.heap.size W11.heap.size) (.agg #[.slice a s.stories.length c, .slice b s.tpls.length d]) s) := Lib.hid (HF.out.st.mono (fun p u e => by
    obtain ⟨h1, h2, _⟩ := memFr_lt p u e
    unfold memB
    rw [if_pos ⟨by omega, by omega⟩]
    exact sees_bel HB711.out p u (memFr_sees w7 _ p u e)))
  have HST : Hid (StateM (memB W11 w6.heap.size W11.heap.size) (.agg #[.slice a9 t.stories.length c9, .slice b9 t.tpls.length d9]) t) := Lib.hid (HF9.out.st.mono (fun p u e => by
    obtain ⟨h1, h2, _⟩ := memFr_lt p u e
    have h3 := HB8.out.size
    have h4 := HB89.out.size
    unfold memB
    rw [if_pos ⟨by omega, by omega⟩]
    exact sees_bel HB1011.out p u (memFr_sees w10 _ p u e)))
  have HEQ : Hid (decide (s = t) = true) := Lib.hid (decide_eq_true (by
    have h1 := HF.out.is
    rw [HFM.out] at h1
    exact ((Alt.refl _).state h1 HF9.out.is).symm))
  have cE := Lib.hid (same_law HSS.out HST.out w13 HSB.out)
  rw [HEQ.out] at cE
  clear hc hsame z7 z10 z11 z12
  go_wp2_with (first
    | ((with_reducible refine at_sload 27 (.tmp 10) rfl ?_); go_must (refine wpList_val (by rfl) (.agg #[.slice a s.stories.length c, .slice b s.tpls.length d]) (exec_smid S_state _ rfl (by simp [Act.eval]) _ rfl (whole_cells HX10.out)) ?_))
    | ((with_reducible refine at_sload 27 (.tmp 11) rfl ?_); go_must (refine wpList_val (by rfl) (.agg #[.slice a9 t.stories.length c9, .slice b9 t.tpls.length d9]) (exec_smid S_state _ rfl (by simp [Act.eval, Act.put]) _ rfl (whole_cells HX11.out)) ?_)))
  refine cE.out.mono ?_
  rintro e w14 ⟨rfl, hb14⟩
  have HBE : Hid (Below w.heap.size w w14) := Lib.hid (HBW.out.trans (hb14.mono HBW.out.size))
  clear hb14 cE
  go_wp2_with fail
  go_ret
  exact ⟨rfl, HBE.out⟩
end Go.Proofs.YtdkkhmjlamkgdaaGreatDoor
namespace Go.Proofs.YtdkkhmjlamkgdaaGreatDoor.fnSFre
open Go.ChangeShapes Go.WideShapes Go.ChangeAt Go.RowKit Go.ChangeMaps Mg

set_option maxRecDepth 100000 in
theorem contract (H : Type) (enc : TypeId × Value → H) (W : World) (base : Nat) (args : Array Value) (ds gs : List (DataW H)) (before : List MemPlace)
    (hval : ∀ (j : Nat) t v, Tryz.f15.params[j]? = some t → args[j]? = some v → Value.okWide Tryz.prog W .any base t v)
    (hW : DataW.Whole enc Tryz.prog Tryz.f15.params.toList Rows.stateFreshSpec.vars false W args.toList ds gs before) :
    Calls Tryz.prog 15 args W fun e W' => ∃ v, e = .returned v ∧ Rows.stateFreshSpec.post enc Tryz.prog Tryz.f15 false true false false W args v W' := by
  have hread : ∀ t ∈ Tryz.f15.params.toList, Tryz.prog.readableRec t = true ∧ t < Tryz.prog.types.size := by
    have hall : (Tryz.f15.params.toList.all fun t => Tryz.prog.readableRec t && decide (t < Tryz.prog.types.size)) = true := by kernel_rfl
    intro t ht
    have := List.all_eq_true.1 hall t ht
    simpa using this
  have hclose : ∀ W', Below W.heap.size W W' → (Rows.stateFreshSpec.fn H ds).results = [.lit (.bool true)] ∧ (Rows.stateFreshSpec.fn H ds).args = ds ∧ (Rows.stateFreshSpec.fn H ds).vars = [] → Rows.stateFreshSpec.post enc Tryz.prog Tryz.f15 false true false false W args (.bool true) W' :=
    fun W' hg hs => close_law hW rfl (by kernel_rfl) hs hread hg
  obtain ⟨p, q, hA0, hV, rfl, hfz, hnd⟩ := hW
  have hA : DataW.TrodAll enc Tryz.prog W 0 (fun _ => true) true Tryz.f15.params.toList args.toList ds p := hA0
  obtain ⟨rfl, rfl⟩ := trodVars_none hV
  rw [Tryz.params15] at hA hval
  clear hA0 hread hfz hnd hV
  obtain ⟨v0, vs0, d0, ds0, p0, q0, hargs, rfl, rfl, h0, r0⟩ := trodAll_cons hA
  obtain ⟨rfl, rfl, rfl⟩ := trodAll_nil r0
  obtain rfl : args = #[v0] := by cases args; simp_all
  obtain ⟨l0, b0⟩ := facts_in (hval 0 22 v0 rfl rfl) h0
  refine (fresh_any b0 W (Sees.self W)).mono fun e W' ⟨he, hg⟩ => ?_
  exact ⟨_, he, hclose W' hg ⟨rfl, rfl, rfl⟩⟩

theorem laid_met (os : Os) : laidMet Tryz.prog Rows.stateFreshRow.laid ((laidWorld os).forCall (fun _ _ => 0) ⟨#[], #[.slice none 0 0], []⟩).memory :=
  laidMet_of_run' 8 (by kernel_rfl) (by kernel_rfl)
theorem reads (os : Os) {H : Type} (enc : TypeId × Value → H) : ∃ places, DataW.whole enc Tryz.prog ((laidWorld os).forCall (fun _ _ => 0) ⟨#[], #[.slice none 0 0], []⟩).memory Tryz.f15.params.toList Rows.stateFreshSpec.vars false (#[Value.slice none 0 0] : Array Value).toList 8 = some ([.nil], [], places) :=
  ⟨[], by kernel_rfl⟩

set_option maxRecDepth 100000 in
theorem lifted (os : Os) (started : os.Started) (H : Type) (enc : TypeId × Value → H) (F : Stop.Interp) :
    ReturnsInHanded {} Tryz.checked os 15 .any ((OpenSpec.ofChange Rows.stateFreshSpec).preRow enc Tryz.prog Tryz.f15 Rows.stateFreshRow.domain false Rows.stateFreshRow.laid) (((OpenSpec.ofChange Rows.stateFreshSpec).at F).post enc Tryz.prog Tryz.f15 false true false false) := by
  obtain ⟨places, hx⟩ := reads os enc
  refine returnsInHanded_of_row (C := Tryz.checked) (s := OpenSpec.ofChange Rows.stateFreshSpec) own started (by kernel_rfl) Tryz.func15
    (witness_row_at (enc := enc) (C := Tryz.checked) false (laidWorld os) #[.slice none 0 0] rfl (by kernel_rfl) (by kernel_rfl) (by kernel_rfl)
      (OpenSpec.preRow_of_cond 8 hx (by kernel_rfl) (fun k hk => by cases hk) (by kernel_rfl) (laid_met os))) ?_
  intro W base args ds gs before hval hW _ _ _ _ _ _
  exact contract H enc W base args ds gs before hval hW

theorem j1 : (Rows.stateFreshRow.inPlace == Tryz.prog.inPlace 15) = true := by kernel_rfl
theorem j2 : (Rows.stateFreshRow.unfollowed == Tryz.prog.unfollowed 15) = true := by kernel_rfl
theorem j3 : (Rows.stateFreshRow.recurses == Tryz.prog.recurses 15) = true := by kernel_rfl
theorem j4 : (Rows.stateFreshRow.named == Tryz.prog.varsNamed 15) = true := by kernel_rfl
theorem j5 : joinedRest Tryz.prog Tryz.f15 (OpenSpec.ofChange Rows.stateFreshSpec).bare Rows.stateFreshRow = true := by kernel_rfl
theorem j6 : false = Rows.stateFreshRow.goesBy Tryz.prog := by kernel_rfl
theorem j7 : Rows.stateFreshRow.wfByText (OpenSpec.ofChange Rows.stateFreshSpec) = true := by kernel_rfl
theorem closed : joinedFacts Tryz.prog 15 Tryz.f15 (OpenSpec.ofChange Rows.stateFreshSpec).bare Rows.stateFreshRow = true := joined_of j1 j2 j3 j4 pr_heard pr_enter pr_lifts pr_make j5
theorem named : Tryz.prog.funcNamed Rows.stateFreshRow.func = some 15 := by kernel_rfl

theorem said : Rows.StateFreshSaid :=
  OpenClaim.holds_of_cond 15 Tryz.f15 rfl rfl rfl rfl rfl rfl rfl ⟨rfl, rfl, rfl, rfl, rfl⟩ rfl rfl rfl rfl rfl named Tryz.func15 closed
    (of_decide_eq_true (by kernel_rfl)) (by unfold Func.isWrapper; first | (rw [if_pos (by decide +kernel)]; kernel_rfl) | (rw [if_neg (by decide +kernel)]; exact ⟨rfl, rfl⟩))
    (fun os started H enc _ F => by rw [OpenClaim.pre_eq_preRow]; exact lifted os started H enc F)

theorem plain (f : FuncId) (fn : Func) (hf : Tryz.pinned.checked.prog.funcNamed "copydesk/copydesklaw07.StateFresh" = some f) (hfn : Tryz.pinned.checked.prog.funcs[f]? = some fn) :
    false = Tryz.pinned.checked.prog.looks [] ∧ ∀ (j : Nat) t, fn.params[j]? = some t → Tryz.pinned.checked.prog.wantsStandIn t = false := by
  obtain rfl : f = 15 := Option.some.inj ((show Tryz.prog.funcNamed "copydesk/copydesklaw07.StateFresh" = some 15 by kernel_rfl).symm.trans hf) |>.symm
  obtain rfl : fn = Tryz.f15 := (Option.some.inj (Tryz.func15.symm.trans hfn)).symm
  refine ⟨by kernel_rfl, fun j t ht => ?_⟩
  have hall : Tryz.f15.params.all (fun t => !Tryz.prog.wantsStandIn t) = true := by kernel_rfl
  have := Array.all_eq_true'.1 hall t (Array.mem_of_getElem? ht)
  exact (by simpa using this : Tryz.prog.wantsStandIn t = false)

theorem card : Rows.StateFreshCardSaid :=
  Claim7.holds_tied_plain_at .later [] _ _ _ _ said (fun _ h => by cases h) j7 (fun _ h => by cases h) stateFresh_row_tie rfl ⟨rfl, rfl⟩ (by kernel_rfl) rfl plain j6
end Go.Proofs.YtdkkhmjlamkgdaaGreatDoor.fnSFre

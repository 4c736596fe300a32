/-
  WHAT IS PROVED HERE: a law returns true and leaves its arguments as they were, for all arguments (3 texts joined). Conditions: those of the card.
-/
import Derived.Test.YtdkkhmjlamkgdaaGreatDoorBn6
/-
  WHAT IS PROVED HERE: plain: the rings and chains of quotes of StateCircular. No program, no condition.
-/
namespace Go.Proofs.YtdkkhmjlamkgdaaGreatDoor.Mg

def qB1 (s : Int) : Blk := ⟨1, 3, str0, s, 1, lab0⟩
def sEnd : ByteArray := ⟨#[116, 104, 101, 32, 101, 110, 100]⟩
def endB : Blk := ⟨1, 1, sEnd, 0, 0, lab0⟩
def mkL : List (Int × Blk) → List Fct
  | [] => []
  | p :: r => revFct p.1 sEn sA [p.2] :: pubFct p.1 :: mkL r
theorem mkL_app : ∀ a b : List (Int × Blk), mkL (a ++ b) = mkL a ++ mkL b
  | [], b => rfl
  | p :: a, b => by show _ :: _ :: mkL (a ++ b) = _; rw [mkL_app a b]; rfl
theorem mkL_len : ∀ a : List (Int × Blk), (mkL a).length = 2 * a.length
  | [] => rfl
  | p :: a => by show (mkL a).length + 1 + 1 = 2 * (a.length + 1); rw [mkL_len a]; omega
theorem mkL_rev : ∀ (a : List (Int × Blk)) (i : Nat) (h : i < a.length), (mkL a)[2 * i]? = some (revFct a[i].1 sEn sA [a[i].2])
  | p :: a, 0, _ => rfl
  | p :: a, i + 1, h => by
    show (revFct p.1 sEn sA [p.2] :: pubFct p.1 :: mkL a)[2 * (i + 1)]? = _
    rw [show 2 * (i + 1) = 2 * i + 1 + 1 by omega, List.getElem?_cons_succ, List.getElem?_cons_succ, mkL_rev a i (by simpa using h)]; rfl
theorem mkL_pub : ∀ (a : List (Int × Blk)) (i : Nat) (h : i < a.length), (mkL a)[2 * i + 1]? = some (pubFct a[i].1)
  | p :: a, 0, _ => rfl
  | p :: a, i + 1, h => by
    show (revFct p.1 sEn sA [p.2] :: pubFct p.1 :: mkL a)[2 * (i + 1) + 1]? = _
    rw [show 2 * (i + 1) + 1 = 2 * i + 1 + 1 + 1 by omega, List.getElem?_cons_succ, List.getElem?_cons_succ, mkL_pub a i (by simpa using h)]; rfl
theorem mkL_pairs {ps : List (Int × Blk)} (hn : (ps.map Prod.fst).Nodup) : Pairs sEn sA (mkL ps) ps := by
  refine ⟨mkL_len ps, hn, fun i h h2 => ?_, fun i h h2 => ?_⟩
  · have := mkL_rev ps i h
    rw [List.getElem?_eq_getElem h2] at this
    rw [Option.some.inj this]
    exact ⟨rfl, rfl, rfl, rfl, rfl⟩
  · have := mkL_pub ps i h
    rw [List.getElem?_eq_getElem h2] at this
    rw [Option.some.inj this]
    exact ⟨rfl, rfl⟩
def ringP (n k : Nat) : List (Int × Blk) := (List.range k).map fun j => (((j : Nat) : Int) + 1, qB1 (1 + (((j : Nat) : Int) + 1) % (n : Int)))
def chainP (n k : Nat) : List (Int × Blk) := (List.range k).map fun j => (20 + ((j : Nat) : Int), if j + 1 = n then endB else qB1 (20 + ((j : Nat) : Int) + 1))
theorem ringP_len (n k : Nat) : (ringP n k).length = k := by unfold ringP; rw [List.length_map, List.length_range]
theorem chainP_len (n k : Nat) : (chainP n k).length = k := by unfold chainP; rw [List.length_map, List.length_range]
theorem ringP_snoc (n k : Nat) : ringP n (k + 1) = ringP n k ++ [(((k : Nat) : Int) + 1, qB1 (1 + (((k : Nat) : Int) + 1) % (n : Int)))] := by unfold ringP; rw [List.range_succ, List.map_append]; rfl
theorem chainP_snoc (n k : Nat) : chainP n (k + 1) = chainP n k ++ [(20 + ((k : Nat) : Int), if k + 1 = n then endB else qB1 (20 + ((k : Nat) : Int) + 1))] := by unfold chainP; rw [List.range_succ, List.map_append]; rfl
theorem ringP_get (n k : Nat) (c : List (Int × Blk)) (i : Nat) (hi : i < k) (h : i < (ringP n k ++ c).length) : (ringP n k ++ c)[i] = (((i : Nat) : Int) + 1, qB1 (1 + (((i : Nat) : Int) + 1) % (n : Int))) := by
  rw [List.getElem_append_left (by rw [ringP_len]; exact hi)]
  unfold ringP
  rw [List.getElem_map, List.getElem_range]
theorem chainP_get (n k m c : Nat) (i : Nat) (_hi : i < c) (h : k + i < (ringP n k ++ chainP m c).length) : (ringP n k ++ chainP m c)[k + i] = (20 + ((i : Nat) : Int), if i + 1 = m then endB else qB1 (20 + ((i : Nat) : Int) + 1)) := by
  rw [List.getElem_append_right (by rw [ringP_len]; omega)]
  simp only [ringP_len, Nat.add_sub_cancel_left]
  unfold chainP
  rw [List.getElem_map, List.getElem_range]
theorem both_nodup (n c : Nat) (hn : n ≤ 12) : ((ringP n n ++ chainP c c).map Prod.fst).Nodup := by
  rw [List.map_append, List.nodup_append]
  refine ⟨?_, ?_, ?_⟩
  · unfold ringP
    rw [List.map_map, List.nodup_iff_pairwise_ne, List.pairwise_map]
    refine List.Pairwise.imp ?_ List.nodup_range
    intro a b h e
    have e : ((a : Nat) : Int) + 1 = ((b : Nat) : Int) + 1 := e
    omega
  · unfold chainP
    rw [List.map_map, List.nodup_iff_pairwise_ne, List.pairwise_map]
    refine List.Pairwise.imp ?_ List.nodup_range
    intro a b h e
    have e : 20 + ((a : Nat) : Int) = 20 + ((b : Nat) : Int) := e
    omega
  · intro x hx y hy e
    unfold ringP at hx
    unfold chainP at hy
    rw [List.map_map] at hx hy
    obtain ⟨i, hi, rfl⟩ := List.mem_map.1 hx
    obtain ⟨j, hj, e2⟩ := List.mem_map.1 hy
    have hi := List.mem_range.1 hi
    have e1 : ((i : Nat) : Int) + 1 = y := e
    have e2 : 20 + ((j : Nat) : Int) = y := e2
    omega
theorem circ_key {n c : Nat} (h1 : 1 ≤ n) (h2 : n ≤ 12) (h3 : 1 ≤ c) {s : StF} (hs : FoldIs (mkL (ringP n n ++ chainP c c)) s) (lang : ByteArray) :
    resS s lang { blk0 with kind := 3, story := 1, ref := 1 } = tCircular ∧ resS s lang { blk0 with kind := 3, story := 20, ref := 1 } = if c ≤ 8 then sEnd.data.toList else tCircular := by
  have hp := mkL_pairs (both_nodup n c h2)
  have hl : (ringP n n ++ chainP c c).length = n + c := by rw [List.length_append, ringP_len, chainP_len]
  refine ⟨?_, ?_⟩
  · refine ring_circ hp hs lang n (by omega) (fun i hi h => ?_) 8 0 (by omega) (by omega) _ rfl ?_ ?_
    · have hj : (i + 1) % n < n := Nat.mod_lt _ (by omega)
      rw [ringP_get n n _ i hi h]
      refine ⟨rfl, (i + 1) % n, by omega, hj, ?_, ?_⟩
      · rw [ringP_get n n _ _ hj]
        show 1 + (((i : Nat) : Int) + 1) % (n : Int) = (((i + 1) % n : Nat) : Int) + 1
        have : (((i + 1) % n : Nat) : Int) = (((i : Nat) : Int) + 1) % (n : Int) := by simp
        omega
      · rw [ringP_get n n _ _ hj]; rfl
    · rw [ringP_get n n _ 0 (by omega)]; rfl
    · rw [ringP_get n n _ 0 (by omega)]; rfl
  · have hlast : (ringP n n ++ chainP c c)[(ringP n n ++ chainP c c).length - 1]'(by omega) = (20 + (((c - 1 : Nat) : Nat) : Int), endB) := by
      have := chainP_get n n c c (c - 1) (by omega) (by omega)
      rw [if_pos (by omega)] at this
      rw [← this]
      congr 1
      omega
    have hkey := chain_end hp hs lang n (fun i hi h => ?_) (fun h => ?_) 8 n (Nat.le_refl _) (by omega) { blk0 with kind := 3, story := 20, ref := 1 } rfl ?_ ?_
    · show resGo s lang 8 _ = _
      rw [hkey, hlast, hl, show n + c - n = c by omega]
      rfl
    · obtain ⟨j, rfl⟩ : ∃ j, i = n + j := ⟨i - n, by omega⟩
      have hj : j + 1 < c := by omega
      rw [chainP_get n n c c j (by omega) (by omega)]
      have h2 := chainP_get n n c c (j + 1) hj (by omega)
      have h3 : (ringP n n ++ chainP c c)[n + j + 1]'h = (ringP n n ++ chainP c c)[n + (j + 1)]'(by omega) := rfl
      rw [h3, h2, if_neg (by omega)]
      refine ⟨rfl, by show 20 + ((j : Nat) : Int) + 1 = 20 + ((j + 1 : Nat) : Int); omega, ?_⟩
      show (1 : Int) = (if j + 1 + 1 = c then endB else qB1 (20 + ((j + 1 : Nat) : Int) + 1)).id
      split <;> rfl
    · rw [hlast]
      show (1 : Int) ≠ 3
      omega
    · have := chainP_get n n c c 0 (by omega) (by omega)
      have e : (ringP n n ++ chainP c c)[n]'(by omega) = (ringP n n ++ chainP c c)[n + 0]'(by omega) := rfl
      rw [e, this]; rfl
    · have := chainP_get n n c c 0 (by omega) (by omega)
      have e : (ringP n n ++ chainP c c)[n]'(by omega) = (ringP n n ++ chainP c c)[n + 0]'(by omega) := rfl
      rw [e, this]
      show (1 : Int) = (if 0 + 1 = c then endB else qB1 (20 + ((0 : Nat) : Int) + 1)).id
      split <;> rfl
end Go.Proofs.YtdkkhmjlamkgdaaGreatDoor.Mg
/-
  WHAT IS PROVED HERE: the walk of StateCircular. No condition but that the numbers are ints.
-/
namespace Go.Proofs.YtdkkhmjlamkgdaaGreatDoor
open Go.RowKit Mg Go.Shelf Go.Maps

def cirE (i : Int) (b : Blk) (g : Nat) : FctE := ⟨revFct i sEn sA [b], none, 0, some ⟨g, 0, none⟩, 1, none, 0⟩
theorem built_qb (s : Int) : Tryz.prog.built 58 [(0, .int .i64 1), (1, .int .i64 3), (3, .int .i64 s), (4, .int .i64 1)] = some (blkCells (qB1 s) nilS) := by kernel_rfl
theorem built_eb : Tryz.prog.built 58 [(0, .int .i64 1), (1, .int .i64 1), (2, .string ⟨#[116, 104, 101, 32, 101, 110, 100]⟩)] = some (blkCells endB nilS) := by kernel_rfl
theorem built_qr (s : Int) : Tryz.prog.built 58 [(1, .int .i64 3), (3, .int .i64 s), (4, .int .i64 1)] = some (blkCells { blk0 with kind := 3, story := s, ref := 1 } nilS) := by kernel_rfl
theorem built_cir (i : Int) (b : Blk) (g : Nat) : Tryz.prog.built 50 [(2, .int .i64 1), (3, .int .i64 i), (4, .string ⟨#[101, 110]⟩), (5, .int .i64 1), (7, .string ⟨#[97]⟩), (10, .slice (some ⟨g, 0, none⟩) 1 1)] = some (cirE i b g).cells := by kernel_rfl
/-- a block that a quote's list may hold -/
structure Plain1 (b : Blk) : Prop where
  t : b.text.size ≤ maxLen
  k : okI b.kind
  i : okI b.id
  a : b.lab.after = []
theorem plain_qb (s : Int) : Plain1 (qB1 s) := ⟨ml_d rfl, okI_d rfl, okI_d rfl, rfl⟩
theorem plain_eb : Plain1 endB := ⟨ml_d rfl, okI_d rfl, okI_d rfl, rfl⟩
theorem cir_fok {i : Int} {b : Blk} (hi : okI i) (hb : Plain1 b) : FOK (revFct i sEn sA [b]) := by
  refine ⟨okI_d rfl, okI_d rfl, okI_d rfl, hi, ml_d rfl, okI_d rfl, okI_d rfl, ml_d rfl, ml_d rfl, okI_d rfl, okI_d rfl, okI_d rfl, okI_d rfl, okI_d rfl, okI_d rfl, ml_d rfl, ml_d rfl, okI_d rfl, okI_d rfl, okI_d rfl, ?_⟩
  intro x hx
  rw [List.mem_singleton.1 hx]
  exact ⟨hb.t, hb.k, hb.i⟩
theorem cir_ok {W : World} {F : Nat → Prop} {g : Nat} {i : Int} {b : Blk} (h : W.heap[g]? = some (.cells (blkCells b nilS) 58 (0, 0))) (hF : ¬ F g) (hi : okI i) (hb : Plain1 b) : (cirE i b g).ok (memFr W F) := by
  refine ⟨cir_fok hi hb, StrsM.nil _, ⟨g, 0, ⟨ml_d rfl, _, 1, rfl, Nat.le_refl _, ml_d rfl, fun _ => rfl⟩, fun j hj => ?_⟩, IntsM.nil _⟩
  obtain rfl : j = 0 := by
    have : j < 1 := hj
    omega
  exact blk_at (x := b) (ao := none) (cap := 0) h hF (fun j _ => by simp only [Nat.zero_mul, Nat.zero_add]; rw [hb.a]; rfl) ⟨hb.t, hb.k, hb.i⟩ (by rw [hb.a]; exact IntsM.nil _)
theorem mkL_good : ∀ {ps : List (Int × Blk)}, (∀ p ∈ ps, p.2.text.size ≤ 1000 ∧ p.2.lab.after.length ≤ 1000) → ∀ f ∈ mkL ps, FGood f
  | [], _, f, hf => by cases hf
  | p :: r, h, f, hf => by
    rcases List.mem_cons.1 hf with rfl | hf
    · exact rev_good _ _ _ ⟨by show 1 ≤ 100; omega, fun x hx => by rw [List.mem_singleton.1 hx]; exact h p List.mem_cons_self⟩
    rcases List.mem_cons.1 hf with rfl | hf
    · exact ⟨GB.nil, Nat.zero_le _, Nat.zero_le _⟩
    · exact mkL_good (fun q hq => h q (List.mem_cons_of_mem _ hq)) f hf
theorem len_two (es : List FctE) (x y : FctE) : (es ++ [x, y]).length = es.length + 2 := by simp
/-- what holds while the law's list grows -/
structure CirI (w0 : World) (ps : List (Int × Blk)) (v : Value) (wr : World) : Prop where
  bel : Below w0.heap.size w0 wr
  row : ∃ es, ExIn wr w0.heap.size v es ∧ es.map FctE.f = mkL ps
theorem CirI.len {ps : List (Int × Blk)} {es : List FctE} (h : es.map FctE.f = mkL ps) : es.length = 2 * ps.length := by
  have := congrArg List.length h
  rwa [List.length_map, mkL_len] at this
theorem CirI.snoc {w0 wr w3 : World} {ps : List (Int × Blk)} {v v' : Value} {es : List FctE} {i : Int} {b : Blk} (hbel : Below w0.heap.size w0 wr) (hx : ExIn wr w0.heap.size v es) (hm : es.map FctE.f = mkL ps)
    {W1 : World} (hb1 : Below wr.heap.size wr W1) {g : Nat} (hg1 : wr.heap.size ≤ g) (hblk : W1.heap[g]? = some (.cells (blkCells b nilS) 58 (0, 0)))
    (hr : FRow w3 w0.heap.size v' (es ++ [cirE i b g, pubE i])) (hg : W1.grownBy w3 v.ownBlock) (ho : v'.ownBlock = v.ownBlock ∨ v'.ownBlock = some W1.heap.size) (hi : okI i) (hb : Plain1 b) : CirI w0 (ps ++ [(i, b)]) v' w3 := by
  have hvl : ∀ j, v.ownBlock = some j → j < wr.heap.size := fun j hj => (hx.row.ge j hj).2
  have hgl := hlt hblk
  have hsz := hb1.size
  have h0 := hbel.size
  refine ⟨(hbel.trans (hb1.mono hbel.size)).grown hg (Nat.le_trans hbel.size hb1.size) (fun j hj => (hx.row.ge j hj).1), es ++ [cirE i b g, pubE i], ⟨hr, fun x hx' => ?_⟩, by rw [List.map_append, hm, mkL_app]; rfl⟩
  have hup : ∀ a u, memFr W1 (fun k => k < w0.heap.size ∨ v.ownBlock = some k) a = some u → memFr w3 (fun k => k < w0.heap.size ∨ v'.ownBlock = some k) a = some u := fun a u e => by
    obtain ⟨q1, q2, q3⟩ := memFr_lt a u e
    have q4 := memFr_sees W1 _ a u e
    have hne : some a.block ≠ v.ownBlock := fun q => q2 (.inr q.symm)
    refine memFr_of ((World.cell?_of_block (hg.block a.block q1 hne)).trans q4) ?_ (fun q => ?_)
    · rw [World.frozen?_of_block (hg.block a.block q1 hne)]; exact q3
    · rcases q with q | q
      · exact q2 (.inl q)
      · rcases ho with e2 | e2
        · exact q2 (.inr (e2 ▸ q))
        · rw [e2] at q
          have := Option.some.inj q
          omega
  rcases List.mem_append.1 hx' with hx2 | hx2
  · exact ((hx.ok x hx2).mono (memFr_below hb1)).mono hup
  · rcases List.mem_cons.1 hx2 with rfl | hx2
    · refine (cir_ok hblk (fun q => ?_) hi hb).mono hup
      rcases q with q | q
      · omega
      · have := hvl g q
        omega
    · rw [List.mem_singleton.1 hx2]
      exact plain_ok (pub_fok hi) rfl rfl rfl
set_option maxRecDepth 100000 in
set_option maxHeartbeats 4000000 in
theorem circular_any (ring : Int) (hr : okI ring) (chain : Int) (hc : okI chain) (w : World) (_hs : Sees (fun p => w.cell? p) w) :
    Calls Tryz.prog 7 #[.int .i64 ring, .int .i64 chain] w fun e w' => e = .returned (.bool true) ∧ Below w.heap.size w w' := by
  have c0 := Lib.hid (sane_any w)
  obtain ⟨p0, p1⟩ := pickF_lt (c := ring) (n := 12) (by omega)
  obtain ⟨p2, p3⟩ := pickF_lt (c := chain) (n := 12) (by omega)
  have c1 := Lib.hid (fun W => pick_any ring 12 hr (by omega) (by omega) W)
  have c2 := Lib.hid (fun W => pick_any chain 12 hc (by omega) (by omega) W)
  obtain ⟨n, hn⟩ : ∃ n : Nat, pickF ring 12 + 1 = (n : Int) := ⟨(pickF ring 12 + 1).toNat, by omega⟩
  obtain ⟨c, hcc⟩ : ∃ c : Nat, pickF chain 12 + 1 = (c : Int) := ⟨(pickF chain 12 + 1).toNat, by omega⟩
  have hn1 : 1 ≤ n := by omega
  have hn2 : n ≤ 12 := by omega
  have hc1 : 1 ≤ c := by omega
  have hc2 : c ≤ 12 := by omega
  rw [show pickF ring 12 = (n : Int) - 1 by omega] at c1
  rw [show pickF chain 12 = (c : Int) - 1 by omega] at c2
  clear hn hcc p0 p1 p2 p3
  go_enter Tryz.func7, Tryz.ntmps7
  go_wp2_with fail
  refine c0.out.mono ?_
  rintro e w0 ⟨rfl, hb0⟩
  have HB0 := Lib.hid hb0
  clear hb0 c0
  go_wp2_with fail
  refine (c1.out _).mono ?_
  rintro e w1 ⟨rfl, rfl⟩
  go_wp2_with fail
  refine (c2.out _).mono ?_
  rintro e w1 ⟨rfl, rfl⟩
  clear c1 c2
  have en : 1 + ((n : Int) - 1) = (n : Int) := by omega
  have ec : 1 + ((c : Int) - 1) = (c : Int) := by omega
  have HI0 : Hid (CirI w0 (ringP n 0) (.slice none 0 0) w0) := Lib.hid ⟨Below.refl _ _, [], ⟨FRow.nil _ _, by intro x hx; cases hx⟩, rfl⟩
  go_upto_region 4 with fail
  clear en ec
  go_wp2_with fail
  go_loopw [7, 6] (fun i v wr => ∃ k : Nat, k ≤ n ∧ i = .int .i64 ((k : Int) + 1) ∧ (∃ a l q, v = .slice a l q) ∧ Hid (CirI w0 (ringP n k) v wr)) (fun i _ _ => n + 1 - (intOf i).toNat)
  case atStart => exact ⟨0, Nat.zero_le _, rfl, ⟨_, _, _, rfl⟩, HI0⟩
  case round =>
    obtain ⟨k, hk, rfl, ⟨va, vl, vc, rfl⟩, HI⟩ := hrel
    by_cases hlt : k < n
    · have hle : ((k : Int) + 1) ≤ (n : Int) := by omega
      have hpos : (0 : Int) ≤ (k : Int) + 1 := by omega
      have hn0 : (n : Int) ≠ 0 := by omega
      have hmod : (((k : Int) + 1).tmod (n : Int)) = ((k : Int) + 1) % (n : Int) := Int.tmod_eq_emod_of_nonneg hpos
      obtain ⟨hm0, hm1⟩ : 0 ≤ ((k : Int) + 1) % (n : Int) ∧ ((k : Int) + 1) % (n : Int) < (n : Int) := ⟨Int.emod_nonneg _ (by omega), Int.emod_lt_of_pos _ (by omega)⟩
      have HSN : Hid (ringP n (k + 1) = ringP n k ++ [((k : Int) + 1, qB1 (1 + ((k : Int) + 1) % (n : Int)))]) := Lib.hid (ringP_snoc n k)
      obtain ⟨r, hr1⟩ : ∃ r, r = ((k : Int) + 1) % (n : Int) := ⟨_, rfl⟩
      rw [← hr1] at HSN hmod hm0 hm1
      have hr0 : ((k : Int) + 1) % (n : Int) = r := hr1.symm
      clear hr1 hmod
      obtain ⟨es, hex, hem⟩ := HI.out.row
      have hesb : es.length ≤ 100 := by
        have := CirI.len hem
        rw [ringP_len] at this
        omega
      have HEX := Lib.hid hex
      have HEM := Lib.hid hem
      have HROW : Hid (∀ W, Below wr.heap.size wr W → FRow W w0.heap.size (.slice va vl vc) es) := Lib.hid (fun W hW => hex.row.same (fun j hj => hW.block j (hex.row.ge j hj).2))
      have hvl : vl = es.length := by
        obtain ⟨_, _, e⟩ := hex.row.shape
        injection e
      have h0r := HI.out.bel.size
      clear hex hem
      subst hvl
      have HOI : Hid (okI ((k : Int) + 1)) := Lib.hid ⟨by omega, by omega⟩
      have HPB : Hid (Plain1 (qB1 (1 + r))) := Lib.hid (plain_qb _)
      have HPR : Hid (∀ W : World, W.heap[wr.heap.size]? = some (.cells (blkCells (qB1 (1 + r)) nilS) 58 (0, 0)) → W.heap[wr.heap.size + 1]? = some (.cells ((cirE ((k : Int) + 1) (qB1 (1 + r)) wr.heap.size).cells ++ (pubE ((k : Int) + 1)).cells) 50 (0, 0)) → EsM (fun p => W.cell? p) (.slice (some ⟨wr.heap.size + 1, 0, none⟩) 2 2) [cirE ((k : Int) + 1) (qB1 (1 + r)) wr.heap.size, pubE ((k : Int) + 1)]) := Lib.hid (fun W h1 h2 =>
        (frow_lit2 (B := 0) (Nat.zero_le _) h2 (two_rows _ _) (by show 2 ≤ 1000; omega)).es (fun x hx => by
          rcases List.mem_cons.1 hx with rfl | hx
          · exact (cir_ok (F := fun _ => False) h1 (fun q => q) HOI.out HPB.out).mono (memFr_sees _ _)
          · rw [List.mem_singleton.1 hx]
            exact plain_ok (pub_fok HOI.out) rfl rfl rfl))
      go_wp2_with (first
        | ((with_reducible refine at_sbuild 58 _ rfl ?_); go_must (refine wpList_buildTo rfl 58 _ rfl _ rfl _ (by simp [Act.eval]; with_reducible exact built_qb _) ?_))
        | ((with_reducible refine at_sslice 37 _ _ rfl ?_); go_must (refine wpList_one_slice rfl E_blk _ rfl (.agg (blkCells (qB1 (1 + r)) nilS)) rfl (by simp [Act.eval, Act.put]) ?_))
        | ((with_reducible refine at_sbuild 50 _ rfl ?_); go_must (refine wpList_buildTo rfl 50 _ rfl _ rfl _ (by simp [Act.eval, Act.put]; with_reducible first | exact built_cir _ (qB1 (1 + r)) _ | exact built_pub _) ?_))
        | ((with_reducible refine at_sslice 22 _ _ rfl ?_); go_must (refine wpList_n_slice rfl E_fct 2 (by decide) (by decide) _ rfl [(0, .agg (cirE ((k : Int) + 1) (qB1 (1 + r)) wr.heap.size).cells), (1, .agg (pubE ((k : Int) + 1)).cells)] (by simp [Act.eval, Act.put]) _ (fill_f2 _ _) ?_))
        | ((with_reducible refine at_sappend _ _ 22 rfl ?_); go_must (refine wpList_app_facts rfl _ _ rfl w0.heap.size _ es (by simp [Act.eval, Act.put]) (HROW.out _ ((bel1 wr _).alloc (by simp) _)) (some ⟨wr.heap.size + 1, 0, none⟩) 2 [cirE ((k : Int) + 1) (qB1 (1 + r)) wr.heap.size, pubE ((k : Int) + 1)] (by simp [Act.eval, Act.put]) (HPR.out _ (heap_new1 _ _ _) (heap_new2 _ _ _)) (by show es.length + 2 ≤ 100000; omega) (by simp; omega) ?_); go_must (intro v9 w9 hr9 hg9 ho9; have HI9 := Lib.hid (CirI.snoc HI.out.bel HEX.out HEM.out ((bel1 wr _).alloc (by simp) _) (Nat.le_refl _) (heap_new1 _ _ _) hr9 hg9 ho9 HOI.out HPB.out); obtain ⟨a9, c9, hv9⟩ := hr9.shape; subst hv9; rw [len_two] at HI9; clear hr9 hg9 ho9)))
      go_roundw
      case rel => exact ⟨k + 1, by omega, by go_num, ⟨_, _, _, rfl⟩, by rw [HSN.out]; exact HI9⟩
      case measure => (try simp only [intOf]); omega
    · have e' : k = n := by omega
      subst e'
      have hxx : ¬ ((k : Int) + 1 ≤ (k : Int)) := by omega
      have HI1 : Hid (CirI w0 (ringP k k ++ chainP c 0) (.slice va vl vc) wr) := Lib.hid (by
        rw [show chainP c 0 = [] from rfl, List.append_nil]; exact HI.out)
      generalize hnn : k = n at *
      clear hnn
      go_upto_region 9 with fail
      clear hxx
      go_wp2_with fail
      go_loopw [8, 6] (fun i v wr => ∃ k : Nat, k ≤ c ∧ i = .int .i64 (20 + (k : Int)) ∧ (∃ a l q, v = .slice a l q) ∧ Hid (CirI w0 (ringP n n ++ chainP c k) v wr)) (fun i _ _ => 20 + c - (intOf i).toNat)
      case atStart => exact ⟨0, Nat.zero_le _, rfl, ⟨_, _, _, rfl⟩, HI1⟩
      case round =>
        obtain ⟨k, hk, rfl, ⟨va, vl, vc, rfl⟩, HI⟩ := hrel
        by_cases hlt : k < c
        · have hlt2 : 20 + (k : Int) < 20 + (c : Int) := by omega
          have HSN : Hid (ringP n n ++ chainP c (k + 1) = (ringP n n ++ chainP c k) ++ [(20 + (k : Int), if k + 1 = c then endB else qB1 (20 + (k : Int) + 1))]) := Lib.hid (by rw [chainP_snoc, List.append_assoc])
          obtain ⟨es, hex, hem⟩ := HI.out.row
          have hesb : es.length ≤ 100 := by
            have := CirI.len hem
            rw [List.length_append, ringP_len, chainP_len] at this
            omega
          have HEX := Lib.hid hex
          have HEM := Lib.hid hem
          have HROW : Hid (∀ W, Below wr.heap.size wr W → FRow W w0.heap.size (.slice va vl vc) es) := Lib.hid (fun W hW => hex.row.same (fun j hj => hW.block j (hex.row.ge j hj).2))
          have hvl : vl = es.length := by
            obtain ⟨_, _, e⟩ := hex.row.shape
            injection e
          have h0r := HI.out.bel.size
          clear hex hem
          subst hvl
          have HOI : Hid (okI (20 + (k : Int))) := Lib.hid ⟨by omega, by omega⟩
          go_upto_region 13 with (first
            | ((with_reducible refine at_sbuild 58 _ rfl ?_); go_must (refine wpList_buildTo rfl 58 _ rfl _ rfl _ (by simp [Act.eval]; with_reducible exact built_qb _) ?_))
            | ((with_reducible refine at_sstore 58 _ _ rfl ?_); go_must (refine wpList_snew rfl S_blk _ _ rfl rfl _ _ (blkCells (qB1 (20 + (k : Int) + 1)) nilS) (by simp [Act.eval]) (by simp [Act.eval]) rfl rfl (by simp [Value.oneCell']) ?_)))
          by_cases hkc : k + 1 = c
          case' pos =>
            rw [if_pos hkc] at HSN
            have hkc2 : 20 + (k : Int) = 20 + (c : Int) - 1 := by omega
            go_upto_region 15 with (first
              | ((with_reducible refine at_sbuild 58 _ rfl ?_); go_must (refine wpList_buildTo rfl 58 _ rfl _ rfl _ (by simp [Act.eval]; with_reducible exact built_eb) ?_))
              | ((with_reducible refine at_sstore 58 _ _ rfl ?_); go_must (refine wpList_snew rfl S_blk _ _ rfl rfl _ _ (blkCells endB nilS) (by simp [Act.eval, Act.put]) (by simp [Act.eval, Act.put]) rfl rfl (by simp [Value.oneCell']) ?_)))
            clear hkc2
            have HPB : Hid (Plain1 endB) := Lib.hid plain_eb
            generalize endB = B at *
          case' neg =>
            rw [if_neg hkc] at HSN
            have hkc2 : ¬ (20 + (k : Int) = 20 + (c : Int) - 1) := by omega
            go_upto_region 15 with fail
            clear hkc2
            have HPB : Hid (Plain1 (qB1 (20 + (k : Int) + 1))) := Lib.hid (plain_qb _)
            generalize qB1 (20 + (k : Int) + 1) = B at *
          all_goals
            clear hkc
            obtain ⟨W1, hW1⟩ : ∃ W1, W1 = wr.alloc (.cells (blkCells B nilS) 58) := ⟨_, rfl⟩
            rw [← hW1]
            have HB1 : Hid (Below wr.heap.size wr W1) := Lib.hid (by rw [hW1]; exact bel1 _ _)
            have HN1 : Hid (W1.heap[wr.heap.size]? = some (.cells (blkCells B nilS) 58 (0, 0))) := Lib.hid (by rw [hW1]; exact World.alloc_heap_new _ _)
            have h1r := HB1.out.size
            clear hW1
            have HPR : Hid (∀ W : World, W.heap[W1.heap.size]? = some (.cells (blkCells B nilS) 58 (0, 0)) → W.heap[W1.heap.size + 1]? = some (.cells ((cirE (20 + (k : Int)) B W1.heap.size).cells ++ (pubE (20 + (k : Int))).cells) 50 (0, 0)) → EsM (fun p => W.cell? p) (.slice (some ⟨W1.heap.size + 1, 0, none⟩) 2 2) [cirE (20 + (k : Int)) B W1.heap.size, pubE (20 + (k : Int))]) := Lib.hid (fun W h1 h2 =>
              (frow_lit2 (B := 0) (Nat.zero_le _) h2 (two_rows _ _) (by show 2 ≤ 1000; omega)).es (fun x hx => by
                rcases List.mem_cons.1 hx with rfl | hx
                · exact (cir_ok (F := fun _ => False) h1 (fun q => q) HOI.out HPB.out).mono (memFr_sees _ _)
                · rw [List.mem_singleton.1 hx]
                  exact plain_ok (pub_fok HOI.out) rfl rfl rfl))
            go_wp2_with (first
              | ((with_reducible refine at_sload 58 _ rfl ?_); go_must (refine wpList_sload rfl S_blk _ rfl (by simp [Act.eval]) (blkCells B nilS) rfl HN1.out ?_))
              | ((with_reducible refine at_sslice 37 _ _ rfl ?_); go_must (refine wpList_one_slice rfl E_blk _ rfl (.agg (blkCells B nilS)) rfl (by simp [Act.eval, Act.put]) ?_))
              | ((with_reducible refine at_sbuild 50 _ rfl ?_); go_must (refine wpList_buildTo rfl 50 _ rfl _ rfl _ (by simp [Act.eval, Act.put]; with_reducible first | exact built_cir _ B _ | exact built_pub _) ?_))
              | ((with_reducible refine at_sslice 22 _ _ rfl ?_); go_must (refine wpList_n_slice rfl E_fct 2 (by decide) (by decide) _ rfl [(0, .agg (cirE (20 + (k : Int)) B W1.heap.size).cells), (1, .agg (pubE (20 + (k : Int))).cells)] (by simp [Act.eval, Act.put]) _ (fill_f2 _ _) ?_))
              | ((with_reducible refine at_sappend _ _ 22 rfl ?_); go_must (refine wpList_app_facts rfl _ _ rfl w0.heap.size _ es (by simp [Act.eval, Act.put]) (HROW.out _ (HB1.out.trans (((bel1 W1 _).alloc (by simp) _).mono HB1.out.size))) (some ⟨W1.heap.size + 1, 0, none⟩) 2 [cirE (20 + (k : Int)) B W1.heap.size, pubE (20 + (k : Int))] (by simp [Act.eval, Act.put]) (HPR.out _ (heap_new1 _ _ _) (heap_new2 _ _ _)) (by show es.length + 2 ≤ 100000; omega) (by simp; omega) ?_); go_must (intro v9 w9 hr9 hg9 ho9; have HI9 := Lib.hid (CirI.snoc HI.out.bel HEX.out HEM.out (HB1.out.trans (((bel1 W1 _).alloc (by simp) _).mono HB1.out.size)) (HB1.out.size) (heap_new1 _ _ _) hr9 hg9 ho9 HOI.out HPB.out); obtain ⟨a9, c9, hv9⟩ := hr9.shape; subst hv9; rw [len_two] at HI9; clear hr9 hg9 ho9)))
            go_roundw
            case rel => exact ⟨k + 1, by omega, by go_num, ⟨_, _, _, rfl⟩, by rw [HSN.out]; exact HI9⟩
            case measure => (try simp only [intOf]); omega
        · have e' : k = c := by omega
          subst e'
          have hxx : ¬ (20 + (k : Int) < 20 + (k : Int)) := by omega
          obtain ⟨es, hex, hem⟩ := HI.out.row
          have hesb : es.length ≤ 100 := by
            have := CirI.len hem
            rw [List.length_append, ringP_len, chainP_len] at this
            omega
          have hvl : vl = es.length := by
            obtain ⟨_, _, e⟩ := hex.row.shape
            injection e
          subst hvl
          have HEM := Lib.hid hem
          have cF := Lib.hid (Fold_law (hex.row.es hex.see) (by omega) (fun x hx _ => mkL_good (ps := ringP n n ++ chainP k k) (fun p hp => by
            rcases List.mem_append.1 hp with hp | hp
            · obtain ⟨j, _, rfl⟩ := List.mem_map.1 hp
              exact ⟨Nat.zero_le _, Nat.zero_le _⟩
            · obtain ⟨j, _, rfl⟩ := List.mem_map.1 hp
              dsimp only
              split
              · exact ⟨by show 7 ≤ 1000; omega, Nat.zero_le _⟩
              · exact ⟨Nat.zero_le _, Nat.zero_le _⟩) _ (by rw [← hem]; exact List.mem_map_of_mem hx)) wr (Sees.self wr) (cells_lt wr))
          clear hex hem
          go_wp2_with fail
          refine cF.out.mono ?_
          rintro e w2 ⟨a, c', b, d, s, rfl, hF⟩
          have HF := Lib.hid hF
          have HB2 : Hid (Below w0.heap.size w0 w2) := Lib.hid (HI.out.bel.trans (hF.bel.mono HI.out.bel.size))
          have hln : s.stories.length < 100 := by
            have h1 := hF.len
            rw [HEM.out, mkL_len, List.length_append, ringP_len, chainP_len] at h1
            omega
          obtain ⟨k1, k2⟩ := circ_key hn1 hn2 hc1 (by rw [← HEM.out]; exact hF.is) ⟨#[101, 110]⟩
          have HK1 : Hid (bs (resS s ⟨#[101, 110]⟩ { blk0 with kind := 3, story := 1, ref := 1 }) = ⟨#[91, 99, 105, 114, 99, 117, 108, 97, 114, 93]⟩) := Lib.hid (by rw [k1]; rfl)
          have HK2 : Hid (bs (resS s ⟨#[101, 110]⟩ { blk0 with kind := 3, story := 20, ref := 1 }) = if k ≤ 8 then ⟨#[116, 104, 101, 32, 101, 110, 100]⟩ else ⟨#[91, 99, 105, 114, 99, 117, 108, 97, 114, 93]⟩) := Lib.hid (by
            rw [k2]
            split <;> rfl)
          clear hF cF k1 k2 hxx
          go_upto_region 17 with ((with_reducible refine at_sstore 27 _ _ rfl ?_); go_must (refine wpList_snew rfl S_state _ _ rfl rfl _ _ #[.slice a s.stories.length c', .slice b s.tpls.length d] (by simp [Act.eval]) (by simp [Act.eval]) rfl rfl (by simp [Value.oneCell']) ?_))
          obtain ⟨W3, hW3⟩ : ∃ W3, W3 = w2.alloc (.cells #[.slice a s.stories.length c', .slice b s.tpls.length d] 27) := ⟨_, rfl⟩
          rw [← hW3]
          have hb3 : Below w2.heap.size w2 W3 := by rw [hW3]; exact bel1 _ _
          have HN3 : Hid (W3.heap[w2.heap.size]? = some (.cells #[.slice a s.stories.length c', .slice b s.tpls.length d] 27 (0, 0))) := Lib.hid (by rw [hW3]; exact World.alloc_heap_new _ _)
          have HS3 : Hid (Sees (memFr w2 (fun k => k < wr.heap.size + 1)) W3) := Lib.hid ((memFr_sees w2 _).bel hb3)
          have HB3 : Hid (Below w0.heap.size w0 W3) := Lib.hid (HB2.out.trans (hb3.mono HB2.out.size))
          clear hW3 hb3
          have cR := Lib.hid (Resolve_any HF.out.st hln ⟨#[101, 110]⟩ (b := { blk0 with kind := 3, story := 1, ref := 1 }) (bu := .agg (blkCells { blk0 with kind := 3, story := 1, ref := 1 } nilS)) ⟨none, 0, rfl, IntsM.nil _, ml_d rfl, okI_d rfl, okI_d rfl⟩ W3 HS3.out)
          rw [HK1.out] at cR
          by_cases hk8 : k ≤ 8
          case' pos =>
            rw [if_pos hk8] at HK2
            have hk9 : ¬ ((8 : Int) < (k : Int)) := by omega
            go_upto_region 20 with fail
            clear hk9
            generalize ({ data := #[116, 104, 101, 32, 101, 110, 100] } : ByteArray) = Tw at *
          case' neg =>
            rw [if_neg hk8] at HK2
            have hk9 : (8 : Int) < (k : Int) := by omega
            go_upto_region 20 with fail
            clear hk9
          all_goals
            go_wp2_with (first
              | ((with_reducible refine at_sload 27 _ rfl ?_); go_must (refine wpList_val (by rfl) _ (exec_smid S_state _ rfl (by simp [Act.eval]) #[.slice a s.stories.length c', .slice b s.tpls.length d] rfl (whole_cells HN3.out)) ?_))
              | ((with_reducible refine at_sbuild 58 _ rfl ?_); go_must (refine wpList_val (by rfl) _ (exec_sbuild2 58 _ rfl _ (by simp [Act.eval, Act.put]; with_reducible exact built_qr 1)) ?_)))
            refine cR.out.mono ?_
            rintro e W4 ⟨rfl, hb4⟩
            have HN4 := Lib.hid ((hb4.block _ (Go.Proofs.YtdkkhmjlamkgdaaGreatDoor.hlt HN3.out)).trans HN3.out)
            have HS4 := Lib.hid (HS3.out.bel hb4)
            have HB4 : Hid (Below w0.heap.size w0 W4) := Lib.hid (HB3.out.trans (hb4.mono HB3.out.size))
            clear hb4 cR
            have cR := Lib.hid (Resolve_any HF.out.st hln ⟨#[101, 110]⟩ (b := { blk0 with kind := 3, story := 20, ref := 1 }) (bu := .agg (blkCells { blk0 with kind := 3, story := 20, ref := 1 } nilS)) ⟨none, 0, rfl, IntsM.nil _, ml_d rfl, okI_d rfl, okI_d rfl⟩ W4 HS4.out)
            rw [HK2.out] at cR
            go_wp2_with (first
              | ((with_reducible refine at_sload 27 _ rfl ?_); go_must (refine wpList_val (by rfl) _ (exec_smid S_state _ rfl (by simp [Act.eval]) #[.slice a s.stories.length c', .slice b s.tpls.length d] rfl (whole_cells HN4.out)) ?_))
              | ((with_reducible refine at_sbuild 58 _ rfl ?_); go_must (refine wpList_val (by rfl) _ (exec_sbuild2 58 _ rfl _ (by simp [Act.eval, Act.put]; with_reducible exact built_qr 20)) ?_)))
            refine cR.out.mono ?_
            rintro e W5 ⟨rfl, hb5⟩
            have HFN : Hid (Below w.heap.size w W5) := Lib.hid (HB0.out.trans ((HB4.out.trans (hb5.mono HB4.out.size)).mono HB0.out.size))
            clear hb5 cR
            go_wp2_with fail
            go_ret
            exact ⟨rfl, HFN.out⟩
end Go.Proofs.YtdkkhmjlamkgdaaGreatDoor
/-
  WHAT IS PROVED HERE: StateCircular returns true and leaves its arguments as they were, for all arguments. Conditions: those of the card (the listed tables of Go's library lie as their text lays them).
-/
namespace Go.Proofs.YtdkkhmjlamkgdaaGreatDoor.fnSCir
open Go.ChangeShapes Go.WideShapes Go.ChangeAt Go.RowKit Go.ChangeMaps Mg

set_option maxRecDepth 100000 in
theorem contract (H : Type) (enc : TypeId × Value → H) (W : World) (base : Nat) (args : Array Value) (ds gs : List (DataW H)) (before : List MemPlace)
    (hval : ∀ (j : Nat) t v, Tryz.f7.params[j]? = some t → args[j]? = some v → Value.okWide Tryz.prog W .any base t v)
    (hW : DataW.Whole enc Tryz.prog Tryz.f7.params.toList Rows.stateCircularSpec.vars false W args.toList ds gs before) :
    Calls Tryz.prog 7 args W fun e W' => ∃ v, e = .returned v ∧ Rows.stateCircularSpec.post enc Tryz.prog Tryz.f7 false true false false W args v W' := by
  have hread : ∀ t ∈ Tryz.f7.params.toList, Tryz.prog.readableRec t = true ∧ t < Tryz.prog.types.size := by
    have hall : (Tryz.f7.params.toList.all fun t => Tryz.prog.readableRec t && decide (t < Tryz.prog.types.size)) = true := by kernel_rfl
    intro t ht
    have := List.all_eq_true.1 hall t ht
    simpa using this
  have hclose : ∀ W', Below W.heap.size W W' → (Rows.stateCircularSpec.fn H ds).results = [.lit (.bool true)] ∧ (Rows.stateCircularSpec.fn H ds).args = ds ∧ (Rows.stateCircularSpec.fn H ds).vars = [] → Rows.stateCircularSpec.post enc Tryz.prog Tryz.f7 false true false false W args (.bool true) W' :=
    fun W' hg hs => close_law hW rfl (by kernel_rfl) hs hread hg
  obtain ⟨p, q, hA0, hV, rfl, hfz, hnd⟩ := hW
  have hA : DataW.TrodAll enc Tryz.prog W 0 (fun _ => true) true Tryz.f7.params.toList args.toList ds p := hA0
  obtain ⟨rfl, rfl⟩ := trodVars_none hV
  rw [Tryz.params7] at hA hval
  clear hA0 hread hfz hnd hV
  obtain ⟨v0, vs0, d0, ds0, p0, q0, hargs, rfl, rfl, h0, r0⟩ := trodAll_cons hA
  obtain ⟨v1, vs1, d1, ds1, p1, q1, rfl, rfl, rfl, h1, r1⟩ := trodAll_cons r0
  obtain ⟨rfl, rfl, rfl⟩ := trodAll_nil r1
  obtain rfl : args = #[v0, v1] := by cases args; simp_all
  obtain ⟨x0, rfl, k0⟩ := int_in (hval 0 3 v0 rfl rfl) h0
  obtain ⟨x1, rfl, k1⟩ := int_in (hval 1 3 v1 rfl rfl) h1
  refine (circular_any x0 k0 x1 k1 W (Sees.self W)).mono fun e W' ⟨he, hg⟩ => ?_
  exact ⟨_, he, hclose W' hg ⟨rfl, rfl, rfl⟩⟩

theorem laid_met (os : Os) : laidMet Tryz.prog Rows.stateCircularRow.laid ((laidWorld os).forCall (fun _ _ => 0) ⟨#[], #[.int .i64 0, .int .i64 0], []⟩).memory :=
  laidMet_of_run' 8 (by kernel_rfl) (by kernel_rfl)
theorem reads (os : Os) {H : Type} (enc : TypeId × Value → H) : ∃ places, DataW.whole enc Tryz.prog ((laidWorld os).forCall (fun _ _ => 0) ⟨#[], #[.int .i64 0, .int .i64 0], []⟩).memory Tryz.f7.params.toList Rows.stateCircularSpec.vars false (#[Value.int .i64 0, .int .i64 0] : Array Value).toList 8 = some ([.lit (.int .i64 0), .lit (.int .i64 0)], [], places) :=
  ⟨[], by kernel_rfl⟩

set_option maxRecDepth 100000 in
theorem lifted (os : Os) (started : os.Started) (H : Type) (enc : TypeId × Value → H) (F : Stop.Interp) :
    ReturnsInHanded {} Tryz.checked os 7 .any ((OpenSpec.ofChange Rows.stateCircularSpec).preRow enc Tryz.prog Tryz.f7 Rows.stateCircularRow.domain false Rows.stateCircularRow.laid) (((OpenSpec.ofChange Rows.stateCircularSpec).at F).post enc Tryz.prog Tryz.f7 false true false false) := by
  obtain ⟨places, hx⟩ := reads os enc
  refine returnsInHanded_of_row (C := Tryz.checked) (s := OpenSpec.ofChange Rows.stateCircularSpec) own started (by kernel_rfl) Tryz.func7
    (witness_row_at (enc := enc) (C := Tryz.checked) false (laidWorld os) #[.int .i64 0, .int .i64 0] rfl (by kernel_rfl) (by kernel_rfl) (by kernel_rfl)
      (OpenSpec.preRow_of_cond 8 hx (by kernel_rfl) (fun k hk => by cases hk) (by kernel_rfl) (laid_met os))) ?_
  intro W base args ds gs before hval hW _ _ _ _ _ _
  exact contract H enc W base args ds gs before hval hW

theorem j1 : (Rows.stateCircularRow.inPlace == Tryz.prog.inPlace 7) = true := by kernel_rfl
theorem j2 : (Rows.stateCircularRow.unfollowed == Tryz.prog.unfollowed 7) = true := by kernel_rfl
theorem j3 : (Rows.stateCircularRow.recurses == Tryz.prog.recurses 7) = true := by kernel_rfl
theorem j4 : (Rows.stateCircularRow.named == Tryz.prog.varsNamed 7) = true := by kernel_rfl
theorem j5 : joinedRest Tryz.prog Tryz.f7 (OpenSpec.ofChange Rows.stateCircularSpec).bare Rows.stateCircularRow = true := by kernel_rfl
theorem j6 : false = Rows.stateCircularRow.goesBy Tryz.prog := by kernel_rfl
theorem j7 : Rows.stateCircularRow.wfByText (OpenSpec.ofChange Rows.stateCircularSpec) = true := by kernel_rfl
theorem closed : joinedFacts Tryz.prog 7 Tryz.f7 (OpenSpec.ofChange Rows.stateCircularSpec).bare Rows.stateCircularRow = true := joined_of j1 j2 j3 j4 pr_heard pr_enter pr_lifts pr_make j5
theorem named : Tryz.prog.funcNamed Rows.stateCircularRow.func = some 7 := by kernel_rfl

theorem said : Rows.StateCircularSaid :=
  OpenClaim.holds_of_cond 7 Tryz.f7 rfl rfl rfl rfl rfl rfl rfl ⟨rfl, rfl, rfl, rfl, rfl⟩ rfl rfl rfl rfl rfl named Tryz.func7 closed
    (of_decide_eq_true (by kernel_rfl)) (by unfold Func.isWrapper; first | (rw [if_pos (by decide +kernel)]; kernel_rfl) | (rw [if_neg (by decide +kernel)]; exact ⟨rfl, rfl⟩))
    (fun os started H enc _ F => by rw [OpenClaim.pre_eq_preRow]; exact lifted os started H enc F)

/-- No parameter wants a stand-in; the program's own looks are off: what both cards ask. -/
theorem plain (f : FuncId) (fn : Func) (hf : Tryz.pinned.checked.prog.funcNamed "copydesk/copydesklaw07.StateCircular" = some f) (hfn : Tryz.pinned.checked.prog.funcs[f]? = some fn) :
    false = Tryz.pinned.checked.prog.looks [] ∧ ∀ (j : Nat) t, fn.params[j]? = some t → Tryz.pinned.checked.prog.wantsStandIn t = false := by
  obtain rfl : f = 7 := Option.some.inj ((show Tryz.prog.funcNamed "copydesk/copydesklaw07.StateCircular" = some 7 by kernel_rfl).symm.trans hf) |>.symm
  obtain rfl : fn = Tryz.f7 := (Option.some.inj (Tryz.func7.symm.trans hfn)).symm
  refine ⟨by kernel_rfl, fun j t ht => ?_⟩
  have hall : Tryz.f7.params.all (fun t => !Tryz.prog.wantsStandIn t) = true := by kernel_rfl
  have := Array.all_eq_true'.1 hall t (Array.mem_of_getElem? ht)
  exact (by simpa using this : Tryz.prog.wantsStandIn t = false)

/-- ████ THE CARD ████ -/
theorem card : Rows.StateCircularCardSaid :=
  Claim7.holds_tied_plain_at .later [] _ _ _ _ said (fun _ h => by cases h) j7 (fun _ h => by cases h) stateCircular_row_tie rfl ⟨rfl, rfl⟩ (by kernel_rfl) rfl plain j6
end Go.Proofs.YtdkkhmjlamkgdaaGreatDoor.fnSCir

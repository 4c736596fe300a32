/-
  WHAT IS PROVED HERE: 15 texts joined, each with its own head: what the walks of the program give. Conditions: each at its place.
-/
import Derived.Test.YtgbihmafmmeicaaGreatDoorBh3
import Derived.Deep.CutBlock
import Derived.Shelf.Slices.CompactI
namespace Go.Proofs.YtgbihmafmmeicaaGreatDoor
open Go.RowKit Mg Go.Shelf

abbrev enS : ByteArray := ⟨#[101, 110]⟩
theorem fb0 : Tryz.prog.built 45 [] = some #[.int .i64 0, .int .i64 0, .int .i64 0, .int .i64 0, .string .empty, .int .i64 0, .int .i64 0, .string .empty, .string .empty, .slice none 0 0, .slice none 0 0, .int .i64 0, .slice none 0 0, .int .i64 0, .int .i64 0, .int .i64 0, .int .i64 0, .int .i64 0, .string .empty, .string .empty, .int .i64 0, .int .i64 0, .int .i64 0] := by kernel_rfl
theorem fb2 (e : Int) : Tryz.prog.built 45 [(2, .int .i64 2), (12, .int .i64 e)] = some #[.int .i64 0, .int .i64 0, .int .i64 2, .int .i64 0, .string .empty, .int .i64 0, .int .i64 0, .string .empty, .string .empty, .slice none 0 0, .slice none 0 0, .int .i64 0, .slice none 0 0, .int .i64 0, .int .i64 0, .int .i64 e, .int .i64 0, .int .i64 0, .string .empty, .string .empty, .int .i64 0, .int .i64 0, .int .i64 0] := by kernel_rfl
theorem fb3 (a1 a3 a4 : Int) (ao : Option Addr) (n c : Nat) : Tryz.prog.built 45 [(2, .int .i64 3), (11, .agg #[.int .i64 a1, .slice ao n c, .int .i64 a3, .int .i64 a4])] = some #[.int .i64 0, .int .i64 0, .int .i64 3, .int .i64 0, .string .empty, .int .i64 0, .int .i64 0, .string .empty, .string .empty, .slice none 0 0, .slice none 0 0, .int .i64 a1, .slice ao n c, .int .i64 a3, .int .i64 a4, .int .i64 0, .int .i64 0, .int .i64 0, .string .empty, .string .empty, .int .i64 0, .int .i64 0, .int .i64 0] := by kernel_rfl
theorem fb4 (b s : Int) (t : ByteArray) : Tryz.prog.built 45 [(2, .int .i64 4), (4, .string ⟨#[101, 110]⟩), (13, .int .i64 b), (14, .int .i64 s), (15, .string t)] = some #[.int .i64 0, .int .i64 0, .int .i64 4, .int .i64 0, .string ⟨#[101, 110]⟩, .int .i64 0, .int .i64 0, .string .empty, .string .empty, .slice none 0 0, .slice none 0 0, .int .i64 0, .slice none 0 0, .int .i64 0, .int .i64 0, .int .i64 0, .int .i64 b, .int .i64 s, .string t, .string .empty, .int .i64 0, .int .i64 0, .int .i64 0] := by kernel_rfl
theorem fb5 (t : ByteArray) : Tryz.prog.built 45 [(2, .int .i64 5), (15, .string t)] = some #[.int .i64 0, .int .i64 0, .int .i64 5, .int .i64 0, .string .empty, .int .i64 0, .int .i64 0, .string .empty, .string .empty, .slice none 0 0, .slice none 0 0, .int .i64 0, .slice none 0 0, .int .i64 0, .int .i64 0, .int .i64 0, .int .i64 0, .int .i64 0, .string t, .string .empty, .int .i64 0, .int .i64 0, .int .i64 0] := by kernel_rfl
theorem fb6 : Tryz.prog.built 45 [(2, .int .i64 6)] = some #[.int .i64 0, .int .i64 0, .int .i64 6, .int .i64 0, .string .empty, .int .i64 0, .int .i64 0, .string .empty, .string .empty, .slice none 0 0, .slice none 0 0, .int .i64 0, .slice none 0 0, .int .i64 0, .int .i64 0, .int .i64 0, .int .i64 0, .int .i64 0, .string .empty, .string .empty, .int .i64 0, .int .i64 0, .int .i64 0] := by kernel_rfl
theorem fb7 (a b : Int) (t : ByteArray) : Tryz.prog.built 45 [(0, .int .i64 a), (1, .int .i64 b), (2, .int .i64 7), (16, .string ⟨#[102, 114, 111, 110, 116]⟩), (15, .string t)] = some #[.int .i64 a, .int .i64 b, .int .i64 7, .int .i64 0, .string .empty, .int .i64 0, .int .i64 0, .string .empty, .string .empty, .slice none 0 0, .slice none 0 0, .int .i64 0, .slice none 0 0, .int .i64 0, .int .i64 0, .int .i64 0, .int .i64 0, .int .i64 0, .string t, .string ⟨#[102, 114, 111, 110, 116]⟩, .int .i64 0, .int .i64 0, .int .i64 0] := by kernel_rfl
def plainE (f : Fct) : FctE := ⟨f, none, 0, none, 0, none, 0⟩
theorem plain_ok {mem : Addr → Option Value} {f : Fct} (h : FOK f) (ht : f.topics = []) (hb : f.blocks = []) (ha : f.lab.after = []) : (plainE f).ok mem := by
  refine ⟨h, ?_, ?_, ?_⟩
  · show StrsM mem (.slice none f.topics.length 0) f.topics
    rw [ht]; exact StrsM.nil _
  · show BlksM mem (.slice none f.blocks.length 0) f.blocks
    rw [hb]; exact ⟨0, 0, sliceNil, fun j hj => absurd hj (by simp)⟩
  · show IntsM mem (.slice none f.lab.after.length 0) f.lab.after
    rw [ha]; exact IntsM.nil _
def MkI (W1 : World) (T : Nat) (f : Fct) (W : World) : Prop := ∃ y : FctE, y.f = f ∧ W.heap[T]? = some (.cells y.cells 45 (0, 0)) ∧ y.ok (memFr W fun b => b < W1.heap.size) ∧ Upd (fun b => b = T) W1 W
theorem MkI.put {W1 W : World} {T : Nat} {y : FctE} {f : Fct} (hf : y.f = f) (hb : Below W1.heap.size W1 W) (hT : T < W1.heap.size) (h1 : W1.heap[T]? = some (.cells fe0.cells 45 (0, 0))) (hok : y.ok (memFr W fun b => b < W1.heap.size)) : MkI W1 T f (W.setRow T y.cells) := by
  have hTW : W.heap[T]? = some (.cells fe0.cells 45 (0, 0)) := (hb.block T hT).trans h1
  have hz := hb.size
  have hs : (W.setRow T y.cells).heap.size = W.heap.size := by unfold World.setRow; simp
  refine ⟨y, hf, setRow_heap _ _ _ _ _ _ hTW, hok.mono (fun a u h => ?_), ⟨hb.os, hb.tape, hb.output, by omega, fun k hk hn => (setRow_other _ _ _ _ hn).trans (hb.block k hk)⟩⟩
  obtain ⟨h2, h3, h4⟩ := memFr_lt a u h
  have hne : a.block ≠ T := fun e => h3 (by omega)
  have he := setRow_other W T a.block y.cells hne
  exact memFr_of ((World.cell?_of_block he).trans (memFr_sees _ _ a u h)) ((World.frozen?_of_block he).trans h4) h3
theorem fok_zero : FOK fct0 := by
  have z : okI 0 := by unfold okI; omega
  have m0 : (str0).size ≤ maxLen := by unfold maxLen str0; show 0 ≤ _; omega
  exact ⟨z, z, z, z, m0, z, z, m0, m0, z, z, z, z, z, z, m0, m0, z, z, z, fun y hy => by cases hy⟩
theorem okS {i : Int} (h0 : -1000 ≤ i) (h1 : i ≤ 1000) : okI i := by unfold okI; omega
theorem en_ok : enS.size ≤ maxLen := by show 2 ≤ maxLen; unfold maxLen; omega
theorem word_ok (n : Int) : (wordF n).size ≤ maxLen := by rw [word_size]; unfold maxLen; omega
structure MkC (A R T : Nat) (x : Six) (W1 : World) : Prop where
  a : W1.heap[A]? = some (.cells (sixCells x) 62 (0, 0))
  t : W1.heap[T]? = some (.cells fe0.cells 45 (0, 0))
  r : W1.heap[R]? = some (.cells fe0.cells 45 (0, 0))
  at_ : A ≠ T
  rt : R ≠ T
  xa : okI x.a
  xb : okI x.b
  xc : okI x.c
  xd : okI x.d
  xe : okI x.e
  xf : okI x.f
noncomputable def mkBlk : Code := ((Tryz.f30.body.map items).getD []).getD 4 .skip
set_option maxRecDepth 100000 in
set_option maxHeartbeats 4000000 in
theorem mk_k0 {A R T : Nat} {x : Six} {W1 : World} (C : MkC A R T x W1) (hk : pickF x.a 16 = 0) (i : Nat) (c1 c2 c5 c7 c8 c9 c10 c11 c12 c13 c73 c74 c75 c76 c77 c78 c79 c80 c81 c82 c83 c84 c85 c86 c87 c88 c89 c90 : Value) (u15 u16 u17 u18 u19 u20 u21 u22 u23 u24 u25 u26 u27 u28 u29 u30 u31 u32 u33 u34 u35 u36 u37 u38 u39 u40 u41 u42 u43 u44 u45 u46 u47 u48 u49 u50 u51 u52 u53 u54 u55 u56 u57 u58 u59 u60 u61 u62 u63 u64 u65 u66 u67 u68 u69 u70 u71 u72 : Value) (Q : Exit → Act → World → Prop)
    (hQ : ∀ (u15 u16 u17 u18 u19 u20 u21 u22 u23 u24 u25 u26 u27 u28 u29 u30 u31 u32 u33 u34 u35 u36 u37 u38 u39 u40 u41 u42 u43 u44 u45 u46 u47 u48 u49 u50 u51 u52 u53 u54 u55 u56 u57 u58 u59 u60 u61 u62 u63 u64 u65 u66 u67 u68 u69 u70 u71 u72 : Value) (w2 : World), MkI W1 T (makeK x) w2 → Q .normal ⟨#[.int .i64 (i : Nat), c1, c2, .pointer (some ⟨A, 0, none⟩), .pointer (some ⟨R, 0, none⟩), c5, .pointer (some ⟨T, 0, none⟩), c7, c8, c9, c10, c11, c12, c13, (.int .i64 0), u15, u16, u17, u18, u19, u20, u21, u22, u23, u24, u25, u26, u27, u28, u29, u30, u31, u32, u33, u34, u35, u36, u37, u38, u39, u40, u41, u42, u43, u44, u45, u46, u47, u48, u49, u50, u51, u52, u53, u54, u55, u56, u57, u58, u59, u60, u61, u62, u63, u64, u65, u66, u67, u68, u69, u70, u71, u72, c73, c74, c75, c76, c77, c78, c79, c80, c81, c82, c83, c84, c85, c86, c87, c88, c89, c90], []⟩ w2) (hP : ∀ c a a2 w2, a2.defers = a.defers → Q (.panic c) a w2 → Q (.panic c) a2 w2) :
    mkBlk.wp Tryz.prog Q ⟨#[.int .i64 (i : Nat), c1, c2, .pointer (some ⟨A, 0, none⟩), .pointer (some ⟨R, 0, none⟩), c5, .pointer (some ⟨T, 0, none⟩), c7, c8, c9, c10, c11, c12, c13, (.int .i64 0), u15, u16, u17, u18, u19, u20, u21, u22, u23, u24, u25, u26, u27, u28, u29, u30, u31, u32, u33, u34, u35, u36, u37, u38, u39, u40, u41, u42, u43, u44, u45, u46, u47, u48, u49, u50, u51, u52, u53, u54, u55, u56, u57, u58, u59, u60, u61, u62, u63, u64, u65, u66, u67, u68, u69, u70, u71, u72, c73, c74, c75, c76, c77, c78, c79, c80, c81, c82, c83, c84, c85, c86, c87, c88, c89, c90], []⟩ W1 := by
  have HQ := Lib.hid hQ
  have HP := Lib.hid hP
  have HC := Lib.hid C
  have HK := Lib.hid hk
  have hTl := Go.Proofs.YtgbihmafmmeicaaGreatDoor.hlt C.t
  have hRl := Go.Proofs.YtgbihmafmmeicaaGreatDoor.hlt C.r
  have k0 : W1.cell? ⟨A, 0, none⟩ = some (.int .i64 x.a) := blk_cell C.a 0
  have k1 : W1.cell? ⟨A, 1, none⟩ = some (.int .i64 x.b) := blk_cell C.a 1
  have k2 : W1.cell? ⟨A, 2, none⟩ = some (.int .i64 x.c) := blk_cell C.a 2
  have k3 : W1.cell? ⟨A, 3, none⟩ = some (.int .i64 x.d) := blk_cell C.a 3
  have k4 : W1.cell? ⟨A, 4, none⟩ = some (.int .i64 x.e) := blk_cell C.a 4
  have k5 : W1.cell? ⟨A, 5, none⟩ = some (.int .i64 x.f) := blk_cell C.a 5
  have HEQ : Hid (makeK x = { revF x with lang := strL [101, 110] }) := Lib.hid (by unfold makeK; dsimp only; rw [hk]; rfl)
  have c1 := Lib.hid (revision_any x ⟨C.xc, C.xd, C.xe, C.xf⟩ W1)
  unfold sixCells at c1
  clear C hQ hP hk
  conv => arg 2; whnf
  go_wp2_with fail
  refine c1.out.mono ?_
  rintro e w2 ⟨y, rfl, hy, hok, hb⟩
  have HY := Lib.hid hy
  have HOK := Lib.hid hok
  have HB := Lib.hid hb
  have HT := Lib.hid ((hb.block T hTl).trans HC.out.t)
  clear hy hok hb k0 k1 k2 k3 k4 k5 c1
  go_upto_region 11 with ((with_reducible refine at_fstore _ _ rfl ?_); go_must (refine wpList_store_rowTo rfl 45 _ _ rfl rfl T (y).cells (by first | (simp [Act.eval]; done) | simp [Act.eval, Act.put]) (by first | (simp [Act.eval]; done) | (simp [Act.eval, Act.put] <;> rfl)) 45 _ HT.out (by rw [fct_size, FctE.size]) (by rfl) (y).one ?_))
  have hM := MkI.put (f := revF x) HY.out HB.out hTl HC.out.t HOK.out
  generalize w2.setRow T y.cells = w3 at *
  obtain ⟨y3, hy3, hT3, hok3, hu3⟩ := hM
  have HY3 := Lib.hid hy3
  have HOK3 := Lib.hid hok3
  have HU3 := Lib.hid hu3
  have HT3 := Lib.hid hT3
  have k4 : w3.cell? ⟨T, 4, none⟩ = some (.string y3.f.lang) := blk_cell hT3 4
  have f4 := blk_free hT3 4
  clear hy3 hT3 hok3 hu3
  go_wp2_with fail
  have hcc := blk_set (j := 4) (u := .string ⟨#[101, 110]⟩) HT3.out
  have hu4 := upd_cell w3 T 4 (.string ⟨#[101, 110]⟩)
  have hf := HOK3.out.fok
  have hzz := HU3.out.size
  exact HQ.out _ _ _ _ _ _ _ _ _ _ _ _ _ _ _ _ _ _ _ _ _ _ _ _ _ _ _ _ _ _ _ _ _ _ _ _ _ _ _ _ _ _ _ _ _ _ _ _ _ _ _ _ _ _ _ _ _ _ _ ⟨⟨{ y3.f with lang := strL [101, 110] }, y3.ta, y3.tc, y3.ba, y3.bc, y3.aa, y3.ac⟩, by rw [HEQ.out, HY3.out], hcc, ⟨⟨hf.i0, hf.i1, hf.i2, hf.i3, en_ok, hf.i5, hf.i6, hf.s7, hf.s8, hf.i11, hf.i13, hf.i14, hf.i15, hf.i16, hf.i17, hf.s18, hf.s19, hf.i20, hf.i21, hf.i22, hf.bl⟩, HOK3.out.parts.mono (memFr_mono hu4 (fun b _ h => ⟨h, fun e => h (by omega)⟩))⟩, HU3.out.trans hu4 (fun b e => .inl e)⟩
set_option maxRecDepth 100000 in
set_option maxHeartbeats 4000000 in
theorem mk_k1 {A R T : Nat} {x : Six} {W1 : World} (C : MkC A R T x W1) (hk : pickF x.a 16 = 1) (i : Nat) (c1 c2 c5 c7 c8 c9 c10 c11 c12 c13 c73 c74 c75 c76 c77 c78 c79 c80 c81 c82 c83 c84 c85 c86 c87 c88 c89 c90 : Value) (u15 u16 u17 u18 u19 u20 u21 u22 u23 u24 u25 u26 u27 u28 u29 u30 u31 u32 u33 u34 u35 u36 u37 u38 u39 u40 u41 u42 u43 u44 u45 u46 u47 u48 u49 u50 u51 u52 u53 u54 u55 u56 u57 u58 u59 u60 u61 u62 u63 u64 u65 u66 u67 u68 u69 u70 u71 u72 : Value) (Q : Exit → Act → World → Prop)
    (hQ : ∀ (u15 u16 u17 u18 u19 u20 u21 u22 u23 u24 u25 u26 u27 u28 u29 u30 u31 u32 u33 u34 u35 u36 u37 u38 u39 u40 u41 u42 u43 u44 u45 u46 u47 u48 u49 u50 u51 u52 u53 u54 u55 u56 u57 u58 u59 u60 u61 u62 u63 u64 u65 u66 u67 u68 u69 u70 u71 u72 : Value) (w2 : World), MkI W1 T (makeK x) w2 → Q .normal ⟨#[.int .i64 (i : Nat), c1, c2, .pointer (some ⟨A, 0, none⟩), .pointer (some ⟨R, 0, none⟩), c5, .pointer (some ⟨T, 0, none⟩), c7, c8, c9, c10, c11, c12, c13, (.int .i64 1), u15, u16, u17, u18, u19, u20, u21, u22, u23, u24, u25, u26, u27, u28, u29, u30, u31, u32, u33, u34, u35, u36, u37, u38, u39, u40, u41, u42, u43, u44, u45, u46, u47, u48, u49, u50, u51, u52, u53, u54, u55, u56, u57, u58, u59, u60, u61, u62, u63, u64, u65, u66, u67, u68, u69, u70, u71, u72, c73, c74, c75, c76, c77, c78, c79, c80, c81, c82, c83, c84, c85, c86, c87, c88, c89, c90], []⟩ w2) (hP : ∀ c a a2 w2, a2.defers = a.defers → Q (.panic c) a w2 → Q (.panic c) a2 w2) :
    mkBlk.wp Tryz.prog Q ⟨#[.int .i64 (i : Nat), c1, c2, .pointer (some ⟨A, 0, none⟩), .pointer (some ⟨R, 0, none⟩), c5, .pointer (some ⟨T, 0, none⟩), c7, c8, c9, c10, c11, c12, c13, (.int .i64 1), u15, u16, u17, u18, u19, u20, u21, u22, u23, u24, u25, u26, u27, u28, u29, u30, u31, u32, u33, u34, u35, u36, u37, u38, u39, u40, u41, u42, u43, u44, u45, u46, u47, u48, u49, u50, u51, u52, u53, u54, u55, u56, u57, u58, u59, u60, u61, u62, u63, u64, u65, u66, u67, u68, u69, u70, u71, u72, c73, c74, c75, c76, c77, c78, c79, c80, c81, c82, c83, c84, c85, c86, c87, c88, c89, c90], []⟩ W1 := by
  have HQ := Lib.hid hQ
  have HP := Lib.hid hP
  have HC := Lib.hid C
  have HK := Lib.hid hk
  have hTl := Go.Proofs.YtgbihmafmmeicaaGreatDoor.hlt C.t
  have hRl := Go.Proofs.YtgbihmafmmeicaaGreatDoor.hlt C.r
  have k0 : W1.cell? ⟨A, 0, none⟩ = some (.int .i64 x.a) := blk_cell C.a 0
  have k1 : W1.cell? ⟨A, 1, none⟩ = some (.int .i64 x.b) := blk_cell C.a 1
  have k2 : W1.cell? ⟨A, 2, none⟩ = some (.int .i64 x.c) := blk_cell C.a 2
  have k3 : W1.cell? ⟨A, 3, none⟩ = some (.int .i64 x.d) := blk_cell C.a 3
  have k4 : W1.cell? ⟨A, 4, none⟩ = some (.int .i64 x.e) := blk_cell C.a 4
  have k5 : W1.cell? ⟨A, 5, none⟩ = some (.int .i64 x.f) := blk_cell C.a 5
  have HEQ : Hid (makeK x = { revF x with lang := strL [101, 110] }) := Lib.hid (by unfold makeK; dsimp only; rw [hk]; rfl)
  have c1 := Lib.hid (revision_any x ⟨C.xc, C.xd, C.xe, C.xf⟩ W1)
  unfold sixCells at c1
  clear C hQ hP hk
  conv => arg 2; whnf
  go_wp2_with fail
  refine c1.out.mono ?_
  rintro e w2 ⟨y, rfl, hy, hok, hb⟩
  have HY := Lib.hid hy
  have HOK := Lib.hid hok
  have HB := Lib.hid hb
  have HT := Lib.hid ((hb.block T hTl).trans HC.out.t)
  clear hy hok hb k0 k1 k2 k3 k4 k5 c1
  go_upto_region 11 with ((with_reducible refine at_fstore _ _ rfl ?_); go_must (refine wpList_store_rowTo rfl 45 _ _ rfl rfl T (y).cells (by first | (simp [Act.eval]; done) | simp [Act.eval, Act.put]) (by first | (simp [Act.eval]; done) | (simp [Act.eval, Act.put] <;> rfl)) 45 _ HT.out (by rw [fct_size, FctE.size]) (by rfl) (y).one ?_))
  have hM := MkI.put (f := revF x) HY.out HB.out hTl HC.out.t HOK.out
  generalize w2.setRow T y.cells = w3 at *
  obtain ⟨y3, hy3, hT3, hok3, hu3⟩ := hM
  have HY3 := Lib.hid hy3
  have HOK3 := Lib.hid hok3
  have HU3 := Lib.hid hu3
  have HT3 := Lib.hid hT3
  have k4 : w3.cell? ⟨T, 4, none⟩ = some (.string y3.f.lang) := blk_cell hT3 4
  have f4 := blk_free hT3 4
  clear hy3 hT3 hok3 hu3
  go_wp2_with fail
  have hcc := blk_set (j := 4) (u := .string ⟨#[101, 110]⟩) HT3.out
  have hu4 := upd_cell w3 T 4 (.string ⟨#[101, 110]⟩)
  have hf := HOK3.out.fok
  have hzz := HU3.out.size
  exact HQ.out _ _ _ _ _ _ _ _ _ _ _ _ _ _ _ _ _ _ _ _ _ _ _ _ _ _ _ _ _ _ _ _ _ _ _ _ _ _ _ _ _ _ _ _ _ _ _ _ _ _ _ _ _ _ _ _ _ _ _ ⟨⟨{ y3.f with lang := strL [101, 110] }, y3.ta, y3.tc, y3.ba, y3.bc, y3.aa, y3.ac⟩, by rw [HEQ.out, HY3.out], hcc, ⟨⟨hf.i0, hf.i1, hf.i2, hf.i3, en_ok, hf.i5, hf.i6, hf.s7, hf.s8, hf.i11, hf.i13, hf.i14, hf.i15, hf.i16, hf.i17, hf.s18, hf.s19, hf.i20, hf.i21, hf.i22, hf.bl⟩, HOK3.out.parts.mono (memFr_mono hu4 (fun b _ h => ⟨h, fun e => h (by omega)⟩))⟩, HU3.out.trans hu4 (fun b e => .inl e)⟩
set_option maxRecDepth 100000 in
set_option maxHeartbeats 4000000 in
theorem mk_k2 {A R T : Nat} {x : Six} {W1 : World} (C : MkC A R T x W1) (hk : pickF x.a 16 = 2) (i : Nat) (c1 c2 c5 c7 c8 c9 c10 c11 c12 c13 c73 c74 c75 c76 c77 c78 c79 c80 c81 c82 c83 c84 c85 c86 c87 c88 c89 c90 : Value) (u15 u16 u17 u18 u19 u20 u21 u22 u23 u24 u25 u26 u27 u28 u29 u30 u31 u32 u33 u34 u35 u36 u37 u38 u39 u40 u41 u42 u43 u44 u45 u46 u47 u48 u49 u50 u51 u52 u53 u54 u55 u56 u57 u58 u59 u60 u61 u62 u63 u64 u65 u66 u67 u68 u69 u70 u71 u72 : Value) (Q : Exit → Act → World → Prop)
    (hQ : ∀ (u15 u16 u17 u18 u19 u20 u21 u22 u23 u24 u25 u26 u27 u28 u29 u30 u31 u32 u33 u34 u35 u36 u37 u38 u39 u40 u41 u42 u43 u44 u45 u46 u47 u48 u49 u50 u51 u52 u53 u54 u55 u56 u57 u58 u59 u60 u61 u62 u63 u64 u65 u66 u67 u68 u69 u70 u71 u72 : Value) (w2 : World), MkI W1 T (makeK x) w2 → Q .normal ⟨#[.int .i64 (i : Nat), c1, c2, .pointer (some ⟨A, 0, none⟩), .pointer (some ⟨R, 0, none⟩), c5, .pointer (some ⟨T, 0, none⟩), c7, c8, c9, c10, c11, c12, c13, (.int .i64 2), u15, u16, u17, u18, u19, u20, u21, u22, u23, u24, u25, u26, u27, u28, u29, u30, u31, u32, u33, u34, u35, u36, u37, u38, u39, u40, u41, u42, u43, u44, u45, u46, u47, u48, u49, u50, u51, u52, u53, u54, u55, u56, u57, u58, u59, u60, u61, u62, u63, u64, u65, u66, u67, u68, u69, u70, u71, u72, c73, c74, c75, c76, c77, c78, c79, c80, c81, c82, c83, c84, c85, c86, c87, c88, c89, c90], []⟩ w2) (hP : ∀ c a a2 w2, a2.defers = a.defers → Q (.panic c) a w2 → Q (.panic c) a2 w2) :
    mkBlk.wp Tryz.prog Q ⟨#[.int .i64 (i : Nat), c1, c2, .pointer (some ⟨A, 0, none⟩), .pointer (some ⟨R, 0, none⟩), c5, .pointer (some ⟨T, 0, none⟩), c7, c8, c9, c10, c11, c12, c13, (.int .i64 2), u15, u16, u17, u18, u19, u20, u21, u22, u23, u24, u25, u26, u27, u28, u29, u30, u31, u32, u33, u34, u35, u36, u37, u38, u39, u40, u41, u42, u43, u44, u45, u46, u47, u48, u49, u50, u51, u52, u53, u54, u55, u56, u57, u58, u59, u60, u61, u62, u63, u64, u65, u66, u67, u68, u69, u70, u71, u72, c73, c74, c75, c76, c77, c78, c79, c80, c81, c82, c83, c84, c85, c86, c87, c88, c89, c90], []⟩ W1 := by
  have HQ := Lib.hid hQ
  have HP := Lib.hid hP
  have HC := Lib.hid C
  have HK := Lib.hid hk
  have hTl := Go.Proofs.YtgbihmafmmeicaaGreatDoor.hlt C.t
  have hRl := Go.Proofs.YtgbihmafmmeicaaGreatDoor.hlt C.r
  have k0 : W1.cell? ⟨A, 0, none⟩ = some (.int .i64 x.a) := blk_cell C.a 0
  have k1 : W1.cell? ⟨A, 1, none⟩ = some (.int .i64 x.b) := blk_cell C.a 1
  have k2 : W1.cell? ⟨A, 2, none⟩ = some (.int .i64 x.c) := blk_cell C.a 2
  have k3 : W1.cell? ⟨A, 3, none⟩ = some (.int .i64 x.d) := blk_cell C.a 3
  have k4 : W1.cell? ⟨A, 4, none⟩ = some (.int .i64 x.e) := blk_cell C.a 4
  have k5 : W1.cell? ⟨A, 5, none⟩ = some (.int .i64 x.f) := blk_cell C.a 5
  have HEQ : Hid (makeK x = { revF x with lang := strL [101, 110] }) := Lib.hid (by unfold makeK; dsimp only; rw [hk]; rfl)
  have c1 := Lib.hid (revision_any x ⟨C.xc, C.xd, C.xe, C.xf⟩ W1)
  unfold sixCells at c1
  clear C hQ hP hk
  conv => arg 2; whnf
  go_wp2_with fail
  refine c1.out.mono ?_
  rintro e w2 ⟨y, rfl, hy, hok, hb⟩
  have HY := Lib.hid hy
  have HOK := Lib.hid hok
  have HB := Lib.hid hb
  have HT := Lib.hid ((hb.block T hTl).trans HC.out.t)
  clear hy hok hb k0 k1 k2 k3 k4 k5 c1
  go_upto_region 11 with ((with_reducible refine at_fstore _ _ rfl ?_); go_must (refine wpList_store_rowTo rfl 45 _ _ rfl rfl T (y).cells (by first | (simp [Act.eval]; done) | simp [Act.eval, Act.put]) (by first | (simp [Act.eval]; done) | (simp [Act.eval, Act.put] <;> rfl)) 45 _ HT.out (by rw [fct_size, FctE.size]) (by rfl) (y).one ?_))
  have hM := MkI.put (f := revF x) HY.out HB.out hTl HC.out.t HOK.out
  generalize w2.setRow T y.cells = w3 at *
  obtain ⟨y3, hy3, hT3, hok3, hu3⟩ := hM
  have HY3 := Lib.hid hy3
  have HOK3 := Lib.hid hok3
  have HU3 := Lib.hid hu3
  have HT3 := Lib.hid hT3
  have k4 : w3.cell? ⟨T, 4, none⟩ = some (.string y3.f.lang) := blk_cell hT3 4
  have f4 := blk_free hT3 4
  clear hy3 hT3 hok3 hu3
  go_wp2_with fail
  have hcc := blk_set (j := 4) (u := .string ⟨#[101, 110]⟩) HT3.out
  have hu4 := upd_cell w3 T 4 (.string ⟨#[101, 110]⟩)
  have hf := HOK3.out.fok
  have hzz := HU3.out.size
  exact HQ.out _ _ _ _ _ _ _ _ _ _ _ _ _ _ _ _ _ _ _ _ _ _ _ _ _ _ _ _ _ _ _ _ _ _ _ _ _ _ _ _ _ _ _ _ _ _ _ _ _ _ _ _ _ _ _ _ _ _ _ ⟨⟨{ y3.f with lang := strL [101, 110] }, y3.ta, y3.tc, y3.ba, y3.bc, y3.aa, y3.ac⟩, by rw [HEQ.out, HY3.out], hcc, ⟨⟨hf.i0, hf.i1, hf.i2, hf.i3, en_ok, hf.i5, hf.i6, hf.s7, hf.s8, hf.i11, hf.i13, hf.i14, hf.i15, hf.i16, hf.i17, hf.s18, hf.s19, hf.i20, hf.i21, hf.i22, hf.bl⟩, HOK3.out.parts.mono (memFr_mono hu4 (fun b _ h => ⟨h, fun e => h (by omega)⟩))⟩, HU3.out.trans hu4 (fun b e => .inl e)⟩
set_option maxRecDepth 100000 in
set_option maxHeartbeats 4000000 in
theorem mk_k3 {A R T : Nat} {x : Six} {W1 : World} (C : MkC A R T x W1) (hk : pickF x.a 16 = 3) (i : Nat) (c1 c2 c5 c7 c8 c9 c10 c11 c12 c13 c73 c74 c75 c76 c77 c78 c79 c80 c81 c82 c83 c84 c85 c86 c87 c88 c89 c90 : Value) (u15 u16 u17 u18 u19 u20 u21 u22 u23 u24 u25 u26 u27 u28 u29 u30 u31 u32 u33 u34 u35 u36 u37 u38 u39 u40 u41 u42 u43 u44 u45 u46 u47 u48 u49 u50 u51 u52 u53 u54 u55 u56 u57 u58 u59 u60 u61 u62 u63 u64 u65 u66 u67 u68 u69 u70 u71 u72 : Value) (Q : Exit → Act → World → Prop)
    (hQ : ∀ (u15 u16 u17 u18 u19 u20 u21 u22 u23 u24 u25 u26 u27 u28 u29 u30 u31 u32 u33 u34 u35 u36 u37 u38 u39 u40 u41 u42 u43 u44 u45 u46 u47 u48 u49 u50 u51 u52 u53 u54 u55 u56 u57 u58 u59 u60 u61 u62 u63 u64 u65 u66 u67 u68 u69 u70 u71 u72 : Value) (w2 : World), MkI W1 T (makeK x) w2 → Q .normal ⟨#[.int .i64 (i : Nat), c1, c2, .pointer (some ⟨A, 0, none⟩), .pointer (some ⟨R, 0, none⟩), c5, .pointer (some ⟨T, 0, none⟩), c7, c8, c9, c10, c11, c12, c13, (.int .i64 3), u15, u16, u17, u18, u19, u20, u21, u22, u23, u24, u25, u26, u27, u28, u29, u30, u31, u32, u33, u34, u35, u36, u37, u38, u39, u40, u41, u42, u43, u44, u45, u46, u47, u48, u49, u50, u51, u52, u53, u54, u55, u56, u57, u58, u59, u60, u61, u62, u63, u64, u65, u66, u67, u68, u69, u70, u71, u72, c73, c74, c75, c76, c77, c78, c79, c80, c81, c82, c83, c84, c85, c86, c87, c88, c89, c90], []⟩ w2) (hP : ∀ c a a2 w2, a2.defers = a.defers → Q (.panic c) a w2 → Q (.panic c) a2 w2) :
    mkBlk.wp Tryz.prog Q ⟨#[.int .i64 (i : Nat), c1, c2, .pointer (some ⟨A, 0, none⟩), .pointer (some ⟨R, 0, none⟩), c5, .pointer (some ⟨T, 0, none⟩), c7, c8, c9, c10, c11, c12, c13, (.int .i64 3), u15, u16, u17, u18, u19, u20, u21, u22, u23, u24, u25, u26, u27, u28, u29, u30, u31, u32, u33, u34, u35, u36, u37, u38, u39, u40, u41, u42, u43, u44, u45, u46, u47, u48, u49, u50, u51, u52, u53, u54, u55, u56, u57, u58, u59, u60, u61, u62, u63, u64, u65, u66, u67, u68, u69, u70, u71, u72, c73, c74, c75, c76, c77, c78, c79, c80, c81, c82, c83, c84, c85, c86, c87, c88, c89, c90], []⟩ W1 := by
  have HQ := Lib.hid hQ
  have HP := Lib.hid hP
  have HC := Lib.hid C
  have HK := Lib.hid hk
  have hTl := Go.Proofs.YtgbihmafmmeicaaGreatDoor.hlt C.t
  have hRl := Go.Proofs.YtgbihmafmmeicaaGreatDoor.hlt C.r
  have k0 : W1.cell? ⟨A, 0, none⟩ = some (.int .i64 x.a) := blk_cell C.a 0
  have k1 : W1.cell? ⟨A, 1, none⟩ = some (.int .i64 x.b) := blk_cell C.a 1
  have k2 : W1.cell? ⟨A, 2, none⟩ = some (.int .i64 x.c) := blk_cell C.a 2
  have k3 : W1.cell? ⟨A, 3, none⟩ = some (.int .i64 x.d) := blk_cell C.a 3
  have k4 : W1.cell? ⟨A, 4, none⟩ = some (.int .i64 x.e) := blk_cell C.a 4
  have k5 : W1.cell? ⟨A, 5, none⟩ = some (.int .i64 x.f) := blk_cell C.a 5
  have HEQ : Hid (makeK x = { revF x with lang := strL [101, 110] }) := Lib.hid (by unfold makeK; dsimp only; rw [hk]; rfl)
  have c1 := Lib.hid (revision_any x ⟨C.xc, C.xd, C.xe, C.xf⟩ W1)
  unfold sixCells at c1
  clear C hQ hP hk
  conv => arg 2; whnf
  go_wp2_with fail
  refine c1.out.mono ?_
  rintro e w2 ⟨y, rfl, hy, hok, hb⟩
  have HY := Lib.hid hy
  have HOK := Lib.hid hok
  have HB := Lib.hid hb
  have HT := Lib.hid ((hb.block T hTl).trans HC.out.t)
  clear hy hok hb k0 k1 k2 k3 k4 k5 c1
  go_upto_region 11 with ((with_reducible refine at_fstore _ _ rfl ?_); go_must (refine wpList_store_rowTo rfl 45 _ _ rfl rfl T (y).cells (by first | (simp [Act.eval]; done) | simp [Act.eval, Act.put]) (by first | (simp [Act.eval]; done) | (simp [Act.eval, Act.put] <;> rfl)) 45 _ HT.out (by rw [fct_size, FctE.size]) (by rfl) (y).one ?_))
  have hM := MkI.put (f := revF x) HY.out HB.out hTl HC.out.t HOK.out
  generalize w2.setRow T y.cells = w3 at *
  obtain ⟨y3, hy3, hT3, hok3, hu3⟩ := hM
  have HY3 := Lib.hid hy3
  have HOK3 := Lib.hid hok3
  have HU3 := Lib.hid hu3
  have HT3 := Lib.hid hT3
  have k4 : w3.cell? ⟨T, 4, none⟩ = some (.string y3.f.lang) := blk_cell hT3 4
  have f4 := blk_free hT3 4
  clear hy3 hT3 hok3 hu3
  go_wp2_with fail
  have hcc := blk_set (j := 4) (u := .string ⟨#[101, 110]⟩) HT3.out
  have hu4 := upd_cell w3 T 4 (.string ⟨#[101, 110]⟩)
  have hf := HOK3.out.fok
  have hzz := HU3.out.size
  exact HQ.out _ _ _ _ _ _ _ _ _ _ _ _ _ _ _ _ _ _ _ _ _ _ _ _ _ _ _ _ _ _ _ _ _ _ _ _ _ _ _ _ _ _ _ _ _ _ _ _ _ _ _ _ _ _ _ _ _ _ _ ⟨⟨{ y3.f with lang := strL [101, 110] }, y3.ta, y3.tc, y3.ba, y3.bc, y3.aa, y3.ac⟩, by rw [HEQ.out, HY3.out], hcc, ⟨⟨hf.i0, hf.i1, hf.i2, hf.i3, en_ok, hf.i5, hf.i6, hf.s7, hf.s8, hf.i11, hf.i13, hf.i14, hf.i15, hf.i16, hf.i17, hf.s18, hf.s19, hf.i20, hf.i21, hf.i22, hf.bl⟩, HOK3.out.parts.mono (memFr_mono hu4 (fun b _ h => ⟨h, fun e => h (by omega)⟩))⟩, HU3.out.trans hu4 (fun b e => .inl e)⟩
set_option maxRecDepth 100000 in
set_option maxHeartbeats 4000000 in
theorem mk_k4 {A R T : Nat} {x : Six} {W1 : World} (C : MkC A R T x W1) (hk : pickF x.a 16 = 4) (i : Nat) (c1 c2 c5 c7 c8 c9 c10 c11 c12 c13 c73 c74 c75 c76 c77 c78 c79 c80 c81 c82 c83 c84 c85 c86 c87 c88 c89 c90 : Value) (u15 u16 u17 u18 u19 u20 u21 u22 u23 u24 u25 u26 u27 u28 u29 u30 u31 u32 u33 u34 u35 u36 u37 u38 u39 u40 u41 u42 u43 u44 u45 u46 u47 u48 u49 u50 u51 u52 u53 u54 u55 u56 u57 u58 u59 u60 u61 u62 u63 u64 u65 u66 u67 u68 u69 u70 u71 u72 : Value) (Q : Exit → Act → World → Prop)
    (hQ : ∀ (u15 u16 u17 u18 u19 u20 u21 u22 u23 u24 u25 u26 u27 u28 u29 u30 u31 u32 u33 u34 u35 u36 u37 u38 u39 u40 u41 u42 u43 u44 u45 u46 u47 u48 u49 u50 u51 u52 u53 u54 u55 u56 u57 u58 u59 u60 u61 u62 u63 u64 u65 u66 u67 u68 u69 u70 u71 u72 : Value) (w2 : World), MkI W1 T (makeK x) w2 → Q .normal ⟨#[.int .i64 (i : Nat), c1, c2, .pointer (some ⟨A, 0, none⟩), .pointer (some ⟨R, 0, none⟩), c5, .pointer (some ⟨T, 0, none⟩), c7, c8, c9, c10, c11, c12, c13, (.int .i64 4), u15, u16, u17, u18, u19, u20, u21, u22, u23, u24, u25, u26, u27, u28, u29, u30, u31, u32, u33, u34, u35, u36, u37, u38, u39, u40, u41, u42, u43, u44, u45, u46, u47, u48, u49, u50, u51, u52, u53, u54, u55, u56, u57, u58, u59, u60, u61, u62, u63, u64, u65, u66, u67, u68, u69, u70, u71, u72, c73, c74, c75, c76, c77, c78, c79, c80, c81, c82, c83, c84, c85, c86, c87, c88, c89, c90], []⟩ w2) (hP : ∀ c a a2 w2, a2.defers = a.defers → Q (.panic c) a w2 → Q (.panic c) a2 w2) :
    mkBlk.wp Tryz.prog Q ⟨#[.int .i64 (i : Nat), c1, c2, .pointer (some ⟨A, 0, none⟩), .pointer (some ⟨R, 0, none⟩), c5, .pointer (some ⟨T, 0, none⟩), c7, c8, c9, c10, c11, c12, c13, (.int .i64 4), u15, u16, u17, u18, u19, u20, u21, u22, u23, u24, u25, u26, u27, u28, u29, u30, u31, u32, u33, u34, u35, u36, u37, u38, u39, u40, u41, u42, u43, u44, u45, u46, u47, u48, u49, u50, u51, u52, u53, u54, u55, u56, u57, u58, u59, u60, u61, u62, u63, u64, u65, u66, u67, u68, u69, u70, u71, u72, c73, c74, c75, c76, c77, c78, c79, c80, c81, c82, c83, c84, c85, c86, c87, c88, c89, c90], []⟩ W1 := by
  have HQ := Lib.hid hQ
  have HP := Lib.hid hP
  have HC := Lib.hid C
  have HK := Lib.hid hk
  have hTl := Go.Proofs.YtgbihmafmmeicaaGreatDoor.hlt C.t
  have hRl := Go.Proofs.YtgbihmafmmeicaaGreatDoor.hlt C.r
  have k0 : W1.cell? ⟨A, 0, none⟩ = some (.int .i64 x.a) := blk_cell C.a 0
  have k1 : W1.cell? ⟨A, 1, none⟩ = some (.int .i64 x.b) := blk_cell C.a 1
  have k2 : W1.cell? ⟨A, 2, none⟩ = some (.int .i64 x.c) := blk_cell C.a 2
  have k3 : W1.cell? ⟨A, 3, none⟩ = some (.int .i64 x.d) := blk_cell C.a 3
  have k4 : W1.cell? ⟨A, 4, none⟩ = some (.int .i64 x.e) := blk_cell C.a 4
  have k5 : W1.cell? ⟨A, 5, none⟩ = some (.int .i64 x.f) := blk_cell C.a 5
  have HEQ : Hid (makeK x = { revF x with lang := strL [101, 110] }) := Lib.hid (by unfold makeK; dsimp only; rw [hk]; rfl)
  have c1 := Lib.hid (revision_any x ⟨C.xc, C.xd, C.xe, C.xf⟩ W1)
  unfold sixCells at c1
  clear C hQ hP hk
  conv => arg 2; whnf
  go_wp2_with fail
  refine c1.out.mono ?_
  rintro e w2 ⟨y, rfl, hy, hok, hb⟩
  have HY := Lib.hid hy
  have HOK := Lib.hid hok
  have HB := Lib.hid hb
  have HT := Lib.hid ((hb.block T hTl).trans HC.out.t)
  clear hy hok hb k0 k1 k2 k3 k4 k5 c1
  go_upto_region 11 with ((with_reducible refine at_fstore _ _ rfl ?_); go_must (refine wpList_store_rowTo rfl 45 _ _ rfl rfl T (y).cells (by first | (simp [Act.eval]; done) | simp [Act.eval, Act.put]) (by first | (simp [Act.eval]; done) | (simp [Act.eval, Act.put] <;> rfl)) 45 _ HT.out (by rw [fct_size, FctE.size]) (by rfl) (y).one ?_))
  have hM := MkI.put (f := revF x) HY.out HB.out hTl HC.out.t HOK.out
  generalize w2.setRow T y.cells = w3 at *
  obtain ⟨y3, hy3, hT3, hok3, hu3⟩ := hM
  have HY3 := Lib.hid hy3
  have HOK3 := Lib.hid hok3
  have HU3 := Lib.hid hu3
  have HT3 := Lib.hid hT3
  have k4 : w3.cell? ⟨T, 4, none⟩ = some (.string y3.f.lang) := blk_cell hT3 4
  have f4 := blk_free hT3 4
  clear hy3 hT3 hok3 hu3
  go_wp2_with fail
  have hcc := blk_set (j := 4) (u := .string ⟨#[101, 110]⟩) HT3.out
  have hu4 := upd_cell w3 T 4 (.string ⟨#[101, 110]⟩)
  have hf := HOK3.out.fok
  have hzz := HU3.out.size
  exact HQ.out _ _ _ _ _ _ _ _ _ _ _ _ _ _ _ _ _ _ _ _ _ _ _ _ _ _ _ _ _ _ _ _ _ _ _ _ _ _ _ _ _ _ _ _ _ _ _ _ _ _ _ _ _ _ _ _ _ _ _ ⟨⟨{ y3.f with lang := strL [101, 110] }, y3.ta, y3.tc, y3.ba, y3.bc, y3.aa, y3.ac⟩, by rw [HEQ.out, HY3.out], hcc, ⟨⟨hf.i0, hf.i1, hf.i2, hf.i3, en_ok, hf.i5, hf.i6, hf.s7, hf.s8, hf.i11, hf.i13, hf.i14, hf.i15, hf.i16, hf.i17, hf.s18, hf.s19, hf.i20, hf.i21, hf.i22, hf.bl⟩, HOK3.out.parts.mono (memFr_mono hu4 (fun b _ h => ⟨h, fun e => h (by omega)⟩))⟩, HU3.out.trans hu4 (fun b e => .inl e)⟩
set_option maxRecDepth 100000 in
set_option maxHeartbeats 4000000 in
theorem mk_k5 {A R T : Nat} {x : Six} {W1 : World} (C : MkC A R T x W1) (hk : pickF x.a 16 = 5) (i : Nat) (c1 c2 c5 c7 c8 c9 c10 c11 c12 c13 c73 c74 c75 c76 c77 c78 c79 c80 c81 c82 c83 c84 c85 c86 c87 c88 c89 c90 : Value) (u15 u16 u17 u18 u19 u20 u21 u22 u23 u24 u25 u26 u27 u28 u29 u30 u31 u32 u33 u34 u35 u36 u37 u38 u39 u40 u41 u42 u43 u44 u45 u46 u47 u48 u49 u50 u51 u52 u53 u54 u55 u56 u57 u58 u59 u60 u61 u62 u63 u64 u65 u66 u67 u68 u69 u70 u71 u72 : Value) (Q : Exit → Act → World → Prop)
    (hQ : ∀ (u15 u16 u17 u18 u19 u20 u21 u22 u23 u24 u25 u26 u27 u28 u29 u30 u31 u32 u33 u34 u35 u36 u37 u38 u39 u40 u41 u42 u43 u44 u45 u46 u47 u48 u49 u50 u51 u52 u53 u54 u55 u56 u57 u58 u59 u60 u61 u62 u63 u64 u65 u66 u67 u68 u69 u70 u71 u72 : Value) (w2 : World), MkI W1 T (makeK x) w2 → Q .normal ⟨#[.int .i64 (i : Nat), c1, c2, .pointer (some ⟨A, 0, none⟩), .pointer (some ⟨R, 0, none⟩), c5, .pointer (some ⟨T, 0, none⟩), c7, c8, c9, c10, c11, c12, c13, (.int .i64 5), u15, u16, u17, u18, u19, u20, u21, u22, u23, u24, u25, u26, u27, u28, u29, u30, u31, u32, u33, u34, u35, u36, u37, u38, u39, u40, u41, u42, u43, u44, u45, u46, u47, u48, u49, u50, u51, u52, u53, u54, u55, u56, u57, u58, u59, u60, u61, u62, u63, u64, u65, u66, u67, u68, u69, u70, u71, u72, c73, c74, c75, c76, c77, c78, c79, c80, c81, c82, c83, c84, c85, c86, c87, c88, c89, c90], []⟩ w2) (hP : ∀ c a a2 w2, a2.defers = a.defers → Q (.panic c) a w2 → Q (.panic c) a2 w2) :
    mkBlk.wp Tryz.prog Q ⟨#[.int .i64 (i : Nat), c1, c2, .pointer (some ⟨A, 0, none⟩), .pointer (some ⟨R, 0, none⟩), c5, .pointer (some ⟨T, 0, none⟩), c7, c8, c9, c10, c11, c12, c13, (.int .i64 5), u15, u16, u17, u18, u19, u20, u21, u22, u23, u24, u25, u26, u27, u28, u29, u30, u31, u32, u33, u34, u35, u36, u37, u38, u39, u40, u41, u42, u43, u44, u45, u46, u47, u48, u49, u50, u51, u52, u53, u54, u55, u56, u57, u58, u59, u60, u61, u62, u63, u64, u65, u66, u67, u68, u69, u70, u71, u72, c73, c74, c75, c76, c77, c78, c79, c80, c81, c82, c83, c84, c85, c86, c87, c88, c89, c90], []⟩ W1 := by
  have HQ := Lib.hid hQ
  have HP := Lib.hid hP
  have HC := Lib.hid C
  have HK := Lib.hid hk
  have hTl := Go.Proofs.YtgbihmafmmeicaaGreatDoor.hlt C.t
  have hRl := Go.Proofs.YtgbihmafmmeicaaGreatDoor.hlt C.r
  have k0 : W1.cell? ⟨A, 0, none⟩ = some (.int .i64 x.a) := blk_cell C.a 0
  have k1 : W1.cell? ⟨A, 1, none⟩ = some (.int .i64 x.b) := blk_cell C.a 1
  have k2 : W1.cell? ⟨A, 2, none⟩ = some (.int .i64 x.c) := blk_cell C.a 2
  have k3 : W1.cell? ⟨A, 3, none⟩ = some (.int .i64 x.d) := blk_cell C.a 3
  have k4 : W1.cell? ⟨A, 4, none⟩ = some (.int .i64 x.e) := blk_cell C.a 4
  have k5 : W1.cell? ⟨A, 5, none⟩ = some (.int .i64 x.f) := blk_cell C.a 5
  have HEQ : Hid (makeK x = { fct0 with kind := 2, editor := 1 + pickF x.d 3 }) := Lib.hid (by unfold makeK; dsimp only; rw [hk]; rfl)
  obtain ⟨p0, p1⟩ := pickF_lt (c := x.d) (n := 3) (by omega)
  have c1 := Lib.hid (fun W => pick_any x.d 3 C.xd (by omega) (by omega) W)
  have HPP := Lib.hid (And.intro p0 p1)
  generalize hpp : pickF x.d 3 = pp at *
  have HT := Lib.hid C.t
  clear C hQ hP hk
  conv => arg 2; whnf
  go_wp2_with fail
  refine (c1.out _).mono ?_
  rintro e w1 ⟨rfl, rfl⟩
  go_wp2_with (first
    | ((with_reducible refine at_fbuild _ rfl ?_); go_must (refine wpList_buildTo rfl 45 _ rfl _ rfl _ (by simp [Act.eval]; exact fb2 _) ?_))
    | ((with_reducible refine at_fstore _ _ rfl ?_); go_must (refine wpList_store_rowTo rfl 45 _ _ rfl rfl T (plainE { fct0 with kind := 2, editor := 1 + pp }).cells (by first | (simp [Act.eval]; done) | simp [Act.eval, Act.put]) (by first | (simp [Act.eval]; done) | (simp [Act.eval, Act.put] <;> rfl)) 45 _ HT.out (by rw [fct_size, FctE.size]) (by rfl) (plainE { fct0 with kind := 2, editor := 1 + pp }).one ?_)))
  exact HQ.out _ _ _ _ _ _ _ _ _ _ _ _ _ _ _ _ _ _ _ _ _ _ _ _ _ _ _ _ _ _ _ _ _ _ _ _ _ _ _ _ _ _ _ _ _ _ _ _ _ _ _ _ _ _ _ _ _ _ _ (MkI.put (y := plainE { fct0 with kind := 2, editor := 1 + pp }) (f := makeK x) (by rw [HEQ.out]; rfl)  (Below.refl _ _) hTl HC.out.t (plain_ok (by have z := fok_zero; exact ⟨z.i0, z.i1, okS (by show -1000 ≤ (2 : Int); omega) (by show (2 : Int) ≤ 1000; omega), z.i3, z.s4, z.i5, z.i6, z.s7, z.s8, z.i11, z.i13, z.i14, okS (by show -1000 ≤ 1 + pp; omega) (by show 1 + pp ≤ 1000; omega), z.i16, z.i17, z.s18, z.s19, z.i20, z.i21, z.i22, z.bl⟩) rfl rfl rfl))
set_option maxRecDepth 100000 in
set_option maxHeartbeats 4000000 in
theorem mk_k6 {A R T : Nat} {x : Six} {W1 : World} (C : MkC A R T x W1) (hk : pickF x.a 16 = 6) (i : Nat) (c1 c2 c5 c7 c8 c9 c10 c11 c12 c13 c73 c74 c75 c76 c77 c78 c79 c80 c81 c82 c83 c84 c85 c86 c87 c88 c89 c90 : Value) (u15 u16 u17 u18 u19 u20 u21 u22 u23 u24 u25 u26 u27 u28 u29 u30 u31 u32 u33 u34 u35 u36 u37 u38 u39 u40 u41 u42 u43 u44 u45 u46 u47 u48 u49 u50 u51 u52 u53 u54 u55 u56 u57 u58 u59 u60 u61 u62 u63 u64 u65 u66 u67 u68 u69 u70 u71 u72 : Value) (Q : Exit → Act → World → Prop)
    (hQ : ∀ (u15 u16 u17 u18 u19 u20 u21 u22 u23 u24 u25 u26 u27 u28 u29 u30 u31 u32 u33 u34 u35 u36 u37 u38 u39 u40 u41 u42 u43 u44 u45 u46 u47 u48 u49 u50 u51 u52 u53 u54 u55 u56 u57 u58 u59 u60 u61 u62 u63 u64 u65 u66 u67 u68 u69 u70 u71 u72 : Value) (w2 : World), MkI W1 T (makeK x) w2 → Q .normal ⟨#[.int .i64 (i : Nat), c1, c2, .pointer (some ⟨A, 0, none⟩), .pointer (some ⟨R, 0, none⟩), c5, .pointer (some ⟨T, 0, none⟩), c7, c8, c9, c10, c11, c12, c13, (.int .i64 6), u15, u16, u17, u18, u19, u20, u21, u22, u23, u24, u25, u26, u27, u28, u29, u30, u31, u32, u33, u34, u35, u36, u37, u38, u39, u40, u41, u42, u43, u44, u45, u46, u47, u48, u49, u50, u51, u52, u53, u54, u55, u56, u57, u58, u59, u60, u61, u62, u63, u64, u65, u66, u67, u68, u69, u70, u71, u72, c73, c74, c75, c76, c77, c78, c79, c80, c81, c82, c83, c84, c85, c86, c87, c88, c89, c90], []⟩ w2) (hP : ∀ c a a2 w2, a2.defers = a.defers → Q (.panic c) a w2 → Q (.panic c) a2 w2) :
    mkBlk.wp Tryz.prog Q ⟨#[.int .i64 (i : Nat), c1, c2, .pointer (some ⟨A, 0, none⟩), .pointer (some ⟨R, 0, none⟩), c5, .pointer (some ⟨T, 0, none⟩), c7, c8, c9, c10, c11, c12, c13, (.int .i64 6), u15, u16, u17, u18, u19, u20, u21, u22, u23, u24, u25, u26, u27, u28, u29, u30, u31, u32, u33, u34, u35, u36, u37, u38, u39, u40, u41, u42, u43, u44, u45, u46, u47, u48, u49, u50, u51, u52, u53, u54, u55, u56, u57, u58, u59, u60, u61, u62, u63, u64, u65, u66, u67, u68, u69, u70, u71, u72, c73, c74, c75, c76, c77, c78, c79, c80, c81, c82, c83, c84, c85, c86, c87, c88, c89, c90], []⟩ W1 := by
  have HQ := Lib.hid hQ
  have HP := Lib.hid hP
  have HC := Lib.hid C
  have HK := Lib.hid hk
  have hTl := Go.Proofs.YtgbihmafmmeicaaGreatDoor.hlt C.t
  have hRl := Go.Proofs.YtgbihmafmmeicaaGreatDoor.hlt C.r
  have k0 : W1.cell? ⟨A, 0, none⟩ = some (.int .i64 x.a) := blk_cell C.a 0
  have k1 : W1.cell? ⟨A, 1, none⟩ = some (.int .i64 x.b) := blk_cell C.a 1
  have k2 : W1.cell? ⟨A, 2, none⟩ = some (.int .i64 x.c) := blk_cell C.a 2
  have k3 : W1.cell? ⟨A, 3, none⟩ = some (.int .i64 x.d) := blk_cell C.a 3
  have k4 : W1.cell? ⟨A, 4, none⟩ = some (.int .i64 x.e) := blk_cell C.a 4
  have k5 : W1.cell? ⟨A, 5, none⟩ = some (.int .i64 x.f) := blk_cell C.a 5
  have HEQ : Hid (makeK x = { fct0 with kind := 3, lab := labelF x.d }) := Lib.hid (by unfold makeK; dsimp only; rw [hk]; rfl)
  have c1 := Lib.hid (mklab_any x.d C.xd W1)
  have HLO := Lib.hid (label_ok x.d)
  generalize hLL : labelF x.d = LL at *
  clear C hQ hP hk
  conv => arg 2; whnf
  go_wp2_with fail
  refine c1.out.mono ?_
  rintro e w2 ⟨av, rfl, hr, hb⟩
  obtain ⟨ao, cap, rfl⟩ := hr.shape
  have HR := Lib.hid hr
  have HB := Lib.hid hb
  have HT := Lib.hid ((hb.block T hTl).trans HC.out.t)
  clear hr hb k0 k1 k2 k3 k4 k5 c1
  go_wp2_with (first
    | ((with_reducible refine at_fbuild _ rfl ?_); go_must (refine wpList_buildTo rfl 45 _ rfl _ rfl _ (by simp [Act.eval]; exact fb3 _ _ _ _ _ _) ?_))
    | ((with_reducible refine at_fstore _ _ rfl ?_); go_must (refine wpList_store_rowTo rfl 45 _ _ rfl rfl T ((⟨{ fct0 with kind := 3, lab := LL }, none, 0, none, 0, ao, cap⟩ : FctE)).cells (by first | (simp [Act.eval]; done) | simp [Act.eval, Act.put]) (by first | (simp [Act.eval]; done) | (simp [Act.eval, Act.put] <;> rfl)) 45 _ HT.out (by rw [fct_size, FctE.size]) (by rfl) ((⟨{ fct0 with kind := 3, lab := LL }, none, 0, none, 0, ao, cap⟩ : FctE)).one ?_)))
  exact HQ.out _ _ _ _ _ _ _ _ _ _ _ _ _ _ _ _ _ _ _ _ _ _ _ _ _ _ _ _ _ _ _ _ _ _ _ _ _ _ _ _ _ _ _ _ _ _ _ _ _ _ _ _ _ _ _ _ _ _ _ (MkI.put (y := (⟨{ fct0 with kind := 3, lab := LL }, none, 0, none, 0, ao, cap⟩ : FctE)) (f := makeK x) (HEQ.out.symm) HB.out hTl HC.out.t (⟨by have z := fok_zero; exact ⟨z.i0, z.i1, okS (by show -1000 ≤ (3 : Int); omega) (by show (3 : Int) ≤ 1000; omega), z.i3, z.s4, z.i5, z.i6, z.s7, z.s8, HLO.out.1, HLO.out.2.1, HLO.out.2.2, z.i15, z.i16, z.i17, z.s18, z.s19, z.i20, z.i21, z.i22, z.bl⟩, (plain_ok fok_zero rfl rfl rfl).parts.1, (plain_ok fok_zero rfl rfl rfl).parts.2.1, HR.out.intsFr (fun b hb h => by have := HR.out.ge b hb; omega)⟩))
set_option maxRecDepth 100000 in
set_option maxHeartbeats 4000000 in
theorem mk_k7 {A R T : Nat} {x : Six} {W1 : World} (C : MkC A R T x W1) (hk : pickF x.a 16 = 7) (i : Nat) (c1 c2 c5 c7 c8 c9 c10 c11 c12 c13 c73 c74 c75 c76 c77 c78 c79 c80 c81 c82 c83 c84 c85 c86 c87 c88 c89 c90 : Value) (u15 u16 u17 u18 u19 u20 u21 u22 u23 u24 u25 u26 u27 u28 u29 u30 u31 u32 u33 u34 u35 u36 u37 u38 u39 u40 u41 u42 u43 u44 u45 u46 u47 u48 u49 u50 u51 u52 u53 u54 u55 u56 u57 u58 u59 u60 u61 u62 u63 u64 u65 u66 u67 u68 u69 u70 u71 u72 : Value) (Q : Exit → Act → World → Prop)
    (hQ : ∀ (u15 u16 u17 u18 u19 u20 u21 u22 u23 u24 u25 u26 u27 u28 u29 u30 u31 u32 u33 u34 u35 u36 u37 u38 u39 u40 u41 u42 u43 u44 u45 u46 u47 u48 u49 u50 u51 u52 u53 u54 u55 u56 u57 u58 u59 u60 u61 u62 u63 u64 u65 u66 u67 u68 u69 u70 u71 u72 : Value) (w2 : World), MkI W1 T (makeK x) w2 → Q .normal ⟨#[.int .i64 (i : Nat), c1, c2, .pointer (some ⟨A, 0, none⟩), .pointer (some ⟨R, 0, none⟩), c5, .pointer (some ⟨T, 0, none⟩), c7, c8, c9, c10, c11, c12, c13, (.int .i64 7), u15, u16, u17, u18, u19, u20, u21, u22, u23, u24, u25, u26, u27, u28, u29, u30, u31, u32, u33, u34, u35, u36, u37, u38, u39, u40, u41, u42, u43, u44, u45, u46, u47, u48, u49, u50, u51, u52, u53, u54, u55, u56, u57, u58, u59, u60, u61, u62, u63, u64, u65, u66, u67, u68, u69, u70, u71, u72, c73, c74, c75, c76, c77, c78, c79, c80, c81, c82, c83, c84, c85, c86, c87, c88, c89, c90], []⟩ w2) (hP : ∀ c a a2 w2, a2.defers = a.defers → Q (.panic c) a w2 → Q (.panic c) a2 w2) :
    mkBlk.wp Tryz.prog Q ⟨#[.int .i64 (i : Nat), c1, c2, .pointer (some ⟨A, 0, none⟩), .pointer (some ⟨R, 0, none⟩), c5, .pointer (some ⟨T, 0, none⟩), c7, c8, c9, c10, c11, c12, c13, (.int .i64 7), u15, u16, u17, u18, u19, u20, u21, u22, u23, u24, u25, u26, u27, u28, u29, u30, u31, u32, u33, u34, u35, u36, u37, u38, u39, u40, u41, u42, u43, u44, u45, u46, u47, u48, u49, u50, u51, u52, u53, u54, u55, u56, u57, u58, u59, u60, u61, u62, u63, u64, u65, u66, u67, u68, u69, u70, u71, u72, c73, c74, c75, c76, c77, c78, c79, c80, c81, c82, c83, c84, c85, c86, c87, c88, c89, c90], []⟩ W1 := by
  have HQ := Lib.hid hQ
  have HP := Lib.hid hP
  have HC := Lib.hid C
  have HK := Lib.hid hk
  have hTl := Go.Proofs.YtgbihmafmmeicaaGreatDoor.hlt C.t
  have hRl := Go.Proofs.YtgbihmafmmeicaaGreatDoor.hlt C.r
  have k0 : W1.cell? ⟨A, 0, none⟩ = some (.int .i64 x.a) := blk_cell C.a 0
  have k1 : W1.cell? ⟨A, 1, none⟩ = some (.int .i64 x.b) := blk_cell C.a 1
  have k2 : W1.cell? ⟨A, 2, none⟩ = some (.int .i64 x.c) := blk_cell C.a 2
  have k3 : W1.cell? ⟨A, 3, none⟩ = some (.int .i64 x.d) := blk_cell C.a 3
  have k4 : W1.cell? ⟨A, 4, none⟩ = some (.int .i64 x.e) := blk_cell C.a 4
  have k5 : W1.cell? ⟨A, 5, none⟩ = some (.int .i64 x.f) := blk_cell C.a 5
  have HEQ : Hid (makeK x = { fct0 with kind := 3, lab := labelF x.d }) := Lib.hid (by unfold makeK; dsimp only; rw [hk]; rfl)
  have c1 := Lib.hid (mklab_any x.d C.xd W1)
  have HLO := Lib.hid (label_ok x.d)
  generalize hLL : labelF x.d = LL at *
  clear C hQ hP hk
  conv => arg 2; whnf
  go_wp2_with fail
  refine c1.out.mono ?_
  rintro e w2 ⟨av, rfl, hr, hb⟩
  obtain ⟨ao, cap, rfl⟩ := hr.shape
  have HR := Lib.hid hr
  have HB := Lib.hid hb
  have HT := Lib.hid ((hb.block T hTl).trans HC.out.t)
  clear hr hb k0 k1 k2 k3 k4 k5 c1
  go_wp2_with (first
    | ((with_reducible refine at_fbuild _ rfl ?_); go_must (refine wpList_buildTo rfl 45 _ rfl _ rfl _ (by simp [Act.eval]; exact fb3 _ _ _ _ _ _) ?_))
    | ((with_reducible refine at_fstore _ _ rfl ?_); go_must (refine wpList_store_rowTo rfl 45 _ _ rfl rfl T ((⟨{ fct0 with kind := 3, lab := LL }, none, 0, none, 0, ao, cap⟩ : FctE)).cells (by first | (simp [Act.eval]; done) | simp [Act.eval, Act.put]) (by first | (simp [Act.eval]; done) | (simp [Act.eval, Act.put] <;> rfl)) 45 _ HT.out (by rw [fct_size, FctE.size]) (by rfl) ((⟨{ fct0 with kind := 3, lab := LL }, none, 0, none, 0, ao, cap⟩ : FctE)).one ?_)))
  exact HQ.out _ _ _ _ _ _ _ _ _ _ _ _ _ _ _ _ _ _ _ _ _ _ _ _ _ _ _ _ _ _ _ _ _ _ _ _ _ _ _ _ _ _ _ _ _ _ _ _ _ _ _ _ _ _ _ _ _ _ _ (MkI.put (y := (⟨{ fct0 with kind := 3, lab := LL }, none, 0, none, 0, ao, cap⟩ : FctE)) (f := makeK x) (HEQ.out.symm) HB.out hTl HC.out.t (⟨by have z := fok_zero; exact ⟨z.i0, z.i1, okS (by show -1000 ≤ (3 : Int); omega) (by show (3 : Int) ≤ 1000; omega), z.i3, z.s4, z.i5, z.i6, z.s7, z.s8, HLO.out.1, HLO.out.2.1, HLO.out.2.2, z.i15, z.i16, z.i17, z.s18, z.s19, z.i20, z.i21, z.i22, z.bl⟩, (plain_ok fok_zero rfl rfl rfl).parts.1, (plain_ok fok_zero rfl rfl rfl).parts.2.1, HR.out.intsFr (fun b hb h => by have := HR.out.ge b hb; omega)⟩))
set_option maxRecDepth 100000 in
set_option maxHeartbeats 4000000 in
theorem mk_k8 {A R T : Nat} {x : Six} {W1 : World} (C : MkC A R T x W1) (hk : pickF x.a 16 = 8) (i : Nat) (c1 c2 c5 c7 c8 c9 c10 c11 c12 c13 c73 c74 c75 c76 c77 c78 c79 c80 c81 c82 c83 c84 c85 c86 c87 c88 c89 c90 : Value) (u15 u16 u17 u18 u19 u20 u21 u22 u23 u24 u25 u26 u27 u28 u29 u30 u31 u32 u33 u34 u35 u36 u37 u38 u39 u40 u41 u42 u43 u44 u45 u46 u47 u48 u49 u50 u51 u52 u53 u54 u55 u56 u57 u58 u59 u60 u61 u62 u63 u64 u65 u66 u67 u68 u69 u70 u71 u72 : Value) (Q : Exit → Act → World → Prop)
    (hQ : ∀ (u15 u16 u17 u18 u19 u20 u21 u22 u23 u24 u25 u26 u27 u28 u29 u30 u31 u32 u33 u34 u35 u36 u37 u38 u39 u40 u41 u42 u43 u44 u45 u46 u47 u48 u49 u50 u51 u52 u53 u54 u55 u56 u57 u58 u59 u60 u61 u62 u63 u64 u65 u66 u67 u68 u69 u70 u71 u72 : Value) (w2 : World), MkI W1 T (makeK x) w2 → Q .normal ⟨#[.int .i64 (i : Nat), c1, c2, .pointer (some ⟨A, 0, none⟩), .pointer (some ⟨R, 0, none⟩), c5, .pointer (some ⟨T, 0, none⟩), c7, c8, c9, c10, c11, c12, c13, (.int .i64 8), u15, u16, u17, u18, u19, u20, u21, u22, u23, u24, u25, u26, u27, u28, u29, u30, u31, u32, u33, u34, u35, u36, u37, u38, u39, u40, u41, u42, u43, u44, u45, u46, u47, u48, u49, u50, u51, u52, u53, u54, u55, u56, u57, u58, u59, u60, u61, u62, u63, u64, u65, u66, u67, u68, u69, u70, u71, u72, c73, c74, c75, c76, c77, c78, c79, c80, c81, c82, c83, c84, c85, c86, c87, c88, c89, c90], []⟩ w2) (hP : ∀ c a a2 w2, a2.defers = a.defers → Q (.panic c) a w2 → Q (.panic c) a2 w2) :
    mkBlk.wp Tryz.prog Q ⟨#[.int .i64 (i : Nat), c1, c2, .pointer (some ⟨A, 0, none⟩), .pointer (some ⟨R, 0, none⟩), c5, .pointer (some ⟨T, 0, none⟩), c7, c8, c9, c10, c11, c12, c13, (.int .i64 8), u15, u16, u17, u18, u19, u20, u21, u22, u23, u24, u25, u26, u27, u28, u29, u30, u31, u32, u33, u34, u35, u36, u37, u38, u39, u40, u41, u42, u43, u44, u45, u46, u47, u48, u49, u50, u51, u52, u53, u54, u55, u56, u57, u58, u59, u60, u61, u62, u63, u64, u65, u66, u67, u68, u69, u70, u71, u72, c73, c74, c75, c76, c77, c78, c79, c80, c81, c82, c83, c84, c85, c86, c87, c88, c89, c90], []⟩ W1 := by
  have HQ := Lib.hid hQ
  have HP := Lib.hid hP
  have HC := Lib.hid C
  have HK := Lib.hid hk
  have hTl := Go.Proofs.YtgbihmafmmeicaaGreatDoor.hlt C.t
  have hRl := Go.Proofs.YtgbihmafmmeicaaGreatDoor.hlt C.r
  have k0 : W1.cell? ⟨A, 0, none⟩ = some (.int .i64 x.a) := blk_cell C.a 0
  have k1 : W1.cell? ⟨A, 1, none⟩ = some (.int .i64 x.b) := blk_cell C.a 1
  have k2 : W1.cell? ⟨A, 2, none⟩ = some (.int .i64 x.c) := blk_cell C.a 2
  have k3 : W1.cell? ⟨A, 3, none⟩ = some (.int .i64 x.d) := blk_cell C.a 3
  have k4 : W1.cell? ⟨A, 4, none⟩ = some (.int .i64 x.e) := blk_cell C.a 4
  have k5 : W1.cell? ⟨A, 5, none⟩ = some (.int .i64 x.f) := blk_cell C.a 5
  have HEQ : Hid (makeK x = { fct0 with kind := 3, lab := labelF x.d }) := Lib.hid (by unfold makeK; dsimp only; rw [hk]; rfl)
  have c1 := Lib.hid (mklab_any x.d C.xd W1)
  have HLO := Lib.hid (label_ok x.d)
  generalize hLL : labelF x.d = LL at *
  clear C hQ hP hk
  conv => arg 2; whnf
  go_wp2_with fail
  refine c1.out.mono ?_
  rintro e w2 ⟨av, rfl, hr, hb⟩
  obtain ⟨ao, cap, rfl⟩ := hr.shape
  have HR := Lib.hid hr
  have HB := Lib.hid hb
  have HT := Lib.hid ((hb.block T hTl).trans HC.out.t)
  clear hr hb k0 k1 k2 k3 k4 k5 c1
  go_wp2_with (first
    | ((with_reducible refine at_fbuild _ rfl ?_); go_must (refine wpList_buildTo rfl 45 _ rfl _ rfl _ (by simp [Act.eval]; exact fb3 _ _ _ _ _ _) ?_))
    | ((with_reducible refine at_fstore _ _ rfl ?_); go_must (refine wpList_store_rowTo rfl 45 _ _ rfl rfl T ((⟨{ fct0 with kind := 3, lab := LL }, none, 0, none, 0, ao, cap⟩ : FctE)).cells (by first | (simp [Act.eval]; done) | simp [Act.eval, Act.put]) (by first | (simp [Act.eval]; done) | (simp [Act.eval, Act.put] <;> rfl)) 45 _ HT.out (by rw [fct_size, FctE.size]) (by rfl) ((⟨{ fct0 with kind := 3, lab := LL }, none, 0, none, 0, ao, cap⟩ : FctE)).one ?_)))
  exact HQ.out _ _ _ _ _ _ _ _ _ _ _ _ _ _ _ _ _ _ _ _ _ _ _ _ _ _ _ _ _ _ _ _ _ _ _ _ _ _ _ _ _ _ _ _ _ _ _ _ _ _ _ _ _ _ _ _ _ _ _ (MkI.put (y := (⟨{ fct0 with kind := 3, lab := LL }, none, 0, none, 0, ao, cap⟩ : FctE)) (f := makeK x) (HEQ.out.symm) HB.out hTl HC.out.t (⟨by have z := fok_zero; exact ⟨z.i0, z.i1, okS (by show -1000 ≤ (3 : Int); omega) (by show (3 : Int) ≤ 1000; omega), z.i3, z.s4, z.i5, z.i6, z.s7, z.s8, HLO.out.1, HLO.out.2.1, HLO.out.2.2, z.i15, z.i16, z.i17, z.s18, z.s19, z.i20, z.i21, z.i22, z.bl⟩, (plain_ok fok_zero rfl rfl rfl).parts.1, (plain_ok fok_zero rfl rfl rfl).parts.2.1, HR.out.intsFr (fun b hb h => by have := HR.out.ge b hb; omega)⟩))
set_option maxRecDepth 100000 in
set_option maxHeartbeats 4000000 in
theorem mk_k9 {A R T : Nat} {x : Six} {W1 : World} (C : MkC A R T x W1) (hk : pickF x.a 16 = 9) (i : Nat) (c1 c2 c5 c7 c8 c9 c10 c11 c12 c13 c73 c74 c75 c76 c77 c78 c79 c80 c81 c82 c83 c84 c85 c86 c87 c88 c89 c90 : Value) (u15 u16 u17 u18 u19 u20 u21 u22 u23 u24 u25 u26 u27 u28 u29 u30 u31 u32 u33 u34 u35 u36 u37 u38 u39 u40 u41 u42 u43 u44 u45 u46 u47 u48 u49 u50 u51 u52 u53 u54 u55 u56 u57 u58 u59 u60 u61 u62 u63 u64 u65 u66 u67 u68 u69 u70 u71 u72 : Value) (Q : Exit → Act → World → Prop)
    (hQ : ∀ (u15 u16 u17 u18 u19 u20 u21 u22 u23 u24 u25 u26 u27 u28 u29 u30 u31 u32 u33 u34 u35 u36 u37 u38 u39 u40 u41 u42 u43 u44 u45 u46 u47 u48 u49 u50 u51 u52 u53 u54 u55 u56 u57 u58 u59 u60 u61 u62 u63 u64 u65 u66 u67 u68 u69 u70 u71 u72 : Value) (w2 : World), MkI W1 T (makeK x) w2 → Q .normal ⟨#[.int .i64 (i : Nat), c1, c2, .pointer (some ⟨A, 0, none⟩), .pointer (some ⟨R, 0, none⟩), c5, .pointer (some ⟨T, 0, none⟩), c7, c8, c9, c10, c11, c12, c13, (.int .i64 9), u15, u16, u17, u18, u19, u20, u21, u22, u23, u24, u25, u26, u27, u28, u29, u30, u31, u32, u33, u34, u35, u36, u37, u38, u39, u40, u41, u42, u43, u44, u45, u46, u47, u48, u49, u50, u51, u52, u53, u54, u55, u56, u57, u58, u59, u60, u61, u62, u63, u64, u65, u66, u67, u68, u69, u70, u71, u72, c73, c74, c75, c76, c77, c78, c79, c80, c81, c82, c83, c84, c85, c86, c87, c88, c89, c90], []⟩ w2) (hP : ∀ c a a2 w2, a2.defers = a.defers → Q (.panic c) a w2 → Q (.panic c) a2 w2) :
    mkBlk.wp Tryz.prog Q ⟨#[.int .i64 (i : Nat), c1, c2, .pointer (some ⟨A, 0, none⟩), .pointer (some ⟨R, 0, none⟩), c5, .pointer (some ⟨T, 0, none⟩), c7, c8, c9, c10, c11, c12, c13, (.int .i64 9), u15, u16, u17, u18, u19, u20, u21, u22, u23, u24, u25, u26, u27, u28, u29, u30, u31, u32, u33, u34, u35, u36, u37, u38, u39, u40, u41, u42, u43, u44, u45, u46, u47, u48, u49, u50, u51, u52, u53, u54, u55, u56, u57, u58, u59, u60, u61, u62, u63, u64, u65, u66, u67, u68, u69, u70, u71, u72, c73, c74, c75, c76, c77, c78, c79, c80, c81, c82, c83, c84, c85, c86, c87, c88, c89, c90], []⟩ W1 := by
  have HQ := Lib.hid hQ
  have HP := Lib.hid hP
  have HC := Lib.hid C
  have HK := Lib.hid hk
  have hTl := Go.Proofs.YtgbihmafmmeicaaGreatDoor.hlt C.t
  have hRl := Go.Proofs.YtgbihmafmmeicaaGreatDoor.hlt C.r
  have k0 : W1.cell? ⟨A, 0, none⟩ = some (.int .i64 x.a) := blk_cell C.a 0
  have k1 : W1.cell? ⟨A, 1, none⟩ = some (.int .i64 x.b) := blk_cell C.a 1
  have k2 : W1.cell? ⟨A, 2, none⟩ = some (.int .i64 x.c) := blk_cell C.a 2
  have k3 : W1.cell? ⟨A, 3, none⟩ = some (.int .i64 x.d) := blk_cell C.a 3
  have k4 : W1.cell? ⟨A, 4, none⟩ = some (.int .i64 x.e) := blk_cell C.a 4
  have k5 : W1.cell? ⟨A, 5, none⟩ = some (.int .i64 x.f) := blk_cell C.a 5
  have HEQ : Hid (makeK x = { fct0 with kind := 3, lab := labelF x.d }) := Lib.hid (by unfold makeK; dsimp only; rw [hk]; rfl)
  have c1 := Lib.hid (mklab_any x.d C.xd W1)
  have HLO := Lib.hid (label_ok x.d)
  generalize hLL : labelF x.d = LL at *
  clear C hQ hP hk
  conv => arg 2; whnf
  go_wp2_with fail
  refine c1.out.mono ?_
  rintro e w2 ⟨av, rfl, hr, hb⟩
  obtain ⟨ao, cap, rfl⟩ := hr.shape
  have HR := Lib.hid hr
  have HB := Lib.hid hb
  have HT := Lib.hid ((hb.block T hTl).trans HC.out.t)
  clear hr hb k0 k1 k2 k3 k4 k5 c1
  go_wp2_with (first
    | ((with_reducible refine at_fbuild _ rfl ?_); go_must (refine wpList_buildTo rfl 45 _ rfl _ rfl _ (by simp [Act.eval]; exact fb3 _ _ _ _ _ _) ?_))
    | ((with_reducible refine at_fstore _ _ rfl ?_); go_must (refine wpList_store_rowTo rfl 45 _ _ rfl rfl T ((⟨{ fct0 with kind := 3, lab := LL }, none, 0, none, 0, ao, cap⟩ : FctE)).cells (by first | (simp [Act.eval]; done) | simp [Act.eval, Act.put]) (by first | (simp [Act.eval]; done) | (simp [Act.eval, Act.put] <;> rfl)) 45 _ HT.out (by rw [fct_size, FctE.size]) (by rfl) ((⟨{ fct0 with kind := 3, lab := LL }, none, 0, none, 0, ao, cap⟩ : FctE)).one ?_)))
  exact HQ.out _ _ _ _ _ _ _ _ _ _ _ _ _ _ _ _ _ _ _ _ _ _ _ _ _ _ _ _ _ _ _ _ _ _ _ _ _ _ _ _ _ _ _ _ _ _ _ _ _ _ _ _ _ _ _ _ _ _ _ (MkI.put (y := (⟨{ fct0 with kind := 3, lab := LL }, none, 0, none, 0, ao, cap⟩ : FctE)) (f := makeK x) (HEQ.out.symm) HB.out hTl HC.out.t (⟨by have z := fok_zero; exact ⟨z.i0, z.i1, okS (by show -1000 ≤ (3 : Int); omega) (by show (3 : Int) ≤ 1000; omega), z.i3, z.s4, z.i5, z.i6, z.s7, z.s8, HLO.out.1, HLO.out.2.1, HLO.out.2.2, z.i15, z.i16, z.i17, z.s18, z.s19, z.i20, z.i21, z.i22, z.bl⟩, (plain_ok fok_zero rfl rfl rfl).parts.1, (plain_ok fok_zero rfl rfl rfl).parts.2.1, HR.out.intsFr (fun b hb h => by have := HR.out.ge b hb; omega)⟩))
set_option maxRecDepth 100000 in
set_option maxHeartbeats 4000000 in
theorem mk_k10 {A R T : Nat} {x : Six} {W1 : World} (C : MkC A R T x W1) (hk : pickF x.a 16 = 10) (i : Nat) (c1 c2 c5 c7 c8 c9 c10 c11 c12 c13 c73 c74 c75 c76 c77 c78 c79 c80 c81 c82 c83 c84 c85 c86 c87 c88 c89 c90 : Value) (u15 u16 u17 u18 u19 u20 u21 u22 u23 u24 u25 u26 u27 u28 u29 u30 u31 u32 u33 u34 u35 u36 u37 u38 u39 u40 u41 u42 u43 u44 u45 u46 u47 u48 u49 u50 u51 u52 u53 u54 u55 u56 u57 u58 u59 u60 u61 u62 u63 u64 u65 u66 u67 u68 u69 u70 u71 u72 : Value) (Q : Exit → Act → World → Prop)
    (hQ : ∀ (u15 u16 u17 u18 u19 u20 u21 u22 u23 u24 u25 u26 u27 u28 u29 u30 u31 u32 u33 u34 u35 u36 u37 u38 u39 u40 u41 u42 u43 u44 u45 u46 u47 u48 u49 u50 u51 u52 u53 u54 u55 u56 u57 u58 u59 u60 u61 u62 u63 u64 u65 u66 u67 u68 u69 u70 u71 u72 : Value) (w2 : World), MkI W1 T (makeK x) w2 → Q .normal ⟨#[.int .i64 (i : Nat), c1, c2, .pointer (some ⟨A, 0, none⟩), .pointer (some ⟨R, 0, none⟩), c5, .pointer (some ⟨T, 0, none⟩), c7, c8, c9, c10, c11, c12, c13, (.int .i64 10), u15, u16, u17, u18, u19, u20, u21, u22, u23, u24, u25, u26, u27, u28, u29, u30, u31, u32, u33, u34, u35, u36, u37, u38, u39, u40, u41, u42, u43, u44, u45, u46, u47, u48, u49, u50, u51, u52, u53, u54, u55, u56, u57, u58, u59, u60, u61, u62, u63, u64, u65, u66, u67, u68, u69, u70, u71, u72, c73, c74, c75, c76, c77, c78, c79, c80, c81, c82, c83, c84, c85, c86, c87, c88, c89, c90], []⟩ w2) (hP : ∀ c a a2 w2, a2.defers = a.defers → Q (.panic c) a w2 → Q (.panic c) a2 w2) :
    mkBlk.wp Tryz.prog Q ⟨#[.int .i64 (i : Nat), c1, c2, .pointer (some ⟨A, 0, none⟩), .pointer (some ⟨R, 0, none⟩), c5, .pointer (some ⟨T, 0, none⟩), c7, c8, c9, c10, c11, c12, c13, (.int .i64 10), u15, u16, u17, u18, u19, u20, u21, u22, u23, u24, u25, u26, u27, u28, u29, u30, u31, u32, u33, u34, u35, u36, u37, u38, u39, u40, u41, u42, u43, u44, u45, u46, u47, u48, u49, u50, u51, u52, u53, u54, u55, u56, u57, u58, u59, u60, u61, u62, u63, u64, u65, u66, u67, u68, u69, u70, u71, u72, c73, c74, c75, c76, c77, c78, c79, c80, c81, c82, c83, c84, c85, c86, c87, c88, c89, c90], []⟩ W1 := by
  have HQ := Lib.hid hQ
  have HP := Lib.hid hP
  have HC := Lib.hid C
  have HK := Lib.hid hk
  have hTl := Go.Proofs.YtgbihmafmmeicaaGreatDoor.hlt C.t
  have hRl := Go.Proofs.YtgbihmafmmeicaaGreatDoor.hlt C.r
  have k0 : W1.cell? ⟨A, 0, none⟩ = some (.int .i64 x.a) := blk_cell C.a 0
  have k1 : W1.cell? ⟨A, 1, none⟩ = some (.int .i64 x.b) := blk_cell C.a 1
  have k2 : W1.cell? ⟨A, 2, none⟩ = some (.int .i64 x.c) := blk_cell C.a 2
  have k3 : W1.cell? ⟨A, 3, none⟩ = some (.int .i64 x.d) := blk_cell C.a 3
  have k4 : W1.cell? ⟨A, 4, none⟩ = some (.int .i64 x.e) := blk_cell C.a 4
  have k5 : W1.cell? ⟨A, 5, none⟩ = some (.int .i64 x.f) := blk_cell C.a 5
  have HEQ : Hid (makeK x = { fct0 with kind := 4, lang := strL [101, 110], block := 1 + pickF x.d 4, sentence := pickF x.e 3, text := wordF x.f }) := Lib.hid (by unfold makeK; dsimp only; rw [hk]; rfl)
  have c1 := Lib.hid (fun W => pick_any x.d 4 C.xd (by omega) (by omega) W)
  have c2 := Lib.hid (fun W => pick_any x.e 3 C.xe (by omega) (by omega) W)
  have c3 := Lib.hid (fun W => word_any x.f C.xf W)
  obtain ⟨d0, d1⟩ := pickF_lt (c := x.d) (n := 4) (by omega)
  obtain ⟨e0, e1⟩ := pickF_lt (c := x.e) (n := 3) (by omega)
  have HWO := Lib.hid (word_ok x.f)
  generalize pickF x.d 4 = pd at *
  generalize pickF x.e 3 = pe at *
  generalize wordF x.f = WD at *
  have HBU : Hid (Tryz.prog.built 45 [(2, .int .i64 4), (4, .string ⟨#[101, 110]⟩), (13, .int .i64 (1 + pd)), (14, .int .i64 pe), (15, .string WD)] = some (plainE { fct0 with kind := 4, lang := strL [101, 110], block := 1 + pd, sentence := pe, text := WD }).cells) := Lib.hid (fb4 _ _ _)
  have HA : Hid (W1.drew.heap[A]? = some (.cells (sixCells x) 62 (0, 0))) := Lib.hid C.a
  clear C hQ hP hk
  conv => arg 2; whnf
  clear k0 k1 k2 k3 k4 k5
  go_wp2_with fail
  refine wp_sch (.take 0 (.take 1 (.take 4 (.take 5 (.take 7 (.take 8 (.only 2 (.take 3 (.only 6 (.only 9 (.take 10 (.last 11 .done)))))))))))) 11 (fun W2 => W2.heap[A]? = some (.cells (sixCells x) 62 (0, 0))) (by kernel_rfl) (by kernel_rfl) HA.out ?_
  refine wpSch_take rfl (.pointer (some ⟨A, 3, none⟩)) (fun _ _ _ _ h => HP.out _ _ _ _ (by rfl) h) HA.out (by rfl) (fun W2 hW => by go_simp) ?_
  simp only [Act.put, List.setIfInBounds_toArray, List.set_cons_zero, List.set_cons_succ]
  refine wpSch_take rfl (.int .i64 x.d) (fun _ _ _ _ h => HP.out _ _ _ _ (by rfl) h) HA.out (by rfl) (fun W2 hW => by have q0 : W2.cell? ⟨A, 3, none⟩ = some (.int .i64 x.d) := blk_cell hW 3; go_simp) ?_
  simp only [Act.put, List.setIfInBounds_toArray, List.set_cons_zero, List.set_cons_succ]
  refine wpSch_take rfl (.pointer (some ⟨A, 4, none⟩)) (fun _ _ _ _ h => HP.out _ _ _ _ (by rfl) h) HA.out (by rfl) (fun W2 hW => by go_simp) ?_
  simp only [Act.put, List.setIfInBounds_toArray, List.set_cons_zero, List.set_cons_succ]
  refine wpSch_take rfl (.int .i64 x.e) (fun _ _ _ _ h => HP.out _ _ _ _ (by rfl) h) HA.out (by rfl) (fun W2 hW => by have q0 : W2.cell? ⟨A, 4, none⟩ = some (.int .i64 x.e) := blk_cell hW 4; go_simp) ?_
  simp only [Act.put, List.setIfInBounds_toArray, List.set_cons_zero, List.set_cons_succ]
  refine wpSch_take rfl (.pointer (some ⟨A, 5, none⟩)) (fun _ _ _ _ h => HP.out _ _ _ _ (by rfl) h) HA.out (by rfl) (fun W2 hW => by go_simp) ?_
  simp only [Act.put, List.setIfInBounds_toArray, List.set_cons_zero, List.set_cons_succ]
  refine wpSch_take rfl (.int .i64 x.f) (fun _ _ _ _ h => HP.out _ _ _ _ (by rfl) h) HA.out (by rfl) (fun W2 hW => by have q0 : W2.cell? ⟨A, 5, none⟩ = some (.int .i64 x.f) := blk_cell hW 5; go_simp) ?_
  simp only [Act.put, List.setIfInBounds_toArray, List.set_cons_zero, List.set_cons_succ]
  refine wpSch_only rfl (fun K hK => ?_)
  go_simp
  refine (c1.out _).mono ?_
  rintro e w1 ⟨rfl, rfl⟩
  dsimp only
  refine hK _ _ HA.out ?_
  clear hK K
  refine wpSch_take rfl (.int .i64 (1 + pd)) (fun _ _ _ _ h => HP.out _ _ _ _ (by rfl) h) HA.out (by rfl) (fun W2 hW => by go_simp; exact IntWalk.i64_in _ ⟨by omega, by omega⟩) ?_
  simp only [Act.put, List.setIfInBounds_toArray, List.set_cons_zero, List.set_cons_succ]
  refine wpSch_only rfl (fun K hK => ?_)
  go_simp
  refine (c2.out _).mono ?_
  rintro e w1 ⟨rfl, rfl⟩
  dsimp only
  refine hK _ _ HA.out ?_
  clear hK K
  refine wpSch_only rfl (fun K hK => ?_)
  go_simp
  refine (c3.out _).mono ?_
  rintro e w3 ⟨rfl, hb⟩
  dsimp only
  have HB : Hid (Below W1.heap.size W1 w3) := Lib.hid (((Below.refl _ W1).drew).trans hb)
  have HA3 : Hid (w3.heap[A]? = some (.cells (sixCells x) 62 (0, 0))) := Lib.hid ((hb.block A (Go.Proofs.YtgbihmafmmeicaaGreatDoor.hlt HA.out)).trans HA.out)
  have HT : Hid (w3.heap[T]? = some (.cells fe0.cells 45 (0, 0))) := Lib.hid ((hb.block T hTl).trans HC.out.t)
  refine hK _ _ HA3.out ?_
  clear hK K hb
  refine wpSch_take rfl (.agg (plainE { fct0 with kind := 4, lang := strL [101, 110], block := 1 + pd, sentence := pe, text := WD }).cells) (fun _ _ _ _ h => HP.out _ _ _ _ (by rfl) h) HA3.out (by rfl) (fun W2 hW => exec_build _ _ rfl _ (by simpa [Act.eval] using HBU.out)) ?_
  simp only [Act.put, List.setIfInBounds_toArray, List.set_cons_zero, List.set_cons_succ]
  refine wpSch_last rfl (fun K hK => ?_)
  rw [if_pos (by rfl)]
  refine wp_fct_put _ _ rfl T (by simp [Act.eval]) (cs := (plainE { fct0 with kind := 4, lang := strL [101, 110], block := 1 + pd, sentence := pe, text := WD }).cells) (by simp [Act.eval]) HT.out rfl rfl (plainE { fct0 with kind := 4, lang := strL [101, 110], block := 1 + pd, sentence := pe, text := WD }).one ?_
  refine hK _ _ ?_
  clear hK K
  refine wpSch_done ?_
  go_wp2_with fail
  exact HQ.out _ _ _ _ _ _ _ _ _ _ _ _ _ _ _ _ _ _ _ _ _ _ _ _ _ _ _ _ _ _ _ _ _ _ _ _ _ _ _ _ _ _ _ _ _ _ _ _ _ _ _ _ _ _ _ _ _ _ _ (MkI.put (y := plainE { fct0 with kind := 4, lang := strL [101, 110], block := 1 + pd, sentence := pe, text := WD }) (f := makeK x) (HEQ.out.symm) HB.out hTl HC.out.t (plain_ok (by have z := fok_zero; exact ⟨z.i0, z.i1, okS (by show -1000 ≤ (4 : Int); omega) (by show (4 : Int) ≤ 1000; omega), z.i3, en_ok, z.i5, z.i6, z.s7, z.s8, z.i11, z.i13, z.i14, z.i15, okS (by show -1000 ≤ 1 + pd; omega) (by show 1 + pd ≤ 1000; omega), okS (by show -1000 ≤ pe; omega) (by show pe ≤ 1000; omega), HWO.out, z.s19, z.i20, z.i21, z.i22, z.bl⟩) rfl rfl rfl))
set_option maxRecDepth 100000 in
set_option maxHeartbeats 4000000 in
theorem mk_k11 {A R T : Nat} {x : Six} {W1 : World} (C : MkC A R T x W1) (hk : pickF x.a 16 = 11) (i : Nat) (c1 c2 c5 c7 c8 c9 c10 c11 c12 c13 c73 c74 c75 c76 c77 c78 c79 c80 c81 c82 c83 c84 c85 c86 c87 c88 c89 c90 : Value) (u15 u16 u17 u18 u19 u20 u21 u22 u23 u24 u25 u26 u27 u28 u29 u30 u31 u32 u33 u34 u35 u36 u37 u38 u39 u40 u41 u42 u43 u44 u45 u46 u47 u48 u49 u50 u51 u52 u53 u54 u55 u56 u57 u58 u59 u60 u61 u62 u63 u64 u65 u66 u67 u68 u69 u70 u71 u72 : Value) (Q : Exit → Act → World → Prop)
    (hQ : ∀ (u15 u16 u17 u18 u19 u20 u21 u22 u23 u24 u25 u26 u27 u28 u29 u30 u31 u32 u33 u34 u35 u36 u37 u38 u39 u40 u41 u42 u43 u44 u45 u46 u47 u48 u49 u50 u51 u52 u53 u54 u55 u56 u57 u58 u59 u60 u61 u62 u63 u64 u65 u66 u67 u68 u69 u70 u71 u72 : Value) (w2 : World), MkI W1 T (makeK x) w2 → Q .normal ⟨#[.int .i64 (i : Nat), c1, c2, .pointer (some ⟨A, 0, none⟩), .pointer (some ⟨R, 0, none⟩), c5, .pointer (some ⟨T, 0, none⟩), c7, c8, c9, c10, c11, c12, c13, (.int .i64 11), u15, u16, u17, u18, u19, u20, u21, u22, u23, u24, u25, u26, u27, u28, u29, u30, u31, u32, u33, u34, u35, u36, u37, u38, u39, u40, u41, u42, u43, u44, u45, u46, u47, u48, u49, u50, u51, u52, u53, u54, u55, u56, u57, u58, u59, u60, u61, u62, u63, u64, u65, u66, u67, u68, u69, u70, u71, u72, c73, c74, c75, c76, c77, c78, c79, c80, c81, c82, c83, c84, c85, c86, c87, c88, c89, c90], []⟩ w2) (hP : ∀ c a a2 w2, a2.defers = a.defers → Q (.panic c) a w2 → Q (.panic c) a2 w2) :
    mkBlk.wp Tryz.prog Q ⟨#[.int .i64 (i : Nat), c1, c2, .pointer (some ⟨A, 0, none⟩), .pointer (some ⟨R, 0, none⟩), c5, .pointer (some ⟨T, 0, none⟩), c7, c8, c9, c10, c11, c12, c13, (.int .i64 11), u15, u16, u17, u18, u19, u20, u21, u22, u23, u24, u25, u26, u27, u28, u29, u30, u31, u32, u33, u34, u35, u36, u37, u38, u39, u40, u41, u42, u43, u44, u45, u46, u47, u48, u49, u50, u51, u52, u53, u54, u55, u56, u57, u58, u59, u60, u61, u62, u63, u64, u65, u66, u67, u68, u69, u70, u71, u72, c73, c74, c75, c76, c77, c78, c79, c80, c81, c82, c83, c84, c85, c86, c87, c88, c89, c90], []⟩ W1 := by
  have HQ := Lib.hid hQ
  have HP := Lib.hid hP
  have HC := Lib.hid C
  have HK := Lib.hid hk
  have hTl := Go.Proofs.YtgbihmafmmeicaaGreatDoor.hlt C.t
  have hRl := Go.Proofs.YtgbihmafmmeicaaGreatDoor.hlt C.r
  have k0 : W1.cell? ⟨A, 0, none⟩ = some (.int .i64 x.a) := blk_cell C.a 0
  have k1 : W1.cell? ⟨A, 1, none⟩ = some (.int .i64 x.b) := blk_cell C.a 1
  have k2 : W1.cell? ⟨A, 2, none⟩ = some (.int .i64 x.c) := blk_cell C.a 2
  have k3 : W1.cell? ⟨A, 3, none⟩ = some (.int .i64 x.d) := blk_cell C.a 3
  have k4 : W1.cell? ⟨A, 4, none⟩ = some (.int .i64 x.e) := blk_cell C.a 4
  have k5 : W1.cell? ⟨A, 5, none⟩ = some (.int .i64 x.f) := blk_cell C.a 5
  have HEQ : Hid (makeK x = { fct0 with kind := 4, lang := strL [101, 110], block := 1 + pickF x.d 4, sentence := pickF x.e 3, text := wordF x.f }) := Lib.hid (by unfold makeK; dsimp only; rw [hk]; rfl)
  have c1 := Lib.hid (fun W => pick_any x.d 4 C.xd (by omega) (by omega) W)
  have c2 := Lib.hid (fun W => pick_any x.e 3 C.xe (by omega) (by omega) W)
  have c3 := Lib.hid (fun W => word_any x.f C.xf W)
  obtain ⟨d0, d1⟩ := pickF_lt (c := x.d) (n := 4) (by omega)
  obtain ⟨e0, e1⟩ := pickF_lt (c := x.e) (n := 3) (by omega)
  have HWO := Lib.hid (word_ok x.f)
  generalize pickF x.d 4 = pd at *
  generalize pickF x.e 3 = pe at *
  generalize wordF x.f = WD at *
  have HBU : Hid (Tryz.prog.built 45 [(2, .int .i64 4), (4, .string ⟨#[101, 110]⟩), (13, .int .i64 (1 + pd)), (14, .int .i64 pe), (15, .string WD)] = some (plainE { fct0 with kind := 4, lang := strL [101, 110], block := 1 + pd, sentence := pe, text := WD }).cells) := Lib.hid (fb4 _ _ _)
  have HA : Hid (W1.drew.heap[A]? = some (.cells (sixCells x) 62 (0, 0))) := Lib.hid C.a
  clear C hQ hP hk
  conv => arg 2; whnf
  clear k0 k1 k2 k3 k4 k5
  go_wp2_with fail
  refine wp_sch (.take 0 (.take 1 (.take 4 (.take 5 (.take 7 (.take 8 (.only 2 (.take 3 (.only 6 (.only 9 (.take 10 (.last 11 .done)))))))))))) 11 (fun W2 => W2.heap[A]? = some (.cells (sixCells x) 62 (0, 0))) (by kernel_rfl) (by kernel_rfl) HA.out ?_
  refine wpSch_take rfl (.pointer (some ⟨A, 3, none⟩)) (fun _ _ _ _ h => HP.out _ _ _ _ (by rfl) h) HA.out (by rfl) (fun W2 hW => by go_simp) ?_
  simp only [Act.put, List.setIfInBounds_toArray, List.set_cons_zero, List.set_cons_succ]
  refine wpSch_take rfl (.int .i64 x.d) (fun _ _ _ _ h => HP.out _ _ _ _ (by rfl) h) HA.out (by rfl) (fun W2 hW => by have q0 : W2.cell? ⟨A, 3, none⟩ = some (.int .i64 x.d) := blk_cell hW 3; go_simp) ?_
  simp only [Act.put, List.setIfInBounds_toArray, List.set_cons_zero, List.set_cons_succ]
  refine wpSch_take rfl (.pointer (some ⟨A, 4, none⟩)) (fun _ _ _ _ h => HP.out _ _ _ _ (by rfl) h) HA.out (by rfl) (fun W2 hW => by go_simp) ?_
  simp only [Act.put, List.setIfInBounds_toArray, List.set_cons_zero, List.set_cons_succ]
  refine wpSch_take rfl (.int .i64 x.e) (fun _ _ _ _ h => HP.out _ _ _ _ (by rfl) h) HA.out (by rfl) (fun W2 hW => by have q0 : W2.cell? ⟨A, 4, none⟩ = some (.int .i64 x.e) := blk_cell hW 4; go_simp) ?_
  simp only [Act.put, List.setIfInBounds_toArray, List.set_cons_zero, List.set_cons_succ]
  refine wpSch_take rfl (.pointer (some ⟨A, 5, none⟩)) (fun _ _ _ _ h => HP.out _ _ _ _ (by rfl) h) HA.out (by rfl) (fun W2 hW => by go_simp) ?_
  simp only [Act.put, List.setIfInBounds_toArray, List.set_cons_zero, List.set_cons_succ]
  refine wpSch_take rfl (.int .i64 x.f) (fun _ _ _ _ h => HP.out _ _ _ _ (by rfl) h) HA.out (by rfl) (fun W2 hW => by have q0 : W2.cell? ⟨A, 5, none⟩ = some (.int .i64 x.f) := blk_cell hW 5; go_simp) ?_
  simp only [Act.put, List.setIfInBounds_toArray, List.set_cons_zero, List.set_cons_succ]
  refine wpSch_only rfl (fun K hK => ?_)
  go_simp
  refine (c1.out _).mono ?_
  rintro e w1 ⟨rfl, rfl⟩
  dsimp only
  refine hK _ _ HA.out ?_
  clear hK K
  refine wpSch_take rfl (.int .i64 (1 + pd)) (fun _ _ _ _ h => HP.out _ _ _ _ (by rfl) h) HA.out (by rfl) (fun W2 hW => by go_simp; exact IntWalk.i64_in _ ⟨by omega, by omega⟩) ?_
  simp only [Act.put, List.setIfInBounds_toArray, List.set_cons_zero, List.set_cons_succ]
  refine wpSch_only rfl (fun K hK => ?_)
  go_simp
  refine (c2.out _).mono ?_
  rintro e w1 ⟨rfl, rfl⟩
  dsimp only
  refine hK _ _ HA.out ?_
  clear hK K
  refine wpSch_only rfl (fun K hK => ?_)
  go_simp
  refine (c3.out _).mono ?_
  rintro e w3 ⟨rfl, hb⟩
  dsimp only
  have HB : Hid (Below W1.heap.size W1 w3) := Lib.hid (((Below.refl _ W1).drew).trans hb)
  have HA3 : Hid (w3.heap[A]? = some (.cells (sixCells x) 62 (0, 0))) := Lib.hid ((hb.block A (Go.Proofs.YtgbihmafmmeicaaGreatDoor.hlt HA.out)).trans HA.out)
  have HT : Hid (w3.heap[T]? = some (.cells fe0.cells 45 (0, 0))) := Lib.hid ((hb.block T hTl).trans HC.out.t)
  refine hK _ _ HA3.out ?_
  clear hK K hb
  refine wpSch_take rfl (.agg (plainE { fct0 with kind := 4, lang := strL [101, 110], block := 1 + pd, sentence := pe, text := WD }).cells) (fun _ _ _ _ h => HP.out _ _ _ _ (by rfl) h) HA3.out (by rfl) (fun W2 hW => exec_build _ _ rfl _ (by simpa [Act.eval] using HBU.out)) ?_
  simp only [Act.put, List.setIfInBounds_toArray, List.set_cons_zero, List.set_cons_succ]
  refine wpSch_last rfl (fun K hK => ?_)
  rw [if_pos (by rfl)]
  refine wp_fct_put _ _ rfl T (by simp [Act.eval]) (cs := (plainE { fct0 with kind := 4, lang := strL [101, 110], block := 1 + pd, sentence := pe, text := WD }).cells) (by simp [Act.eval]) HT.out rfl rfl (plainE { fct0 with kind := 4, lang := strL [101, 110], block := 1 + pd, sentence := pe, text := WD }).one ?_
  refine hK _ _ ?_
  clear hK K
  refine wpSch_done ?_
  go_wp2_with fail
  exact HQ.out _ _ _ _ _ _ _ _ _ _ _ _ _ _ _ _ _ _ _ _ _ _ _ _ _ _ _ _ _ _ _ _ _ _ _ _ _ _ _ _ _ _ _ _ _ _ _ _ _ _ _ _ _ _ _ _ _ _ _ (MkI.put (y := plainE { fct0 with kind := 4, lang := strL [101, 110], block := 1 + pd, sentence := pe, text := WD }) (f := makeK x) (HEQ.out.symm) HB.out hTl HC.out.t (plain_ok (by have z := fok_zero; exact ⟨z.i0, z.i1, okS (by show -1000 ≤ (4 : Int); omega) (by show (4 : Int) ≤ 1000; omega), z.i3, en_ok, z.i5, z.i6, z.s7, z.s8, z.i11, z.i13, z.i14, z.i15, okS (by show -1000 ≤ 1 + pd; omega) (by show 1 + pd ≤ 1000; omega), okS (by show -1000 ≤ pe; omega) (by show pe ≤ 1000; omega), HWO.out, z.s19, z.i20, z.i21, z.i22, z.bl⟩) rfl rfl rfl))
set_option maxRecDepth 100000 in
set_option maxHeartbeats 4000000 in
theorem mk_k12 {A R T : Nat} {x : Six} {W1 : World} (C : MkC A R T x W1) (hk : pickF x.a 16 = 12) (i : Nat) (c1 c2 c5 c7 c8 c9 c10 c11 c12 c13 c73 c74 c75 c76 c77 c78 c79 c80 c81 c82 c83 c84 c85 c86 c87 c88 c89 c90 : Value) (u15 u16 u17 u18 u19 u20 u21 u22 u23 u24 u25 u26 u27 u28 u29 u30 u31 u32 u33 u34 u35 u36 u37 u38 u39 u40 u41 u42 u43 u44 u45 u46 u47 u48 u49 u50 u51 u52 u53 u54 u55 u56 u57 u58 u59 u60 u61 u62 u63 u64 u65 u66 u67 u68 u69 u70 u71 u72 : Value) (Q : Exit → Act → World → Prop)
    (hQ : ∀ (u15 u16 u17 u18 u19 u20 u21 u22 u23 u24 u25 u26 u27 u28 u29 u30 u31 u32 u33 u34 u35 u36 u37 u38 u39 u40 u41 u42 u43 u44 u45 u46 u47 u48 u49 u50 u51 u52 u53 u54 u55 u56 u57 u58 u59 u60 u61 u62 u63 u64 u65 u66 u67 u68 u69 u70 u71 u72 : Value) (w2 : World), MkI W1 T (makeK x) w2 → Q .normal ⟨#[.int .i64 (i : Nat), c1, c2, .pointer (some ⟨A, 0, none⟩), .pointer (some ⟨R, 0, none⟩), c5, .pointer (some ⟨T, 0, none⟩), c7, c8, c9, c10, c11, c12, c13, (.int .i64 12), u15, u16, u17, u18, u19, u20, u21, u22, u23, u24, u25, u26, u27, u28, u29, u30, u31, u32, u33, u34, u35, u36, u37, u38, u39, u40, u41, u42, u43, u44, u45, u46, u47, u48, u49, u50, u51, u52, u53, u54, u55, u56, u57, u58, u59, u60, u61, u62, u63, u64, u65, u66, u67, u68, u69, u70, u71, u72, c73, c74, c75, c76, c77, c78, c79, c80, c81, c82, c83, c84, c85, c86, c87, c88, c89, c90], []⟩ w2) (hP : ∀ c a a2 w2, a2.defers = a.defers → Q (.panic c) a w2 → Q (.panic c) a2 w2) :
    mkBlk.wp Tryz.prog Q ⟨#[.int .i64 (i : Nat), c1, c2, .pointer (some ⟨A, 0, none⟩), .pointer (some ⟨R, 0, none⟩), c5, .pointer (some ⟨T, 0, none⟩), c7, c8, c9, c10, c11, c12, c13, (.int .i64 12), u15, u16, u17, u18, u19, u20, u21, u22, u23, u24, u25, u26, u27, u28, u29, u30, u31, u32, u33, u34, u35, u36, u37, u38, u39, u40, u41, u42, u43, u44, u45, u46, u47, u48, u49, u50, u51, u52, u53, u54, u55, u56, u57, u58, u59, u60, u61, u62, u63, u64, u65, u66, u67, u68, u69, u70, u71, u72, c73, c74, c75, c76, c77, c78, c79, c80, c81, c82, c83, c84, c85, c86, c87, c88, c89, c90], []⟩ W1 := by
  have HQ := Lib.hid hQ
  have HP := Lib.hid hP
  have HC := Lib.hid C
  have HK := Lib.hid hk
  have hTl := Go.Proofs.YtgbihmafmmeicaaGreatDoor.hlt C.t
  have hRl := Go.Proofs.YtgbihmafmmeicaaGreatDoor.hlt C.r
  have k0 : W1.cell? ⟨A, 0, none⟩ = some (.int .i64 x.a) := blk_cell C.a 0
  have k1 : W1.cell? ⟨A, 1, none⟩ = some (.int .i64 x.b) := blk_cell C.a 1
  have k2 : W1.cell? ⟨A, 2, none⟩ = some (.int .i64 x.c) := blk_cell C.a 2
  have k3 : W1.cell? ⟨A, 3, none⟩ = some (.int .i64 x.d) := blk_cell C.a 3
  have k4 : W1.cell? ⟨A, 4, none⟩ = some (.int .i64 x.e) := blk_cell C.a 4
  have k5 : W1.cell? ⟨A, 5, none⟩ = some (.int .i64 x.f) := blk_cell C.a 5
  have HEQ : Hid (makeK x = { fct0 with kind := 5, text := wordF x.f }) := Lib.hid (by unfold makeK; dsimp only; rw [hk]; rfl)
  have c3 := Lib.hid (word_any x.f C.xf W1)
  have HWO := Lib.hid (word_ok x.f)
  generalize wordF x.f = WD at *
  clear C hQ hP hk
  conv => arg 2; whnf
  go_wp2_with fail
  refine c3.out.mono ?_
  rintro e w2 ⟨rfl, hb⟩
  have HB := Lib.hid hb
  have HT := Lib.hid ((hb.block T hTl).trans HC.out.t)
  clear hb k0 k1 k2 k3 k4 k5 c3
  go_wp2_with (first
    | ((with_reducible refine at_fbuild _ rfl ?_); go_must (refine wpList_buildTo rfl 45 _ rfl _ rfl _ (by simp [Act.eval]; exact fb5 _) ?_))
    | ((with_reducible refine at_fstore _ _ rfl ?_); go_must (refine wpList_store_rowTo rfl 45 _ _ rfl rfl T (plainE { fct0 with kind := 5, text := WD }).cells (by first | (simp [Act.eval]; done) | simp [Act.eval, Act.put]) (by first | (simp [Act.eval]; done) | (simp [Act.eval, Act.put] <;> rfl)) 45 _ HT.out (by rw [fct_size, FctE.size]) (by rfl) (plainE { fct0 with kind := 5, text := WD }).one ?_)))
  exact HQ.out _ _ _ _ _ _ _ _ _ _ _ _ _ _ _ _ _ _ _ _ _ _ _ _ _ _ _ _ _ _ _ _ _ _ _ _ _ _ _ _ _ _ _ _ _ _ _ _ _ _ _ _ _ _ _ _ _ _ _ (MkI.put (y := plainE { fct0 with kind := 5, text := WD }) (f := makeK x) (HEQ.out.symm) HB.out hTl HC.out.t (plain_ok (by have z := fok_zero; exact ⟨z.i0, z.i1, okS (by show -1000 ≤ (5 : Int); omega) (by show (5 : Int) ≤ 1000; omega), z.i3, z.s4, z.i5, z.i6, z.s7, z.s8, z.i11, z.i13, z.i14, z.i15, z.i16, z.i17, HWO.out, z.s19, z.i20, z.i21, z.i22, z.bl⟩) rfl rfl rfl))
set_option maxRecDepth 100000 in
set_option maxHeartbeats 4000000 in
theorem mk_k13 {A R T : Nat} {x : Six} {W1 : World} (C : MkC A R T x W1) (hk : pickF x.a 16 = 13) (i : Nat) (c1 c2 c5 c7 c8 c9 c10 c11 c12 c13 c73 c74 c75 c76 c77 c78 c79 c80 c81 c82 c83 c84 c85 c86 c87 c88 c89 c90 : Value) (u15 u16 u17 u18 u19 u20 u21 u22 u23 u24 u25 u26 u27 u28 u29 u30 u31 u32 u33 u34 u35 u36 u37 u38 u39 u40 u41 u42 u43 u44 u45 u46 u47 u48 u49 u50 u51 u52 u53 u54 u55 u56 u57 u58 u59 u60 u61 u62 u63 u64 u65 u66 u67 u68 u69 u70 u71 u72 : Value) (Q : Exit → Act → World → Prop)
    (hQ : ∀ (u15 u16 u17 u18 u19 u20 u21 u22 u23 u24 u25 u26 u27 u28 u29 u30 u31 u32 u33 u34 u35 u36 u37 u38 u39 u40 u41 u42 u43 u44 u45 u46 u47 u48 u49 u50 u51 u52 u53 u54 u55 u56 u57 u58 u59 u60 u61 u62 u63 u64 u65 u66 u67 u68 u69 u70 u71 u72 : Value) (w2 : World), MkI W1 T (makeK x) w2 → Q .normal ⟨#[.int .i64 (i : Nat), c1, c2, .pointer (some ⟨A, 0, none⟩), .pointer (some ⟨R, 0, none⟩), c5, .pointer (some ⟨T, 0, none⟩), c7, c8, c9, c10, c11, c12, c13, (.int .i64 13), u15, u16, u17, u18, u19, u20, u21, u22, u23, u24, u25, u26, u27, u28, u29, u30, u31, u32, u33, u34, u35, u36, u37, u38, u39, u40, u41, u42, u43, u44, u45, u46, u47, u48, u49, u50, u51, u52, u53, u54, u55, u56, u57, u58, u59, u60, u61, u62, u63, u64, u65, u66, u67, u68, u69, u70, u71, u72, c73, c74, c75, c76, c77, c78, c79, c80, c81, c82, c83, c84, c85, c86, c87, c88, c89, c90], []⟩ w2) (hP : ∀ c a a2 w2, a2.defers = a.defers → Q (.panic c) a w2 → Q (.panic c) a2 w2) :
    mkBlk.wp Tryz.prog Q ⟨#[.int .i64 (i : Nat), c1, c2, .pointer (some ⟨A, 0, none⟩), .pointer (some ⟨R, 0, none⟩), c5, .pointer (some ⟨T, 0, none⟩), c7, c8, c9, c10, c11, c12, c13, (.int .i64 13), u15, u16, u17, u18, u19, u20, u21, u22, u23, u24, u25, u26, u27, u28, u29, u30, u31, u32, u33, u34, u35, u36, u37, u38, u39, u40, u41, u42, u43, u44, u45, u46, u47, u48, u49, u50, u51, u52, u53, u54, u55, u56, u57, u58, u59, u60, u61, u62, u63, u64, u65, u66, u67, u68, u69, u70, u71, u72, c73, c74, c75, c76, c77, c78, c79, c80, c81, c82, c83, c84, c85, c86, c87, c88, c89, c90], []⟩ W1 := by
  have HQ := Lib.hid hQ
  have HP := Lib.hid hP
  have HC := Lib.hid C
  have HK := Lib.hid hk
  have hTl := Go.Proofs.YtgbihmafmmeicaaGreatDoor.hlt C.t
  have hRl := Go.Proofs.YtgbihmafmmeicaaGreatDoor.hlt C.r
  have k0 : W1.cell? ⟨A, 0, none⟩ = some (.int .i64 x.a) := blk_cell C.a 0
  have k1 : W1.cell? ⟨A, 1, none⟩ = some (.int .i64 x.b) := blk_cell C.a 1
  have k2 : W1.cell? ⟨A, 2, none⟩ = some (.int .i64 x.c) := blk_cell C.a 2
  have k3 : W1.cell? ⟨A, 3, none⟩ = some (.int .i64 x.d) := blk_cell C.a 3
  have k4 : W1.cell? ⟨A, 4, none⟩ = some (.int .i64 x.e) := blk_cell C.a 4
  have k5 : W1.cell? ⟨A, 5, none⟩ = some (.int .i64 x.f) := blk_cell C.a 5
  have HEQ : Hid (makeK x = { fct0 with kind := 6 }) := Lib.hid (by unfold makeK; dsimp only; rw [hk]; rfl)
  have HT := Lib.hid C.t
  clear C hQ hP hk
  conv => arg 2; whnf
  go_wp2_with (first
    | ((with_reducible refine at_fbuild _ rfl ?_); go_must (refine wpList_buildTo rfl 45 _ rfl _ rfl _ (by simp [Act.eval]; exact fb6) ?_))
    | ((with_reducible refine at_fstore _ _ rfl ?_); go_must (refine wpList_store_rowTo rfl 45 _ _ rfl rfl T (plainE { fct0 with kind := 6 }).cells (by first | (simp [Act.eval]; done) | simp [Act.eval, Act.put]) (by first | (simp [Act.eval]; done) | (simp [Act.eval, Act.put] <;> rfl)) 45 _ HT.out (by rw [fct_size, FctE.size]) (by rfl) (plainE { fct0 with kind := 6 }).one ?_)))
  exact HQ.out _ _ _ _ _ _ _ _ _ _ _ _ _ _ _ _ _ _ _ _ _ _ _ _ _ _ _ _ _ _ _ _ _ _ _ _ _ _ _ _ _ _ _ _ _ _ _ _ _ _ _ _ _ _ _ _ _ _ _ (MkI.put (y := plainE { fct0 with kind := 6 }) (f := makeK x) (HEQ.out.symm) (Below.refl _ _) hTl HC.out.t (plain_ok (by have z := fok_zero; exact ⟨z.i0, z.i1, okS (by show -1000 ≤ (6 : Int); omega) (by show (6 : Int) ≤ 1000; omega), z.i3, z.s4, z.i5, z.i6, z.s7, z.s8, z.i11, z.i13, z.i14, z.i15, z.i16, z.i17, z.s18, z.s19, z.i20, z.i21, z.i22, z.bl⟩) rfl rfl rfl))
set_option maxRecDepth 100000 in
set_option maxHeartbeats 4000000 in
theorem mk_k14 {A R T : Nat} {x : Six} {W1 : World} (C : MkC A R T x W1) (hk : pickF x.a 16 = 14) (i : Nat) (hi : i ≤ 100000) (c1 c2 c5 c7 c8 c9 c10 c11 c12 c13 c73 c74 c75 c76 c77 c78 c79 c80 c81 c82 c83 c84 c85 c86 c87 c88 c89 c90 : Value) (u15 u16 u17 u18 u19 u20 u21 u22 u23 u24 u25 u26 u27 u28 u29 u30 u31 u32 u33 u34 u35 u36 u37 u38 u39 u40 u41 u42 u43 u44 u45 u46 u47 u48 u49 u50 u51 u52 u53 u54 u55 u56 u57 u58 u59 u60 u61 u62 u63 u64 u65 u66 u67 u68 u69 u70 u71 u72 : Value) (Q : Exit → Act → World → Prop)
    (hQ : ∀ (u15 u16 u17 u18 u19 u20 u21 u22 u23 u24 u25 u26 u27 u28 u29 u30 u31 u32 u33 u34 u35 u36 u37 u38 u39 u40 u41 u42 u43 u44 u45 u46 u47 u48 u49 u50 u51 u52 u53 u54 u55 u56 u57 u58 u59 u60 u61 u62 u63 u64 u65 u66 u67 u68 u69 u70 u71 u72 : Value) (w2 : World), MkI W1 R (makeF i x) w2 → Q .ret ⟨#[.int .i64 (i : Nat), c1, c2, .pointer (some ⟨A, 0, none⟩), .pointer (some ⟨R, 0, none⟩), c5, .pointer (some ⟨T, 0, none⟩), c7, c8, c9, c10, c11, c12, c13, (.int .i64 14), u15, u16, u17, u18, u19, u20, u21, u22, u23, u24, u25, u26, u27, u28, u29, u30, u31, u32, u33, u34, u35, u36, u37, u38, u39, u40, u41, u42, u43, u44, u45, u46, u47, u48, u49, u50, u51, u52, u53, u54, u55, u56, u57, u58, u59, u60, u61, u62, u63, u64, u65, u66, u67, u68, u69, u70, u71, u72, c73, c74, c75, c76, c77, c78, c79, c80, c81, c82, c83, c84, c85, c86, c87, c88, c89, c90], []⟩ w2) (hP : ∀ c a a2 w2, a2.defers = a.defers → Q (.panic c) a w2 → Q (.panic c) a2 w2) :
    mkBlk.wp Tryz.prog Q ⟨#[.int .i64 (i : Nat), c1, c2, .pointer (some ⟨A, 0, none⟩), .pointer (some ⟨R, 0, none⟩), c5, .pointer (some ⟨T, 0, none⟩), c7, c8, c9, c10, c11, c12, c13, (.int .i64 14), u15, u16, u17, u18, u19, u20, u21, u22, u23, u24, u25, u26, u27, u28, u29, u30, u31, u32, u33, u34, u35, u36, u37, u38, u39, u40, u41, u42, u43, u44, u45, u46, u47, u48, u49, u50, u51, u52, u53, u54, u55, u56, u57, u58, u59, u60, u61, u62, u63, u64, u65, u66, u67, u68, u69, u70, u71, u72, c73, c74, c75, c76, c77, c78, c79, c80, c81, c82, c83, c84, c85, c86, c87, c88, c89, c90], []⟩ W1 := by
  have HQ := Lib.hid hQ
  have HP := Lib.hid hP
  have HC := Lib.hid C
  have HK := Lib.hid hk
  have hTl := Go.Proofs.YtgbihmafmmeicaaGreatDoor.hlt C.t
  have hRl := Go.Proofs.YtgbihmafmmeicaaGreatDoor.hlt C.r
  have k0 : W1.cell? ⟨A, 0, none⟩ = some (.int .i64 x.a) := blk_cell C.a 0
  have k1 : W1.cell? ⟨A, 1, none⟩ = some (.int .i64 x.b) := blk_cell C.a 1
  have k2 : W1.cell? ⟨A, 2, none⟩ = some (.int .i64 x.c) := blk_cell C.a 2
  have k3 : W1.cell? ⟨A, 3, none⟩ = some (.int .i64 x.d) := blk_cell C.a 3
  have k4 : W1.cell? ⟨A, 4, none⟩ = some (.int .i64 x.e) := blk_cell C.a 4
  have k5 : W1.cell? ⟨A, 5, none⟩ = some (.int .i64 x.f) := blk_cell C.a 5
  have HEQ : Hid (makeF i x = { fct0 with n := (i : Int) + 1, time := i, kind := 7, name := strL [102, 114, 111, 110, 116], text := wordF x.f }) := Lib.hid (by unfold makeF; rw [if_pos hk])
  have c3 := Lib.hid (word_any x.f C.xf W1)
  have HWO := Lib.hid (word_ok x.f)
  generalize wordF x.f = WD at *
  clear C hQ hP hk
  conv => arg 2; whnf
  go_wp2_with fail
  refine c3.out.mono ?_
  rintro e w2 ⟨rfl, hb⟩
  have HB := Lib.hid hb
  have HT := Lib.hid ((hb.block R hRl).trans HC.out.r)
  clear hb k0 k1 k2 k3 k4 k5 c3
  go_wp2_with (first
    | ((with_reducible refine at_fbuild _ rfl ?_); go_must (refine wpList_buildTo rfl 45 _ rfl _ rfl _ (by simp [Act.eval]; exact fb7 _ _ _) ?_))
    | ((with_reducible refine at_fstore _ _ rfl ?_); go_must (refine wpList_store_rowTo rfl 45 _ _ rfl rfl R (plainE { fct0 with n := (i : Int) + 1, time := i, kind := 7, name := strL [102, 114, 111, 110, 116], text := WD }).cells (by first | (simp [Act.eval]; done) | simp [Act.eval, Act.put]) (by first | (simp [Act.eval]; done) | (simp [Act.eval, Act.put] <;> rfl)) 45 _ HT.out (by rw [fct_size, FctE.size]) (by rfl) (plainE { fct0 with n := (i : Int) + 1, time := i, kind := 7, name := strL [102, 114, 111, 110, 116], text := WD }).one ?_)))
  exact HQ.out _ _ _ _ _ _ _ _ _ _ _ _ _ _ _ _ _ _ _ _ _ _ _ _ _ _ _ _ _ _ _ _ _ _ _ _ _ _ _ _ _ _ _ _ _ _ _ _ _ _ _ _ _ _ _ _ _ _ _ (MkI.put (y := plainE { fct0 with n := (i : Int) + 1, time := i, kind := 7, name := strL [102, 114, 111, 110, 116], text := WD }) (f := makeF i x) (HEQ.out.symm) HB.out hRl HC.out.r (plain_ok (by have z := fok_zero; exact ⟨by show okI ((i : Int) + 1); unfold okI; omega, by show okI (i : Int); unfold okI; omega, okS (by show -1000 ≤ (7 : Int); omega) (by show (7 : Int) ≤ 1000; omega), z.i3, z.s4, z.i5, z.i6, z.s7, z.s8, z.i11, z.i13, z.i14, z.i15, z.i16, z.i17, HWO.out, by show 5 ≤ maxLen; unfold maxLen; omega, z.i20, z.i21, z.i22, z.bl⟩) rfl rfl rfl))
set_option maxRecDepth 100000 in
set_option maxHeartbeats 4000000 in
theorem mk_k15 {A R T : Nat} {x : Six} {W1 : World} (C : MkC A R T x W1) (hk : pickF x.a 16 = 15) (i : Nat) (c1 c2 c5 c7 c8 c9 c10 c11 c12 c13 c73 c74 c75 c76 c77 c78 c79 c80 c81 c82 c83 c84 c85 c86 c87 c88 c89 c90 : Value) (u15 u16 u17 u18 u19 u20 u21 u22 u23 u24 u25 u26 u27 u28 u29 u30 u31 u32 u33 u34 u35 u36 u37 u38 u39 u40 u41 u42 u43 u44 u45 u46 u47 u48 u49 u50 u51 u52 u53 u54 u55 u56 u57 u58 u59 u60 u61 u62 u63 u64 u65 u66 u67 u68 u69 u70 u71 u72 : Value) (Q : Exit → Act → World → Prop)
    (hQ : ∀ (u15 u16 u17 u18 u19 u20 u21 u22 u23 u24 u25 u26 u27 u28 u29 u30 u31 u32 u33 u34 u35 u36 u37 u38 u39 u40 u41 u42 u43 u44 u45 u46 u47 u48 u49 u50 u51 u52 u53 u54 u55 u56 u57 u58 u59 u60 u61 u62 u63 u64 u65 u66 u67 u68 u69 u70 u71 u72 : Value) (w2 : World), MkI W1 T (makeK x) w2 → Q .normal ⟨#[.int .i64 (i : Nat), c1, c2, .pointer (some ⟨A, 0, none⟩), .pointer (some ⟨R, 0, none⟩), c5, .pointer (some ⟨T, 0, none⟩), c7, c8, c9, c10, c11, c12, c13, (.int .i64 15), u15, u16, u17, u18, u19, u20, u21, u22, u23, u24, u25, u26, u27, u28, u29, u30, u31, u32, u33, u34, u35, u36, u37, u38, u39, u40, u41, u42, u43, u44, u45, u46, u47, u48, u49, u50, u51, u52, u53, u54, u55, u56, u57, u58, u59, u60, u61, u62, u63, u64, u65, u66, u67, u68, u69, u70, u71, u72, c73, c74, c75, c76, c77, c78, c79, c80, c81, c82, c83, c84, c85, c86, c87, c88, c89, c90], []⟩ w2) (hP : ∀ c a a2 w2, a2.defers = a.defers → Q (.panic c) a w2 → Q (.panic c) a2 w2) :
    mkBlk.wp Tryz.prog Q ⟨#[.int .i64 (i : Nat), c1, c2, .pointer (some ⟨A, 0, none⟩), .pointer (some ⟨R, 0, none⟩), c5, .pointer (some ⟨T, 0, none⟩), c7, c8, c9, c10, c11, c12, c13, (.int .i64 15), u15, u16, u17, u18, u19, u20, u21, u22, u23, u24, u25, u26, u27, u28, u29, u30, u31, u32, u33, u34, u35, u36, u37, u38, u39, u40, u41, u42, u43, u44, u45, u46, u47, u48, u49, u50, u51, u52, u53, u54, u55, u56, u57, u58, u59, u60, u61, u62, u63, u64, u65, u66, u67, u68, u69, u70, u71, u72, c73, c74, c75, c76, c77, c78, c79, c80, c81, c82, c83, c84, c85, c86, c87, c88, c89, c90], []⟩ W1 := by
  have HQ := Lib.hid hQ
  have HP := Lib.hid hP
  have HC := Lib.hid C
  have HK := Lib.hid hk
  have hTl := Go.Proofs.YtgbihmafmmeicaaGreatDoor.hlt C.t
  have hRl := Go.Proofs.YtgbihmafmmeicaaGreatDoor.hlt C.r
  have k0 : W1.cell? ⟨A, 0, none⟩ = some (.int .i64 x.a) := blk_cell C.a 0
  have k1 : W1.cell? ⟨A, 1, none⟩ = some (.int .i64 x.b) := blk_cell C.a 1
  have k2 : W1.cell? ⟨A, 2, none⟩ = some (.int .i64 x.c) := blk_cell C.a 2
  have k3 : W1.cell? ⟨A, 3, none⟩ = some (.int .i64 x.d) := blk_cell C.a 3
  have k4 : W1.cell? ⟨A, 4, none⟩ = some (.int .i64 x.e) := blk_cell C.a 4
  have k5 : W1.cell? ⟨A, 5, none⟩ = some (.int .i64 x.f) := blk_cell C.a 5
  have HEQ : Hid (makeK x = { fct0 with kind := 2, editor := 9 }) := Lib.hid (by unfold makeK; dsimp only; rw [hk]; rfl)
  have HT := Lib.hid C.t
  clear C hQ hP hk
  conv => arg 2; whnf
  go_wp2_with (first
    | ((with_reducible refine at_fbuild _ rfl ?_); go_must (refine wpList_buildTo rfl 45 _ rfl _ rfl _ (by simp [Act.eval]; exact fb2 _) ?_))
    | ((with_reducible refine at_fstore _ _ rfl ?_); go_must (refine wpList_store_rowTo rfl 45 _ _ rfl rfl T (plainE { fct0 with kind := 2, editor := 9 }).cells (by first | (simp [Act.eval]; done) | simp [Act.eval, Act.put]) (by first | (simp [Act.eval]; done) | (simp [Act.eval, Act.put] <;> rfl)) 45 _ HT.out (by rw [fct_size, FctE.size]) (by rfl) (plainE { fct0 with kind := 2, editor := 9 }).one ?_)))
  exact HQ.out _ _ _ _ _ _ _ _ _ _ _ _ _ _ _ _ _ _ _ _ _ _ _ _ _ _ _ _ _ _ _ _ _ _ _ _ _ _ _ _ _ _ _ _ _ _ _ _ _ _ _ _ _ _ _ _ _ _ _ (MkI.put (y := plainE { fct0 with kind := 2, editor := 9 }) (f := makeK x) (by rw [HEQ.out]; rfl)  (Below.refl _ _) hTl HC.out.t (plain_ok (by have z := fok_zero; exact ⟨z.i0, z.i1, okS (by show -1000 ≤ (2 : Int); omega) (by show (2 : Int) ≤ 1000; omega), z.i3, z.s4, z.i5, z.i6, z.s7, z.s8, z.i11, z.i13, z.i14, okS (by show -1000 ≤ (9 : Int); omega) (by show (9 : Int) ≤ 1000; omega), z.i16, z.i17, z.s18, z.s19, z.i20, z.i21, z.i22, z.bl⟩) rfl rfl rfl))
end Go.Proofs.YtgbihmafmmeicaaGreatDoor
namespace Go.Proofs.YtgbihmafmmeicaaGreatDoor
open Go.RowKit Mg Go.Shelf

set_option maxRecDepth 100000 in
set_option maxHeartbeats 4000000 in
theorem mk_block {A R T : Nat} {x : Six} {W1 : World} (C : MkC A R T x W1) (h14 : pickF x.a 16 ≠ 14) (i : Nat) (c1 c2 c5 c7 c8 c9 c10 c11 c12 c13 c73 c74 c75 c76 c77 c78 c79 c80 c81 c82 c83 c84 c85 c86 c87 c88 c89 c90 : Value) (u15 u16 u17 u18 u19 u20 u21 u22 u23 u24 u25 u26 u27 u28 u29 u30 u31 u32 u33 u34 u35 u36 u37 u38 u39 u40 u41 u42 u43 u44 u45 u46 u47 u48 u49 u50 u51 u52 u53 u54 u55 u56 u57 u58 u59 u60 u61 u62 u63 u64 u65 u66 u67 u68 u69 u70 u71 u72 : Value) (Q : Exit → Act → World → Prop)
    (hQ : ∀ (u15 u16 u17 u18 u19 u20 u21 u22 u23 u24 u25 u26 u27 u28 u29 u30 u31 u32 u33 u34 u35 u36 u37 u38 u39 u40 u41 u42 u43 u44 u45 u46 u47 u48 u49 u50 u51 u52 u53 u54 u55 u56 u57 u58 u59 u60 u61 u62 u63 u64 u65 u66 u67 u68 u69 u70 u71 u72 : Value) (w2 : World), MkI W1 T (makeK x) w2 → Q .normal ⟨#[.int .i64 (i : Nat), c1, c2, .pointer (some ⟨A, 0, none⟩), .pointer (some ⟨R, 0, none⟩), c5, .pointer (some ⟨T, 0, none⟩), c7, c8, c9, c10, c11, c12, c13, (.int .i64 (pickF x.a 16)), u15, u16, u17, u18, u19, u20, u21, u22, u23, u24, u25, u26, u27, u28, u29, u30, u31, u32, u33, u34, u35, u36, u37, u38, u39, u40, u41, u42, u43, u44, u45, u46, u47, u48, u49, u50, u51, u52, u53, u54, u55, u56, u57, u58, u59, u60, u61, u62, u63, u64, u65, u66, u67, u68, u69, u70, u71, u72, c73, c74, c75, c76, c77, c78, c79, c80, c81, c82, c83, c84, c85, c86, c87, c88, c89, c90], []⟩ w2) (hP : ∀ c a a2 w2, a2.defers = a.defers → Q (.panic c) a w2 → Q (.panic c) a2 w2) :
    mkBlk.wp Tryz.prog Q ⟨#[.int .i64 (i : Nat), c1, c2, .pointer (some ⟨A, 0, none⟩), .pointer (some ⟨R, 0, none⟩), c5, .pointer (some ⟨T, 0, none⟩), c7, c8, c9, c10, c11, c12, c13, (.int .i64 (pickF x.a 16)), u15, u16, u17, u18, u19, u20, u21, u22, u23, u24, u25, u26, u27, u28, u29, u30, u31, u32, u33, u34, u35, u36, u37, u38, u39, u40, u41, u42, u43, u44, u45, u46, u47, u48, u49, u50, u51, u52, u53, u54, u55, u56, u57, u58, u59, u60, u61, u62, u63, u64, u65, u66, u67, u68, u69, u70, u71, u72, c73, c74, c75, c76, c77, c78, c79, c80, c81, c82, c83, c84, c85, c86, c87, c88, c89, c90], []⟩ W1 := by
  obtain ⟨p0, p1⟩ := pickF_lt (c := x.a) (n := 16) (by omega)
  have h : pickF x.a 16 = 0 ∨ pickF x.a 16 = 1 ∨ pickF x.a 16 = 2 ∨ pickF x.a 16 = 3 ∨ pickF x.a 16 = 4 ∨ pickF x.a 16 = 5 ∨ pickF x.a 16 = 6 ∨ pickF x.a 16 = 7 ∨ pickF x.a 16 = 8 ∨ pickF x.a 16 = 9 ∨ pickF x.a 16 = 10 ∨ pickF x.a 16 = 11 ∨ pickF x.a 16 = 12 ∨ pickF x.a 16 = 13 ∨ pickF x.a 16 = 15 := by omega
  rcases h with h | h | h | h | h | h | h | h | h | h | h | h | h | h | h
  · rw [h] at hQ ⊢
    exact mk_k0 C h i _ _ _ _ _ _ _ _ _ _ _ _ _ _ _ _ _ _ _ _ _ _ _ _ _ _ _ _ _ _ _ _ _ _ _ _ _ _ _ _ _ _ _ _ _ _ _ _ _ _ _ _ _ _ _ _ _ _ _ _ _ _ _ _ _ _ _ _ _ _ _ _ _ _ _ _ _ _ _ _ _ _ _ _ _ _ Q hQ hP
  · rw [h] at hQ ⊢
    exact mk_k1 C h i _ _ _ _ _ _ _ _ _ _ _ _ _ _ _ _ _ _ _ _ _ _ _ _ _ _ _ _ _ _ _ _ _ _ _ _ _ _ _ _ _ _ _ _ _ _ _ _ _ _ _ _ _ _ _ _ _ _ _ _ _ _ _ _ _ _ _ _ _ _ _ _ _ _ _ _ _ _ _ _ _ _ _ _ _ _ Q hQ hP
  · rw [h] at hQ ⊢
    exact mk_k2 C h i _ _ _ _ _ _ _ _ _ _ _ _ _ _ _ _ _ _ _ _ _ _ _ _ _ _ _ _ _ _ _ _ _ _ _ _ _ _ _ _ _ _ _ _ _ _ _ _ _ _ _ _ _ _ _ _ _ _ _ _ _ _ _ _ _ _ _ _ _ _ _ _ _ _ _ _ _ _ _ _ _ _ _ _ _ _ Q hQ hP
  · rw [h] at hQ ⊢
    exact mk_k3 C h i _ _ _ _ _ _ _ _ _ _ _ _ _ _ _ _ _ _ _ _ _ _ _ _ _ _ _ _ _ _ _ _ _ _ _ _ _ _ _ _ _ _ _ _ _ _ _ _ _ _ _ _ _ _ _ _ _ _ _ _ _ _ _ _ _ _ _ _ _ _ _ _ _ _ _ _ _ _ _ _ _ _ _ _ _ _ Q hQ hP
  · rw [h] at hQ ⊢
    exact mk_k4 C h i _ _ _ _ _ _ _ _ _ _ _ _ _ _ _ _ _ _ _ _ _ _ _ _ _ _ _ _ _ _ _ _ _ _ _ _ _ _ _ _ _ _ _ _ _ _ _ _ _ _ _ _ _ _ _ _ _ _ _ _ _ _ _ _ _ _ _ _ _ _ _ _ _ _ _ _ _ _ _ _ _ _ _ _ _ _ Q hQ hP
  · rw [h] at hQ ⊢
    exact mk_k5 C h i _ _ _ _ _ _ _ _ _ _ _ _ _ _ _ _ _ _ _ _ _ _ _ _ _ _ _ _ _ _ _ _ _ _ _ _ _ _ _ _ _ _ _ _ _ _ _ _ _ _ _ _ _ _ _ _ _ _ _ _ _ _ _ _ _ _ _ _ _ _ _ _ _ _ _ _ _ _ _ _ _ _ _ _ _ _ Q hQ hP
  · rw [h] at hQ ⊢
    exact mk_k6 C h i _ _ _ _ _ _ _ _ _ _ _ _ _ _ _ _ _ _ _ _ _ _ _ _ _ _ _ _ _ _ _ _ _ _ _ _ _ _ _ _ _ _ _ _ _ _ _ _ _ _ _ _ _ _ _ _ _ _ _ _ _ _ _ _ _ _ _ _ _ _ _ _ _ _ _ _ _ _ _ _ _ _ _ _ _ _ Q hQ hP
  · rw [h] at hQ ⊢
    exact mk_k7 C h i _ _ _ _ _ _ _ _ _ _ _ _ _ _ _ _ _ _ _ _ _ _ _ _ _ _ _ _ _ _ _ _ _ _ _ _ _ _ _ _ _ _ _ _ _ _ _ _ _ _ _ _ _ _ _ _ _ _ _ _ _ _ _ _ _ _ _ _ _ _ _ _ _ _ _ _ _ _ _ _ _ _ _ _ _ _ Q hQ hP
  · rw [h] at hQ ⊢
    exact mk_k8 C h i _ _ _ _ _ _ _ _ _ _ _ _ _ _ _ _ _ _ _ _ _ _ _ _ _ _ _ _ _ _ _ _ _ _ _ _ _ _ _ _ _ _ _ _ _ _ _ _ _ _ _ _ _ _ _ _ _ _ _ _ _ _ _ _ _ _ _ _ _ _ _ _ _ _ _ _ _ _ _ _ _ _ _ _ _ _ Q hQ hP
  · rw [h] at hQ ⊢
    exact mk_k9 C h i _ _ _ _ _ _ _ _ _ _ _ _ _ _ _ _ _ _ _ _ _ _ _ _ _ _ _ _ _ _ _ _ _ _ _ _ _ _ _ _ _ _ _ _ _ _ _ _ _ _ _ _ _ _ _ _ _ _ _ _ _ _ _ _ _ _ _ _ _ _ _ _ _ _ _ _ _ _ _ _ _ _ _ _ _ _ Q hQ hP
  · rw [h] at hQ ⊢
    exact mk_k10 C h i _ _ _ _ _ _ _ _ _ _ _ _ _ _ _ _ _ _ _ _ _ _ _ _ _ _ _ _ _ _ _ _ _ _ _ _ _ _ _ _ _ _ _ _ _ _ _ _ _ _ _ _ _ _ _ _ _ _ _ _ _ _ _ _ _ _ _ _ _ _ _ _ _ _ _ _ _ _ _ _ _ _ _ _ _ _ Q hQ hP
  · rw [h] at hQ ⊢
    exact mk_k11 C h i _ _ _ _ _ _ _ _ _ _ _ _ _ _ _ _ _ _ _ _ _ _ _ _ _ _ _ _ _ _ _ _ _ _ _ _ _ _ _ _ _ _ _ _ _ _ _ _ _ _ _ _ _ _ _ _ _ _ _ _ _ _ _ _ _ _ _ _ _ _ _ _ _ _ _ _ _ _ _ _ _ _ _ _ _ _ Q hQ hP
  · rw [h] at hQ ⊢
    exact mk_k12 C h i _ _ _ _ _ _ _ _ _ _ _ _ _ _ _ _ _ _ _ _ _ _ _ _ _ _ _ _ _ _ _ _ _ _ _ _ _ _ _ _ _ _ _ _ _ _ _ _ _ _ _ _ _ _ _ _ _ _ _ _ _ _ _ _ _ _ _ _ _ _ _ _ _ _ _ _ _ _ _ _ _ _ _ _ _ _ Q hQ hP
  · rw [h] at hQ ⊢
    exact mk_k13 C h i _ _ _ _ _ _ _ _ _ _ _ _ _ _ _ _ _ _ _ _ _ _ _ _ _ _ _ _ _ _ _ _ _ _ _ _ _ _ _ _ _ _ _ _ _ _ _ _ _ _ _ _ _ _ _ _ _ _ _ _ _ _ _ _ _ _ _ _ _ _ _ _ _ _ _ _ _ _ _ _ _ _ _ _ _ _ Q hQ hP
  · rw [h] at hQ ⊢
    exact mk_k15 C h i _ _ _ _ _ _ _ _ _ _ _ _ _ _ _ _ _ _ _ _ _ _ _ _ _ _ _ _ _ _ _ _ _ _ _ _ _ _ _ _ _ _ _ _ _ _ _ _ _ _ _ _ _ _ _ _ _ _ _ _ _ _ _ _ _ _ _ _ _ _ _ _ _ _ _ _ _ _ _ _ _ _ _ _ _ _ Q hQ hP
theorem makeK_lang (x : Six) : (makeK x).lang = ⟨#[]⟩ ∨ (makeK x).lang = ⟨#[101, 110]⟩ := by
  unfold makeK
  dsimp only
  repeat' split
  all_goals first | exact .inl rfl | exact .inr rfl
theorem lang_t (s : ByteArray) (h : s.data.toList = []) : s.toList.isEmpty = true := by rw [ByteArray.toList_eq]; simp [h]
theorem lang_f (s : ByteArray) (h : s.data.toList ≠ []) : s.toList.isEmpty = false := by
  rw [ByteArray.toList_eq]
  cases e : s.data.toList with
  | nil => exact absurd e h
  | cons a l => rfl
def langF (l : ByteArray) (p : Int) : ByteArray := if l.data.toList ≠ [] ∧ p = 0 then strL [100, 101] else l
def mkE (y : FctE) (l : ByteArray) (i : Nat) (pb : Int) : FctE := ⟨{ y.f with lang := l, n := (i : Int) + 1, time := i, story := 1 + pb }, y.ta, y.tc, y.ba, y.bc, y.aa, y.ac⟩
theorem make_eq {i : Nat} {x : Six} {y : FctE} (h14 : pickF x.a 16 ≠ 14) (hy : y.f = makeK x) : (mkE y (langF y.f.lang (pickF x.c 3)) i (pickF x.b 4)).f = makeF i x := by
  unfold mkE makeF langF
  rw [if_neg h14, hy]
set_option maxRecDepth 100000 in
set_option maxHeartbeats 4000000 in
theorem make_any (i : Nat) (hi : i ≤ 100000) (x : Six) (hx : okI x.a ∧ okI x.b ∧ okI x.c ∧ okI x.d ∧ okI x.e ∧ okI x.f) (w : World) : Calls Tryz.prog 30 #[.int .i64 (i : Nat), .agg (sixCells x)] w (FctPost (makeF i x) w) := by
  obtain ⟨ha, hb, hc, hd, he, hf⟩ := hx
  have c1 := Lib.hid (fun W => pick_any x.b 4 hb (by omega) (by omega) W)
  have c2 := Lib.hid (fun W => pick_any x.a 16 ha (by omega) (by omega) W)
  have c3 := Lib.hid (fun W => pick_any x.c 3 hc (by omega) (by omega) W)
  obtain ⟨b0, b1⟩ := pickF_lt (c := x.b) (n := 4) (by omega)
  have HME := Lib.hid (fun (y : FctE) (h14 : pickF x.a 16 ≠ 14) (hy : y.f = makeK x) => make_eq (i := i) h14 hy)
  obtain ⟨pb, hpb⟩ : ∃ pb, pb = pickF x.b 4 := ⟨_, rfl⟩
  obtain ⟨pc, hpc⟩ : ∃ pc, pc = pickF x.c 3 := ⟨_, rfl⟩
  rw [← hpb, ← hpc] at HME
  rw [← hpb] at c1 b0 b1
  rw [← hpc] at c3
  have HX := Lib.hid (And.intro ha (And.intro hb (And.intro hc (And.intro hd (And.intro he hf)))))
  clear ha hb hc hd he hf hpb hpc
  have HB2 : Hid (∀ (o1 o2 o3 : Obj), Below w.heap.size w (((w.alloc o1).alloc o2).alloc o3)) := Lib.hid (fun o1 o2 o3 => (((Below.refl _ w).alloc (Nat.le_refl _) _).alloc (by simp) _).alloc (by simp; omega) _)
  have hfz : Hid (fe0.cells.size = 23) := Lib.hid fe0.size
  have hf1 := Lib.hid fe0.one
  obtain ⟨fs, hun⟩ := fct_under
  have hfs := fct_size
  have HA0 := Lib.hid (heap_new1 w (.cells (sixCells x) 62) (.cells fe0.cells 45))
  have HR0 := Lib.hid (heap_new2 w (.cells (sixCells x) 62) (.cells fe0.cells 45))
  have e1 : (sixCells x)[1]? = some (.int .i64 x.b) := rfl
  go_enter Tryz.func30, Tryz.ntmps30
  go_wp2_with fail
  refine (c1.out _).mono ?_
  rintro e w1 ⟨rfl, rfl⟩
  go_upto_region 3 with (first
    | ((with_reducible refine at_fbuild _ rfl ?_); go_must (refine wpList_buildTo rfl 45 _ rfl _ rfl _ (by simp [Act.eval]; exact fb0) ?_))
    | ((with_reducible refine at_fstore _ _ rfl ?_); go_must (refine wpList_fct_new rfl _ _ rfl rfl _ _ fe0.cells (by simp [Act.eval]) (by first | (simp [Act.eval]; done) | (simp [Act.eval]; rfl)) (by rfl) hfz.out hf1.out ?_)))
  have hz3 : Hid ((((w.alloc (.cells (sixCells x) 62)).alloc (.cells fe0.cells 45)).alloc (.cells fe0.cells 45)).heap.size = w.heap.size + 3) := Lib.hid (by simp)
  have HW1 := HB2.out (.cells (sixCells x) 62) (.cells fe0.cells 45) (.cells fe0.cells 45)
  have HT1 := World.alloc_heap_new ((w.alloc (.cells (sixCells x) 62)).alloc (.cells fe0.cells 45)) (.cells fe0.cells 45)
  have HA1 := (Below.heap_alloc ((w.alloc (.cells (sixCells x) 62)).alloc (.cells fe0.cells 45)) (.cells fe0.cells 45) _ (Go.Proofs.YtgbihmafmmeicaaGreatDoor.hlt HA0.out)).trans HA0.out
  have HR1 := (Below.heap_alloc ((w.alloc (.cells (sixCells x) 62)).alloc (.cells fe0.cells 45)) (.cells fe0.cells 45) _ (Go.Proofs.YtgbihmafmmeicaaGreatDoor.hlt HR0.out)).trans HR0.out
  generalize hW1 : World.alloc (World.alloc (World.alloc w _) _) _ = W1
  rw [show ((w.alloc (.cells (sixCells x) 62)).alloc (.cells fe0.cells 45)).alloc (.cells fe0.cells 45) = W1 from hW1] at HW1 HT1 HA1 HR1 hz3
  clear hW1
  simp only [World.size_alloc] at HT1
  have HC : Hid (MkC w.heap.size (w.heap.size + 1) (w.heap.size + 1 + 1) x W1) := Lib.hid ⟨HA1, HT1, HR1, by omega, by omega, HX.out.1, HX.out.2.1, HX.out.2.2.1, HX.out.2.2.2.1, HX.out.2.2.2.2.1, HX.out.2.2.2.2.2⟩
  have HBW := Lib.hid HW1
  have k0 : W1.cell? ⟨w.heap.size, 0, none⟩ = some (.int .i64 x.a) := blk_cell HA1 0
  clear HW1 HT1 HA1 HR1 HB2 e1
  go_upto_block 0 with fail
  refine (c2.out _).mono ?_
  rintro e w1 ⟨rfl, rfl⟩
  clear k0
  by_cases h14 : pickF x.a 16 = 14
  · have H14 := Lib.hid h14
    rw [h14]
    clear h14
    go_upto_block 0 with fail
    refine mk_k14 HC.out H14.out i hi _ _ _ _ _ _ _ _ _ _ _ _ _ _ _ _ _ _ _ _ _ _ _ _ _ _ _ _ _ _ _ _ _ _ _ _ _ _ _ _ _ _ _ _ _ _ _ _ _ _ _ _ _ _ _ _ _ _ _ _ _ _ _ _ _ _ _ _ _ _ _ _ _ _ _ _ _ _ _ _ _ _ _ _ _ _ _ ?_ (fun c a a2 w2 e h => ⟨e.trans h.1, h.2⟩)
    intro u15 u16 u17 u18 u19 u20 u21 u22 u23 u24 u25 u26 u27 u28 u29 u30 u31 u32 u33 u34 u35 u36 u37 u38 u39 u40 u41 u42 u43 u44 u45 u46 u47 u48 u49 u50 u51 u52 u53 u54 u55 u56 u57 u58 u59 u60 u61 u62 u63 u64 u65 u66 u67 u68 u69 u70 u71 u72 w4 hM
    obtain ⟨y, hy, hR4, hok, hu⟩ := hM
    have hN := hz3.out
    refine bodyPost_ret (results_cell_row (p := 4) (ty := 45) (by kernel_rfl) _ _ (w.heap.size + 1) _ y.cells (0, 0) _ (by simp) hR4 hun rfl (by rw [hfs, y.size])) rfl ?_
    exact ⟨y, rfl, hy, hok.mono (memFr_mono (Upd.refl (fun _ => False) _) (fun b _ hf => ⟨fun g => hf (by omega), fun g => g⟩)), HBW.out.trans (hu.below (fun b e => by omega) HBW.out.size)⟩
  · have H14 := Lib.hid h14
    clear h14
    go_upto_block 0 with fail
    refine mk_block HC.out H14.out i _ _ _ _ _ _ _ _ _ _ _ _ _ _ _ _ _ _ _ _ _ _ _ _ _ _ _ _ _ _ _ _ _ _ _ _ _ _ _ _ _ _ _ _ _ _ _ _ _ _ _ _ _ _ _ _ _ _ _ _ _ _ _ _ _ _ _ _ _ _ _ _ _ _ _ _ _ _ _ _ _ _ _ _ _ _ _ ?_ (fun c a a2 w2 e h => ⟨e.trans h.1, h.2⟩)
    intro u15 u16 u17 u18 u19 u20 u21 u22 u23 u24 u25 u26 u27 u28 u29 u30 u31 u32 u33 u34 u35 u36 u37 u38 u39 u40 u41 u42 u43 u44 u45 u46 u47 u48 u49 u50 u51 u52 u53 u54 u55 u56 u57 u58 u59 u60 u61 u62 u63 u64 u65 u66 u67 u68 u69 u70 u71 u72 w4 hM
    obtain ⟨y, hy, hT4, hok, hu⟩ := hM
    have HY := Lib.hid hy
    have HOK := Lib.hid hok
    have HU := Lib.hid hu
    have HT4 := Lib.hid hT4
    have HLG : Hid (y.f.lang = ⟨#[]⟩ ∨ y.f.lang = ⟨#[101, 110]⟩) := Lib.hid (by rw [hy]; exact makeK_lang x)
    have HR4 : Hid (w4.heap[w.heap.size + 1]? = some (.cells fe0.cells 45 (0, 0))) := Lib.hid ((hu.block _ (Go.Proofs.YtgbihmafmmeicaaGreatDoor.hlt HC.out.r) (by omega)).trans HC.out.r)
    have hA4 := (hu.block _ (Go.Proofs.YtgbihmafmmeicaaGreatDoor.hlt HC.out.a) (by omega)).trans HC.out.a
    have k2 : w4.cell? ⟨w.heap.size, 2, none⟩ = some (.int .i64 x.c) := blk_cell hA4 2
    have k4 : w4.cell? ⟨w.heap.size + 1 + 1, 4, none⟩ = some (.string y.f.lang) := blk_cell hT4 4
    have k0 : w4.cell? ⟨w.heap.size + 1 + 1, 0, none⟩ = some (.int .i64 y.f.n) := blk_cell hT4 0
    have k1 : w4.cell? ⟨w.heap.size + 1 + 1, 1, none⟩ = some (.int .i64 y.f.time) := blk_cell hT4 1
    have k3 : w4.cell? ⟨w.heap.size + 1 + 1, 3, none⟩ = some (.int .i64 y.f.story) := blk_cell hT4 3
    have f0 := blk_free hT4 0
    have f1 := blk_free hT4 1
    have f3 := blk_free hT4 3
    have f4 := blk_free hT4 4
    have hi1 : (i : Int) ≤ 100000 := by omega
    have HEND : Hid (∀ (l : ByteArray) (W6 : World), l.size ≤ maxLen → (mkE y l i pb).f = makeF i x → Upd (fun b => b = w.heap.size + 1 + 1) w4 W6 → FctPost (makeF i x) w (.returned (.agg (mkE y l i pb).cells)) (W6.setRow (w.heap.size + 1) (mkE y l i pb).cells)) := Lib.hid (fun l W6 hl he hu6 => by
      have hN := hz3.out
      have hf := HOK.out.fok
      have hz4 := HU.out.size
      have hz6 := hu6.size
      have hm : ∀ a u, memFr w4 (fun b => b < W1.heap.size) a = some u → memFr (W6.setRow (w.heap.size + 1) (mkE y l i pb).cells) (fun b => b < w.heap.size) a = some u := fun a u h => by
        obtain ⟨h1, h2, h3⟩ := memFr_lt a u h
        have hn2 : a.block ≠ w.heap.size + 1 := fun e => h2 (by omega)
        have hn3 : a.block ≠ w.heap.size + 1 + 1 := fun e => h2 (by omega)
        have e6 := (setRow_other W6 (w.heap.size + 1) a.block (mkE y l i pb).cells hn2).trans (hu6.block a.block h1 hn3)
        exact memFr_of ((World.cell?_of_block e6).trans (memFr_sees _ _ a u h)) ((World.frozen?_of_block e6).trans h3) (fun g => h2 (by omega))
      refine ⟨mkE y l i pb, rfl, he, ⟨⟨?_, ?_, hf.i2, ?_, hl, hf.i5, hf.i6, hf.s7, hf.s8, hf.i11, hf.i13, hf.i14, hf.i15, hf.i16, hf.i17, hf.s18, hf.s19, hf.i20, hf.i21, hf.i22, hf.bl⟩, HOK.out.parts.mono hm⟩, ?_⟩
      · show okI ((i : Int) + 1); unfold okI; omega
      · show okI (i : Int); unfold okI; omega
      · show okI (1 + pb); unfold okI; omega
      · exact HBW.out.trans (below_setRow ((HU.out.below (fun b e => by omega) (Nat.le_of_eq hN |> fun _ => by omega)).trans ((hu6.below (fun b e => by omega) (by omega)))) (by omega) _))
    clear hy hT4 hok hu hA4
    obtain ⟨lg, hlg⟩ : ∃ lg, lg = y.f.lang := ⟨_, rfl⟩
    rw [← hlg] at k4 HLG
    have HLGE := Lib.hid hlg
    clear hlg
    by_cases hem : lg.data.toList = []
    · have q1 := lang_t lg hem
      have HEM := Lib.hid hem
      have HMK : Hid ((mkE y lg i pb).f = makeF i x) := Lib.hid (by
        have h := HME.out y H14.out HY.out
        unfold langF at h
        rw [if_neg (by rw [← HLGE.out]; exact fun h => h.1 hem), ← HLGE.out] at h
        exact h)
      clear hem
      go_wp2_with (with_reducible refine at_fload_stand _ rfl ?_)
      show wpList _ _ _ _ _ _
      have hu6 := ((((Upd.refl (fun b => b = w.heap.size + 1 + 1) w4).setCell (p := ⟨w.heap.size + 1 + 1, 0, none⟩) (.inl rfl) (.int .i64 ((i : Int) + 1))).setCell (p := ⟨w.heap.size + 1 + 1, 1, none⟩) (.inl rfl) (.int .i64 (i : Int))).setCell (p := ⟨w.heap.size + 1 + 1, 3, none⟩) (.inl rfl) (.int .i64 (1 + pb)))
      have hT6 : (World.setCell (World.setCell (World.setCell w4 ⟨w.heap.size + 1 + 1, 0, none⟩ (.int .i64 ((i : Int) + 1))) ⟨w.heap.size + 1 + 1, 1, none⟩ (.int .i64 (i : Int))) ⟨w.heap.size + 1 + 1, 3, none⟩ (.int .i64 (1 + pb))).heap[w.heap.size + 1 + 1]? = some (.cells (mkE y lg i pb).cells 45 (0, 0)) := by
        have h := (blk_set (j := 3) (u := .int .i64 (1 + pb)) (blk_set (j := 1) (u := .int .i64 (i : Int)) (blk_set (j := 0) (u := .int .i64 ((i : Int) + 1)) HT4.out)))
        rw [HLGE.out]; exact h
      generalize hW6 : (World.setCell (World.setCell (World.setCell w4 ⟨w.heap.size + 1 + 1, 0, none⟩ (.int .i64 ((i : Int) + 1))) ⟨w.heap.size + 1 + 1, 1, none⟩ (.int .i64 (i : Int))) ⟨w.heap.size + 1 + 1, 3, none⟩ (.int .i64 (1 + pb))) = W6 at *
      have HT6 := Lib.hid hT6
      have HU6 := Lib.hid hu6
      have HR6 : Hid (W6.heap[w.heap.size + 1]? = some (.cells fe0.cells 45 (0, 0))) := Lib.hid ((hu6.block _ (Go.Proofs.YtgbihmafmmeicaaGreatDoor.hlt HR4.out) (by omega)).trans HR4.out)
      have HP := Lib.hid (HEND.out lg W6 (by rcases HLG.out with h | h <;> rw [h] <;> first | exact en_ok | (show 0 ≤ maxLen; omega)) HMK.out hu6)
      have hsz : Hid ((mkE y lg i pb).cells.size = 23) := Lib.hid (FctE.size _)
      have hone := Lib.hid (mkE y lg i pb).one
      generalize mkE y lg i pb = Y at *
      clear hu6 hT6 hW6 k0 k1 k2 k3 k4 f0 f1 f3 f4
      go_wp2_with (first
        | ((with_reducible refine at_fload _ rfl ?_); go_must (refine wpList_fct_load rfl _ rfl (w.heap.size + 1 + 1) (by simp [Act.eval]) _ HT6.out hsz.out ?_))
        | ((with_reducible refine at_fstore _ _ rfl ?_); go_must (refine wpList_store_rowTo rfl 45 _ _ rfl rfl (w.heap.size + 1) _ (by simp [Act.eval, Act.put]) (by simp [Act.eval, Act.put]) 45 _ HR6.out (by rw [fct_size, hsz.out]) (by rfl) hone.out ?_)))
      refine bodyPost_ret (results_cell_row (p := 4) (ty := 45) (by kernel_rfl) _ _ (w.heap.size + 1) _ Y.cells (0, 0) _ (by simp [Act.put]) (setRow_heap _ _ _ _ _ _ HR6.out) hun rfl (by rw [hfs, hsz.out])) rfl ?_
      exact HP.out
    · have q1 := lang_f lg hem
      have q2 : (!lg.toList.isEmpty) = true := by rw [q1]; rfl
      have HEM := Lib.hid hem
      clear hem
      by_cases hp : pc = 0
      · have HMK : Hid ((mkE y (strL [100, 101]) i pb).f = makeF i x) := Lib.hid (by
          have h := HME.out y H14.out HY.out
          unfold langF at h
          rw [if_pos ⟨by rw [← HLGE.out]; exact HEM.out, hp⟩] at h
          exact h)
        subst hp
        go_wp2_with fail
        refine (c3.out _).mono ?_
        rintro e w5 ⟨rfl, rfl⟩
        go_wp2_with (with_reducible refine at_fload_stand _ rfl ?_)
        show wpList _ _ _ _ _ _
        have hu6 := (((((Upd.refl (fun b => b = w.heap.size + 1 + 1) w4).setCell (p := ⟨w.heap.size + 1 + 1, 4, none⟩) (.inl rfl) (.string ⟨#[100, 101]⟩)).setCell (p := ⟨w.heap.size + 1 + 1, 0, none⟩) (.inl rfl) (.int .i64 ((i : Int) + 1))).setCell (p := ⟨w.heap.size + 1 + 1, 1, none⟩) (.inl rfl) (.int .i64 (i : Int))).setCell (p := ⟨w.heap.size + 1 + 1, 3, none⟩) (.inl rfl) (.int .i64 (1 + pb)))
        have hT6 : (World.setCell (World.setCell (World.setCell (World.setCell w4 ⟨w.heap.size + 1 + 1, 4, none⟩ (.string ⟨#[100, 101]⟩)) ⟨w.heap.size + 1 + 1, 0, none⟩ (.int .i64 ((i : Int) + 1))) ⟨w.heap.size + 1 + 1, 1, none⟩ (.int .i64 (i : Int))) ⟨w.heap.size + 1 + 1, 3, none⟩ (.int .i64 (1 + pb))).heap[w.heap.size + 1 + 1]? = some (.cells (mkE y (strL [100, 101]) i pb).cells 45 (0, 0)) := by
          have h := (blk_set (j := 3) (u := .int .i64 (1 + pb)) (blk_set (j := 1) (u := .int .i64 (i : Int)) (blk_set (j := 0) (u := .int .i64 ((i : Int) + 1)) (blk_set (j := 4) (u := .string ⟨#[100, 101]⟩) HT4.out))))
          exact h
        generalize hW6 : (World.setCell (World.setCell (World.setCell (World.setCell w4 ⟨w.heap.size + 1 + 1, 4, none⟩ (.string ⟨#[100, 101]⟩)) ⟨w.heap.size + 1 + 1, 0, none⟩ (.int .i64 ((i : Int) + 1))) ⟨w.heap.size + 1 + 1, 1, none⟩ (.int .i64 (i : Int))) ⟨w.heap.size + 1 + 1, 3, none⟩ (.int .i64 (1 + pb))) = W6 at *
        have HT6 := Lib.hid hT6
        have HU6 := Lib.hid hu6
        have HR6 : Hid (W6.heap[w.heap.size + 1]? = some (.cells fe0.cells 45 (0, 0))) := Lib.hid ((hu6.block _ (Go.Proofs.YtgbihmafmmeicaaGreatDoor.hlt HR4.out) (by omega)).trans HR4.out)
        have HP := Lib.hid (HEND.out (strL [100, 101]) W6 (by show 2 ≤ maxLen; unfold maxLen; omega) HMK.out hu6)
        have hsz : Hid ((mkE y (strL [100, 101]) i pb).cells.size = 23) := Lib.hid (FctE.size _)
        have hone := Lib.hid (mkE y (strL [100, 101]) i pb).one
        generalize mkE y (strL [100, 101]) i pb = Y at *
        clear hu6 hT6 hW6 k0 k1 k2 k3 k4 f0 f1 f3 f4
        go_wp2_with (first
          | ((with_reducible refine at_fload _ rfl ?_); go_must (refine wpList_fct_load rfl _ rfl (w.heap.size + 1 + 1) (by simp [Act.eval]) _ HT6.out hsz.out ?_))
          | ((with_reducible refine at_fstore _ _ rfl ?_); go_must (refine wpList_store_rowTo rfl 45 _ _ rfl rfl (w.heap.size + 1) _ (by simp [Act.eval, Act.put]) (by simp [Act.eval, Act.put]) 45 _ HR6.out (by rw [fct_size, hsz.out]) (by rfl) hone.out ?_)))
        refine bodyPost_ret (results_cell_row (p := 4) (ty := 45) (by kernel_rfl) _ _ (w.heap.size + 1) _ Y.cells (0, 0) _ (by simp [Act.put]) (setRow_heap _ _ _ _ _ _ HR6.out) hun rfl (by rw [hfs, hsz.out])) rfl ?_
        exact HP.out
      · have HMK : Hid ((mkE y lg i pb).f = makeF i x) := Lib.hid (by
          have h := HME.out y H14.out HY.out
          unfold langF at h
          rw [if_neg (fun h => hp h.2), ← HLGE.out] at h
          exact h)
        have hp2 : (pc == 0) = false := by simpa using hp
        clear hp
        go_wp2_with fail
        refine (c3.out _).mono ?_
        rintro e w5 ⟨rfl, rfl⟩
        go_wp2_with (with_reducible refine at_fload_stand _ rfl ?_)
        show wpList _ _ _ _ _ _
        have hu6 := ((((Upd.refl (fun b => b = w.heap.size + 1 + 1) w4).setCell (p := ⟨w.heap.size + 1 + 1, 0, none⟩) (.inl rfl) (.int .i64 ((i : Int) + 1))).setCell (p := ⟨w.heap.size + 1 + 1, 1, none⟩) (.inl rfl) (.int .i64 (i : Int))).setCell (p := ⟨w.heap.size + 1 + 1, 3, none⟩) (.inl rfl) (.int .i64 (1 + pb)))
        have hT6 : (World.setCell (World.setCell (World.setCell w4 ⟨w.heap.size + 1 + 1, 0, none⟩ (.int .i64 ((i : Int) + 1))) ⟨w.heap.size + 1 + 1, 1, none⟩ (.int .i64 (i : Int))) ⟨w.heap.size + 1 + 1, 3, none⟩ (.int .i64 (1 + pb))).heap[w.heap.size + 1 + 1]? = some (.cells (mkE y lg i pb).cells 45 (0, 0)) := by
          have h := (blk_set (j := 3) (u := .int .i64 (1 + pb)) (blk_set (j := 1) (u := .int .i64 (i : Int)) (blk_set (j := 0) (u := .int .i64 ((i : Int) + 1)) HT4.out)))
          rw [HLGE.out]; exact h
        generalize hW6 : (World.setCell (World.setCell (World.setCell w4 ⟨w.heap.size + 1 + 1, 0, none⟩ (.int .i64 ((i : Int) + 1))) ⟨w.heap.size + 1 + 1, 1, none⟩ (.int .i64 (i : Int))) ⟨w.heap.size + 1 + 1, 3, none⟩ (.int .i64 (1 + pb))) = W6 at *
        have HT6 := Lib.hid hT6
        have HU6 := Lib.hid hu6
        have HR6 : Hid (W6.heap[w.heap.size + 1]? = some (.cells fe0.cells 45 (0, 0))) := Lib.hid ((hu6.block _ (Go.Proofs.YtgbihmafmmeicaaGreatDoor.hlt HR4.out) (by omega)).trans HR4.out)
        have HP := Lib.hid (HEND.out lg W6 (by rcases HLG.out with h | h <;> rw [h] <;> first | exact en_ok | (show 0 ≤ maxLen; omega)) HMK.out hu6)
        have hsz : Hid ((mkE y lg i pb).cells.size = 23) := Lib.hid (FctE.size _)
        have hone := Lib.hid (mkE y lg i pb).one
        generalize mkE y lg i pb = Y at *
        clear hu6 hT6 hW6 k0 k1 k2 k3 k4 f0 f1 f3 f4
        go_wp2_with (first
          | ((with_reducible refine at_fload _ rfl ?_); go_must (refine wpList_fct_load rfl _ rfl (w.heap.size + 1 + 1) (by simp [Act.eval]) _ HT6.out hsz.out ?_))
          | ((with_reducible refine at_fstore _ _ rfl ?_); go_must (refine wpList_store_rowTo rfl 45 _ _ rfl rfl (w.heap.size + 1) _ (by simp [Act.eval, Act.put]) (by simp [Act.eval, Act.put]) 45 _ HR6.out (by rw [fct_size, hsz.out]) (by rfl) hone.out ?_)))
        refine bodyPost_ret (results_cell_row (p := 4) (ty := 45) (by kernel_rfl) _ _ (w.heap.size + 1) _ Y.cells (0, 0) _ (by simp [Act.put]) (setRow_heap _ _ _ _ _ _ HR6.out) hun rfl (by rw [hfs, hsz.out])) rfl ?_
        exact HP.out
end Go.Proofs.YtgbihmafmmeicaaGreatDoor
namespace Go.Proofs.YtgbihmafmmeicaaGreatDoor
open Go.RowKit Mg Go.Shelf

def okSix (x : Six) : Prop := okI x.a ∧ okI x.b ∧ okI x.c ∧ okI x.d ∧ okI x.e ∧ okI x.f
def SixAt (mem : Addr → Option Value) (x : Six) (b o : Nat) : Prop := mem ⟨b, o, none⟩ = some (.int .i64 x.a) ∧ mem ⟨b, o + 1, none⟩ = some (.int .i64 x.b) ∧ mem ⟨b, o + 2, none⟩ = some (.int .i64 x.c) ∧ mem ⟨b, o + 3, none⟩ = some (.int .i64 x.d) ∧ mem ⟨b, o + 4, none⟩ = some (.int .i64 x.e) ∧ mem ⟨b, o + 5, none⟩ = some (.int .i64 x.f)
def SixM (mem : Addr → Option Value) (v : Value) (xs : List Six) : Prop := ∃ b o, SliceOf v xs.length b o ∧ ∀ j (h : j < xs.length), okSix xs[j] ∧ SixAt mem xs[j] b (o + j * 6)
theorem SixM.mono {mem mem' : Addr → Option Value} {v : Value} {xs : List Six} (h : SixM mem v xs) (hm : ∀ a u, mem a = some u → mem' a = some u) : SixM mem' v xs := by
  obtain ⟨b, o, h1, h2⟩ := h
  refine ⟨b, o, h1, fun j hj => ?_⟩
  obtain ⟨h3, h4, h5, h6, h7, h8, h9⟩ := h2 j hj
  exact ⟨h3, hm _ _ h4, hm _ _ h5, hm _ _ h6, hm _ _ h7, hm _ _ h8, hm _ _ h9⟩
structure ListI (W0 : World) (v : Value) (ys : List FctE) (wr : World) : Prop where
  bel : Below W0.heap.size W0 wr
  row : FRow wr W0.heap.size v ys
  ok : ∀ e ∈ ys, e.ok (memFr wr fun b => b < W0.heap.size ∨ v.ownBlock = some b)
def ListPost (l : List Fct) (W : World) (e : Ending) (w' : World) : Prop := ∃ v ys, e = .returned v ∧ ys.map FctE.f = l ∧ ListI W v ys w'
section
variable {W0 wr w' : World} {v : Value} {ys : List FctE}
theorem ListI.start {W0 : World} : ListI W0 (.slice none 0 0) [] W0 := ⟨Below.refl _ _, FRow.nil _ _, fun e he => by cases he⟩
theorem ListI.below (h : ListI W0 v ys wr) (hb : Below wr.heap.size wr w') : ListI W0 v ys w' :=
  ⟨h.bel.trans (hb.mono h.bel.size), h.row.same fun k hk => hb.block k (h.row.ge k hk).2, fun e he => (h.ok e he).mono (memFr_below hb)⟩
theorem ListI.app {v' : Value} {y : FctE} {ob : Obj} (h : ListI W0 v ys wr) (hy : y.ok (memFr wr fun b => b < W0.heap.size ∨ v.ownBlock = some b)) (hr : FRow w' W0.heap.size v' (ys ++ [y])) (hg : (wr.alloc ob).grownBy w' v.ownBlock)
    (hn : v'.ownBlock = v.ownBlock ∨ v'.ownBlock = some (wr.alloc ob).heap.size) : ListI W0 v' (ys ++ [y]) w' := by
  have hge := h.row.ge
  have hz : (wr.alloc ob).heap.size = wr.heap.size + 1 := by simp
  have hu : Upd (fun b => v.ownBlock = some b) wr w' := ((Upd.refl _ wr).alloc ob).grown hg (fun b e => .inl e)
  refine ⟨h.bel.trans (hu.below (fun k e => (hge k e).1) h.bel.size), hr, fun e he => ?_⟩
  have hm : ∀ a u, memFr wr (fun b => b < W0.heap.size ∨ v.ownBlock = some b) a = some u → memFr w' (fun b => b < W0.heap.size ∨ v'.ownBlock = some b) a = some u :=
    memFr_mono hu fun k hk hf => ⟨fun g => by
      rcases g with g | g
      · exact hf (.inl g)
      · rcases hn with e | e
        · exact hf (.inr (e ▸ g))
        · rw [e] at g; injection g with g; omega, fun g => hf (.inr g)⟩
  rcases List.mem_append.1 he with he | he
  · exact (h.ok e he).mono hm
  · obtain rfl : e = y := by simpa using he
    exact hy.mono hm
theorem ListI.elem {y : FctE} (h : ListI W0 v ys wr) (_hb : Below wr.heap.size wr w') (hy : y.ok (memFr w' fun b => b < wr.heap.size)) : y.ok (memFr w' fun b => b < W0.heap.size ∨ v.ownBlock = some b) :=
  hy.mono (memFr_mono (Upd.refl (fun _ => False) _) (fun b _ hf => ⟨fun g => hf (by
    rcases g with g | g
    · have := h.bel.size; omega
    · exact (h.row.ge b g).2), fun g => g⟩))
end
theorem ListI.es {W0 wr : World} {v : Value} {ys : List FctE} (h : ListI W0 v ys wr) : EsM (fun a => wr.cell? a) v ys := h.row.es (fun y hy => (h.ok y hy).mono (memFr_sees _ _))
def logK (xs : List Six) (k : Nat) : List Fct := (xs.take k).zipIdx.map fun p => makeF p.2 p.1
theorem logK_succ (xs : List Six) {k : Nat} (hk : k < xs.length) : logK xs (k + 1) = logK xs k ++ [makeF k xs[k]] := by
  unfold logK
  rw [List.take_succ_eq_append_getElem hk, List.zipIdx_append, List.map_append]
  congr 1
  simp [List.length_take, Nat.min_eq_left (Nat.le_of_lt hk)]
theorem logK_all (xs : List Six) (k : Nat) (hk : k = 24 ∨ (k = xs.length ∧ k ≤ 24)) : logK xs k = logF xs := by
  unfold logK logF
  rcases hk with rfl | ⟨rfl, h⟩
  · rfl
  · rw [List.take_of_length_le (Nat.le_refl _), List.take_of_length_le h]
set_option maxRecDepth 100000 in
set_option maxHeartbeats 2000000 in
theorem log_any {mem : Addr → Option Value} (v : Value) (xs : List Six) (h : SixM mem v xs) (w : World) (hs : Sees mem w) : Calls Tryz.prog 12 #[v] w (ListPost (logF xs) w) := by
  obtain ⟨b, o, ⟨_, ao, cap, rfl, hcap, hcm, hao⟩, hx⟩ := h
  unfold maxLen at hcm
  have hl : (xs.length : Int) ≤ 9223372036854775807 := by omega
  have HX := Lib.hid hx
  have HAO := Lib.hid hao
  have HS := Lib.hid hs
  clear hx hao hs hcap hcm
  go_enter Tryz.func12, Tryz.ntmps12
  go_wp2_with fail
  go_loopw [3, 4] (fun v i wr => ∃ (k : Nat) (ys : List FctE), k ≤ xs.length ∧ k ≤ 24 ∧ i = .int .i64 k ∧ ys.map FctE.f = logK xs k ∧ ListI w v ys wr) (fun _ i _ => 24 - (intOf i).toNat)
  case atStart => exact ⟨0, [], Nat.zero_le _, by omega, rfl, rfl, ListI.start⟩
  case round =>
    obtain ⟨k, ys, hk, hk24, rfl, hys, hI⟩ := hrel
    obtain ⟨wo, rfl⟩ : ∃ wo, wo = wr := ⟨_, rfl⟩
    obtain ⟨va, vn, vc, rfl⟩ := hI.row.sl
    have HI := Lib.hid hI
    have HYS := Lib.hid hys
    clear hI hys
    have hend : k = 24 ∨ (k = xs.length ∧ k ≤ 24) → ListPost (logF xs) w (.returned (.slice va vn vc)) wo := fun h => ⟨_, ys, rfl, by rw [HYS.out]; exact logK_all xs k h, HI.out⟩
    have HEND := Lib.hid hend
    clear hend
    by_cases hlt : k < xs.length
    · by_cases h24 : k < 24
      · obtain rfl := HAO.out (by omega)
        obtain ⟨hok, c0, c1, c2, c3, c4, c5⟩ := HX.out k hlt
        have hsw := HS.out.bel HI.out.bel
        replace c0 := hsw _ _ c0
        replace c1 := hsw _ _ c1
        replace c2 := hsw _ _ c2
        replace c3 := hsw _ _ c3
        replace c4 := hsw _ _ c4
        replace c5 := hsw _ _ c5
        have HLS := Lib.hid (logK_succ xs hlt)
        have HM := Lib.hid (make_any k (by omega) xs[k] hok wo)
        have hyl : Hid (ys.length ≤ 24) := Lib.hid (by
          have h := congrArg List.length HYS.out
          unfold logK at h
          rw [List.length_map, List.length_map, List.length_zipIdx, List.length_take] at h
          omega)
        clear hok hsw
        unfold sixCells at HM
        generalize xs[k] = x at *
        go_wp2_with fail
        refine HM.out.mono ?_
        rintro e w3 ⟨y, rfl, hy, hyok, hb⟩
        have HI3 := Lib.hid (HI.out.below hb)
        have HY := Lib.hid hy
        have HYO := Lib.hid (HI.out.elem hb hyok)
        have HB := Lib.hid hb
        clear c0 c1 c2 c3 c4 c5 hy hyok hb
        go_wp2_with (first
          | ((with_reducible refine at_fslice _ rfl ?_); go_must (refine wpList_fct_slice rfl _ rfl y (by first | (simp [Act.eval]; done) | simp [Act.eval, Act.put]) ?_))
          | (at_builtin
             go_must (refine wpList_app_fct rfl _ _ rfl w.heap.size _ ys rfl (HI3.out.row.same fun k hk => Below.heap_alloc _ _ _ (HI3.out.row.ge k hk).2) y w3.heap.size 1 rfl (World.alloc_heap_new _ _) (by have := hyl.out; omega) (by have := HI3.out.bel.size; simp; omega) ?_)
             intro v2 w2 h2 hg2 hn2
             have H2 := Lib.hid (HI3.out.app HYO.out h2 hg2 hn2)
             clear h2 hg2 hn2))
        go_roundw
        case rel => exact ⟨k + 1, ys ++ [y], by omega, by omega, by go_num, by rw [HLS.out, List.map_append, HYS.out, List.map_cons, List.map_nil, HY.out], H2.out⟩
        case measure => simp [intOf]; omega
      · have h24' : ¬ (k : Int) < 24 := by omega
        have HP := Lib.hid (HEND.out (.inl (by omega)))
        go_wp2_with fail
        go_ret
        exact HP.out
    · have HP := Lib.hid (HEND.out (.inr ⟨by omega, hk24⟩))
      go_wp2_with fail
      go_ret
      exact HP.out
end Go.Proofs.YtgbihmafmmeicaaGreatDoor
namespace Go.Proofs.YtgbihmafmmeicaaGreatDoor.Mg

def hideB (c : Scn) (op : Bool) (story n : Int) (b : Blk) (k : Nat) : Blk :=
  if op = false ∨ c.ok story b.lab = false then { b with text := if b.kind = 5 then strL [111, 116, 104, 101, 114] else wordF (w64 (n + k)) } else b
def otherF (c : Scn) (pl : Plc) (n : Int) (f : Fct) : Fct :=
  if f.kind = 1 then
    (if c.isOpen f.story f.lab = false then
      { f with blocks := f.blocks.mapIdx (fun k b => hideB c false f.story n b k), title := wordF n, author := strL [111, 116, 104, 101, 114], topics := [strL [115, 101, 99, 114, 101, 116]] }
    else { f with blocks := f.blocks.mapIdx (fun k b => hideB c true f.story n b k) })
  else if f.kind = 4 then (if c.shown f.story = true ∧ pl f.story f.lang f.block = true then f else { f with text := wordF n, sentence := pickF n 4 })
  else if f.kind = 5 then (if c.shown f.story = true then f else { f with text := wordF n })
  else f
theorem hideB_same (c : Scn) (op : Bool) (story n : Int) (b : Blk) (k : Nat) : (hideB c op story n b k).id = b.id ∧ (hideB c op story n b k).lab = b.lab ∧ (hideB c op story n b k).kind = b.kind ∧ (hideB c op story n b k).story = b.story ∧ (hideB c op story n b k).ref = b.ref := by
  unfold hideB; split <;> exact ⟨rfl, rfl, rfl, rfl, rfl⟩
theorem other_keeps (c : Scn) (pl : Plc) (n : Int) (f : Fct) : (otherF c pl n f).kind = f.kind ∧ (otherF c pl n f).story = f.story ∧ (otherF c pl n f).lang = f.lang ∧ (otherF c pl n f).rev = f.rev ∧ (otherF c pl n f).base = f.base ∧ (otherF c pl n f).lab = f.lab ∧ (otherF c pl n f).editor = f.editor ∧ (otherF c pl n f).block = f.block ∧ (otherF c pl n f).n = f.n ∧ (otherF c pl n f).time = f.time := by
  unfold otherF
  repeat' split
  all_goals exact ⟨rfl, rfl, rfl, rfl, rfl, rfl, rfl, rfl, rfl, rfl⟩
theorem other_same {c : Scn} {pl : Plc} {n : Int} {f : Fct} (h : f.kind ≠ 1 ∧ f.kind ≠ 4 ∧ f.kind ≠ 5) : otherF c pl n f = f := by
  unfold otherF; rw [if_neg h.1, if_neg h.2.1, if_neg h.2.2]
theorem placeB_congr {s : Int} {lang : ByteArray} {v : Blk → Bool} : ∀ (l m : List Blk) (pl : Plc), l.length = m.length → (∀ k (h1 : k < l.length) (h2 : k < m.length), m[k].id = l[k].id ∧ v m[k] = v l[k]) → m.foldl (placeB s lang v) pl = l.foldl (placeB s lang v) pl
  | [], [], _, _, _ => rfl
  | [], _ :: _, _, h, _ => by cases h
  | _ :: _, [], _, h, _ => by cases h
  | x :: l, y :: m, pl, h, hk => by
    obtain ⟨e1, e2⟩ := hk 0 (by simp) (by simp)
    have e1 : y.id = x.id := e1
    have e2 : v y = v x := e2
    have e : placeB s lang v pl y = placeB s lang v pl x := by
      funext s' lang' i
      unfold placeB
      rw [e1, e2]
    rw [List.foldl_cons, List.foldl_cons, e]
    exact placeB_congr l m _ (by simpa using h) (fun k h1 h2 => hk (k + 1) (by simpa using h1) (by simpa using h2))
theorem place_hide (c : Scn) (pl : Plc) (n : Int) (f : Fct) (pl' : Plc) : placeF c pl (otherF c pl' n f) = placeF c pl f := by
  by_cases h1 : f.kind = 1
  · obtain ⟨e1, e2, e3, _, _, e4, _⟩ := other_keeps c pl' n f
    unfold placeF
    rw [e1, e2, e3, e4, if_pos h1, if_pos h1]
    have hb : ∃ op, (otherF c pl' n f).blocks = f.blocks.mapIdx (fun k b => hideB c op f.story n b k) := by
      unfold otherF
      rw [if_pos h1]
      split
      · exact ⟨false, rfl⟩
      · exact ⟨true, rfl⟩
    obtain ⟨op, hb⟩ := hb
    rw [hb]
    refine placeB_congr _ _ _ (by simp) (fun k h1 h2 => ?_)
    have e : (f.blocks.mapIdx (fun k b => hideB c op f.story n b k))[k] = hideB c op f.story n f.blocks[k] k := by simp
    rw [e]
    obtain ⟨q1, q2, _⟩ := hideB_same c op f.story n f.blocks[k] k
    exact ⟨q1, by rw [q2]⟩
  · rw [place_other h1, place_other (by rw [(other_keeps c pl' n f).1]; exact h1)]
theorem filter_hide {c : Scn} {story n : Int} (hs : c.shown story = true) : ∀ (l : List Blk) (g : Nat → Nat), (l.mapIdx (fun k b => hideB c true story n b (g k))).filter (fun b => c.isOpen story b.lab) = l.filter (fun b => c.isOpen story b.lab)
  | [], _ => rfl
  | b :: l, g => by
    rw [List.mapIdx_cons]
    have ih := filter_hide (n := n) hs l (fun k => g (k + 1))
    obtain ⟨_, q2, _⟩ := hideB_same c true story n b (g 0)
    by_cases ho : c.isOpen story b.lab = true
    · have e : hideB c true story n b (g 0) = b := by
        unfold hideB
        rw [if_neg]
        rintro (h | h)
        · cases h
        · rw [(open_shown ho).2] at h; cases h
      rw [e, List.filter_cons_of_pos (p := fun b : Blk => c.isOpen story b.lab) ho, List.filter_cons_of_pos (p := fun b : Blk => c.isOpen story b.lab) ho, ih]
    · rw [List.filter_cons_of_neg (p := fun b : Blk => c.isOpen story b.lab) (by rw [q2]; exact ho), List.filter_cons_of_neg (p := fun b : Blk => c.isOpen story b.lab) ho, ih]
theorem seen_hide {c : Scn} {pl : Plc} (hp : PlOK c pl) {n : Int} {f : Fct} : seenAt c pl (otherF c pl n f) = seenAt c pl f := by
  obtain ⟨e1, e2, e3, e4, e5, e6, _, e7, _⟩ := other_keeps c pl n f
  by_cases h1 : f.kind = 1
  · by_cases ho : c.isOpen f.story f.lab = true
    · have hof : ¬ c.isOpen f.story f.lab = false := by rw [ho]; simp
      unfold seenAt
      rw [e1, e2, e6, if_neg (by omega), if_neg (by omega), if_neg (by omega), if_neg (by omega), if_pos h1, if_pos ho]
      rw [if_neg (by omega), if_neg (by omega), if_neg (by omega), if_neg (by omega), if_pos h1, if_pos ho]
      have : revisedF c (otherF c pl n f) = revisedF c f := by
        have eo : otherF c pl n f = { f with blocks := f.blocks.mapIdx (fun k b => hideB c true f.story n b k) } := by
          unfold otherF
          rw [if_pos h1, if_neg hof]
        have hfi := filter_hide (n := n) (open_shown ho).1 f.blocks (fun k => k)
        rw [eo]
        unfold revisedF
        simp only [hfi]
      rw [this]
    · have h0 : ∀ g : Fct, g.kind = 1 → c.isOpen g.story g.lab = false → seenAt c pl g = [] := fun g hk hh => by
        unfold seenAt
        rw [if_neg (by omega), if_neg (by omega), if_neg (by omega), if_neg (by omega), if_pos hk, hh]; rfl
      have ho : c.isOpen f.story f.lab = false := by simpa using ho
      rw [h0 _ (e1.trans h1) (by rw [e2, e6]; exact ho), h0 f h1 ho]
  · by_cases h4 : f.kind = 4
    · by_cases hq : c.shown f.story = true ∧ pl f.story f.lang f.block = true
      · unfold otherF
        rw [if_neg h1, if_pos h4, if_pos hq]
      · have hpl : ¬ pl f.story f.lang f.block = true := fun h => hq ⟨hp _ _ _ h, h⟩
        have h0 : ∀ g : Fct, g.kind = 4 → ¬ pl g.story g.lang g.block = true → seenAt c pl g = [] := fun g hk hh => by
          unfold seenAt
          rw [if_neg (by omega), if_neg (by omega), if_neg (by omega), if_pos hk, if_neg hh]
        rw [h0 _ (e1.trans h4) (by rw [e2, e3, e7]; exact hpl), h0 f h4 hpl]
    · by_cases h5 : f.kind = 5
      · by_cases hq : c.shown f.story = true
        · unfold otherF
          rw [if_neg h1, if_neg h4, if_pos h5, if_pos hq]
        · have h0 : ∀ g : Fct, g.kind = 5 → ¬ c.shown g.story = true → seenAt c pl g = [] := fun g hk hh => by
            unfold seenAt
            rw [if_neg (by omega), if_neg (by omega), if_pos hk, if_neg hh]
          rw [h0 _ (e1.trans h5) (by rw [e2]; exact hq), h0 f h5 hq]
      · rw [other_same ⟨h1, h4, h5⟩]
def hidePairs (c : Scn) (n : Int) : Plc → Nat → List Fct → List (Fct × Fct)
  | _, _, [] => []
  | pl, i, f :: l => (f, otherF c pl (w64 (n + i)) f) :: hidePairs c n (placeF c pl f) (i + 1) l
theorem hidePairs_fst (c : Scn) (n : Int) : ∀ (l : List Fct) (pl : Plc) (i : Nat), (hidePairs c n pl i l).map Prod.fst = l
  | [], _, _ => rfl
  | f :: l, pl, i => by unfold hidePairs; rw [List.map_cons, hidePairs_fst c n l]
theorem hidePairs_at (c : Scn) (n : Int) : ∀ (l : List Fct) (pl : Plc) (i : Nat) (pre post : List (Fct × Fct)) (z : Fct × Fct), hidePairs c n pl i l = pre ++ z :: post → z.2 = otherF c ((pre.map Prod.fst).foldl (placeF c) pl) (w64 (n + (i + pre.length : Nat))) z.1
  | [], _, _, [], _, _, e => by cases e
  | [], _, _, _ :: _, _, _, e => by cases e
  | f :: l, pl, i, [], post, z, e => by
    unfold hidePairs at e
    injection e with e _
    subst e
    rfl
  | f :: l, pl, i, x :: pre, post, z, e => by
    unfold hidePairs at e
    injection e with e1 e2
    subst e1
    have := hidePairs_at c n l _ (i + 1) pre post z e2
    rw [this]
    simp only [List.map_cons, List.foldl_cons, List.length_cons]
    congr 3
    omega
def hidden (c : Scn) (n : Int) : List Fct := (hidePairs c n (fun _ _ _ => false) 0 c.D).map Prod.snd
theorem any_pairs {p : Fct → Bool} : ∀ (zs : List (Fct × Fct)), (∀ z ∈ zs, p z.2 = p z.1) → (zs.map Prod.snd).any p = (zs.map Prod.fst).any p
  | [], _ => rfl
  | z :: zs, h => by
    rw [List.map_cons, List.map_cons, List.any_cons, List.any_cons, h z List.mem_cons_self, any_pairs zs (fun x hx => h x (List.mem_cons_of_mem _ hx))]
theorem lastPub_pairs {s : Int} : ∀ (zs : List (Fct × Fct)), (∀ z ∈ zs, z.2.kind = z.1.kind ∧ z.2.story = z.1.story ∧ z.2.lab = z.1.lab) → (lastPub (zs.map Prod.snd) s).map Fct.lab = (lastPub (zs.map Prod.fst) s).map Fct.lab
  | [], _ => rfl
  | z :: zs, h => by
    have ih := lastPub_pairs (s := s) zs (fun x hx => h x (List.mem_cons_of_mem _ hx))
    obtain ⟨h1, h2, h3⟩ := h z List.mem_cons_self
    have hp : isPub s z.2 = isPub s z.1 := by unfold isPub; rw [h1, h2]
    rw [List.map_cons, List.map_cons]
    unfold lastPub
    cases ha : lastPub (zs.map Prod.fst) s with
    | some x =>
      rw [ha] at ih
      cases hb : lastPub (zs.map Prod.snd) s with
      | some y => rw [hb] at ih; exact ih
      | none => rw [hb] at ih; cases ih
    | none =>
      rw [ha] at ih
      cases hb : lastPub (zs.map Prod.snd) s with
      | some y => rw [hb] at ih; cases ih
      | none =>
        simp only [hp]
        by_cases hq : isPub s z.1 = true
        · rw [if_pos hq, if_pos hq]
          show some _ = some _
          rw [h3]
        · rw [if_neg hq, if_neg hq]
theorem hide_dig (c : Scn) (n : Int) : digF (hidden c n) = digF c.D ∧ (∀ s, apprF (hidden c n) s = apprF c.D s) ∧ (∀ s, takenF (hidden c n) s = takenF c.D s) := by
  have hk : ∀ z ∈ hidePairs c n (fun _ _ _ => false) 0 c.D, z.2.kind = z.1.kind ∧ z.2.story = z.1.story ∧ z.2.lab = z.1.lab ∧ z.2.editor = z.1.editor := fun z hz => by
    obtain ⟨pre, post, e⟩ := List.append_of_mem hz
    rw [hidePairs_at c n _ _ _ pre post z e]
    obtain ⟨e1, e2, _, _, _, e3, e4, _⟩ := other_keeps c ((pre.map Prod.fst).foldl (placeF c) (fun _ _ _ => false)) (w64 (n + (0 + pre.length : Nat))) z.1
    exact ⟨e1, e2, e3, e4⟩
  have hf := hidePairs_fst c n c.D (fun _ _ _ => false) 0
  have ha : ∀ s, apprF (hidden c n) s = apprF c.D s := fun s => by
    unfold apprF hidden
    have : ∀ e : Nat, ((hidePairs c n (fun _ _ _ => false) 0 c.D).map Prod.snd).any (byEditor s ((e : Int) + 1)) = c.D.any (byEditor s ((e : Int) + 1)) := fun e => by
      rw [any_pairs _ (fun z hz => by unfold byEditor; rw [(hk z hz).1, (hk z hz).2.1, (hk z hz).2.2.2]), hf]
    simp only [this]
  have ht : ∀ s, takenF (hidden c n) s = takenF c.D s := fun s => by
    unfold takenF hidden
    rw [any_pairs _ (fun z hz => by unfold isTake; rw [(hk z hz).1, (hk z hz).2.1]), hf]
  have hl : ∀ s, (lastPub (hidden c n) s).map Fct.lab = (lastPub c.D s).map Fct.lab := fun s => by
    unfold hidden
    rw [lastPub_pairs _ (fun z hz => ⟨(hk z hz).1, (hk z hz).2.1, (hk z hz).2.2.1⟩), hf]
  refine ⟨?_, ha, ht⟩
  unfold digF
  congr 1
  · funext s
    have := congrArg Option.isSome (hl s)
    simpa using this
  · funext s
    have := hl s
    unfold labOf
    cases h1 : lastPub (hidden c n) s <;> cases h2 : lastPub c.D s <;> rw [h1, h2] at this <;> simp at this ⊢
    exact this
  · funext s; exact ha s
theorem vis_hide (c : Scn) (n : Int) : visC { c with D := hidden c n } = visC c := by
  have hf := hidePairs_fst c n c.D (fun _ _ _ => false) 0
  have hkeep : ∀ z ∈ hidePairs c n (fun _ _ _ => false) 0 c.D, z.2.kind = z.1.kind ∧ z.2.story = z.1.story ∧ z.2.lang = z.1.lang ∧ z.2.rev = z.1.rev ∧ z.2.base = z.1.base ∧ z.2.lab = z.1.lab := fun z hz => by
    obtain ⟨pre, post, e⟩ := List.append_of_mem hz
    rw [hidePairs_at c n _ _ _ pre post z e]
    obtain ⟨e1, e2, e3, e4, e5, e6, _⟩ := other_keeps c ((pre.map Prod.fst).foldl (placeF c) (fun _ _ _ => false)) (w64 (n + (0 + pre.length : Nat))) z.1
    exact ⟨e1, e2, e3, e4, e5, e6⟩
  obtain ⟨_, ha, ht⟩ := hide_dig c n
  have hA : Alike c { c with D := hidden c n } (hidePairs c n (fun _ _ _ => false) 0 c.D) :=
    ⟨hf.symm, rfl, rfl, rfl, rfl, ha, ht, fun z hz s lang b _ => by
      obtain ⟨e1, e2, e3, e4, e5, e6⟩ := hkeep z hz
      unfold isRev
      rw [e1, e2, e3, e4]
      exact ⟨rfl, fun _ => ⟨rfl, e6, e5⟩⟩⟩
  refine hA.vis fun pre z post e hp => ?_
  have hz := hidePairs_at c n _ _ _ pre post z e
  rw [hz, hA.seen, hA.place]
  exact ⟨seen_hide hp, place_hide c _ _ _ _⟩
end Go.Proofs.YtgbihmafmmeicaaGreatDoor.Mg
namespace Go.Proofs.YtgbihmafmmeicaaGreatDoor
open Mg

theorem makeK_cases (x : Six) : (∃ l, makeK x = { revF x with lang := l }) ∨ (∃ e, makeK x = { fct0 with kind := 2, editor := e }) ∨ (∃ l, makeK x = { fct0 with kind := 3, lab := l }) ∨ (∃ l b s t, makeK x = { fct0 with kind := 4, lang := l, block := b, sentence := s, text := t }) ∨ (∃ t, makeK x = { fct0 with kind := 5, text := t }) ∨ makeK x = { fct0 with kind := 6 } := by
  unfold makeK
  dsimp only
  repeat' split
  all_goals first
    | exact .inl ⟨_, rfl⟩
    | exact .inr (.inl ⟨_, rfl⟩)
    | exact .inr (.inr (.inl ⟨_, rfl⟩))
    | exact .inr (.inr (.inr (.inl ⟨_, _, _, _, rfl⟩)))
    | exact .inr (.inr (.inr (.inr (.inl ⟨_, rfl⟩))))
    | exact .inr (.inr (.inr (.inr (.inr rfl))))
theorem if_str0 (p : Prop) [Decidable p] : (if str0.data.toList ≠ [] ∧ p then strL [100, 101] else str0) = str0 := if_neg (fun h => h.1 rfl)
theorem make_tidy (i : Nat) (x : Six) : Tidy (makeF i x) := by
  unfold makeF
  by_cases h : pickF x.a 16 = 14
  · rw [if_pos h]
    exact ⟨.inr (.inr (.inr (.inr (.inr (.inr (.inl rfl)))))), rfl⟩
  · rw [if_neg h]
    rcases makeK_cases x with ⟨l, e⟩ | ⟨q, e⟩ | ⟨l, e⟩ | ⟨l, b, s, t, e⟩ | ⟨t, e⟩ | e
    · rw [e]
      exact ⟨.inl rfl, rfl⟩
    · rw [e]
      dsimp only
      rw [show (fct0.lang) = str0 from rfl, if_str0]
      exact ⟨.inr (.inl rfl), rfl⟩
    · rw [e]
      dsimp only
      rw [show (fct0.lang) = str0 from rfl, if_str0]
      exact ⟨.inr (.inr (.inl rfl)), rfl⟩
    · rw [e]
      exact ⟨.inr (.inr (.inr (.inl rfl))), rfl⟩
    · rw [e]
      dsimp only
      rw [show (fct0.lang) = str0 from rfl, if_str0]
      exact ⟨.inr (.inr (.inr (.inr (.inl rfl)))), rfl⟩
    · rw [e]
      dsimp only
      rw [show (fct0.lang) = str0 from rfl, if_str0]
      exact ⟨.inr (.inr (.inr (.inr (.inr (.inl rfl))))), rfl⟩
theorem logF_len (xs : List Six) : (logF xs).length ≤ 24 := by
  unfold logF
  rw [List.length_map, List.length_zipIdx, List.length_take]
  omega
theorem logF_get (xs : List Six) (j : Nat) (hj : j < (logF xs).length) : ∃ x, (logF xs)[j] = makeF j x := by
  have h := List.getElem?_eq_getElem hj
  generalize (logF xs)[j] = f at h
  unfold logF at h
  rw [List.getElem?_map, List.getElem?_zipIdx] at h
  cases e : (List.take 24 xs)[j]? with
  | none => rw [e] at h; simp at h
  | some y => rw [e] at h; simp at h; exact ⟨y, h.symm⟩
theorem logF_mem (xs : List Six) : ∀ f ∈ logF xs, ∃ j x, f = makeF j x ∧ j < 24 := fun f hf => by
  obtain ⟨j, hj, rfl⟩ := List.getElem_of_mem hf
  obtain ⟨x, hx⟩ := logF_get xs j hj
  exact ⟨j, x, hx, by have := logF_len xs; omega⟩
theorem logF_tidy (xs : List Six) : ∀ f ∈ logF xs, Tidy f := fun f hf => by
  obtain ⟨j, x, rfl, _⟩ := logF_mem xs f hf
  exact make_tidy j x
end Go.Proofs.YtgbihmafmmeicaaGreatDoor
namespace Go.Proofs.YtgbihmafmmeicaaGreatDoor
open Go.RowKit Mg Go.Shelf Go.Maps

set_option maxRecDepth 100000 in
set_option maxHeartbeats 4000000 in
theorem vis_k5 {mem : Addr → Option Value} {W0 : World} {io db cb nb ob d B : Nat} {gs : List FctE} {cls now : Int} {ov : Value} {out : List Int} {fa : Option Addr} {fc fb fo : Nat} {SC : Scn} (C : VisC mem W0 io db cb nb ob d B gs cls now ov out fa fc fb fo SC) (c0 c1 c2 c6 c9 c10 c14 c18 c20 c21 c22 c23 c24 c25 c26 c27 c28 c29 c30 c31 c32 c33 c34 c35 c36 c37 c38 c39 c40 c41 c42 c43 c139 : Value) (u15 u16 u17 u19 u47 u48 u49 u50 u51 u52 u53 u54 u55 u56 u57 u58 u59 u60 u61 u62 u63 u64 u65 u66 u67 u68 u69 u70 u71 u72 u73 u74 u75 u76 u77 u78 u79 u80 u81 u82 u83 u84 u85 u86 u87 u88 u89 u90 u91 u92 u93 u94 u95 u96 u97 u98 u99 u100 u101 u102 u103 u104 u105 u106 u107 u108 u109 u110 u111 u112 u113 u114 u115 u116 u117 u118 u119 u120 u121 u122 u123 u124 u125 u126 u127 u128 u129 u130 u131 u132 u133 u134 u135 u136 u137 u138 : Value) (v : Value) (k : Nat) (x : FctE) (hk : k < gs.length) (hx : gs[k] = x) (hkd : x.f.kind = 5) (wr : World) (hR : VisR W0 SC k v (.int .i64 k) wr) (Q : Exit → Act → World → Prop)
    (hQ : ∀ (u12 u15 u16 u17 u19 u46 u47 u48 u49 u50 u51 u52 u53 u54 u55 u56 u57 u58 u59 u60 u61 u62 u63 u64 u65 u66 u67 u68 u69 u70 u71 u72 u73 u74 u75 u76 u77 u78 u79 u80 u81 u82 u83 u84 u85 u86 u87 u88 u89 u90 u91 u92 u93 u94 u95 u96 u97 u98 u99 u100 u101 u102 u103 u104 u105 u106 u107 u108 u109 u110 u111 u112 u113 u114 u115 u116 u117 u118 u119 u120 u121 u122 u123 u124 u125 u126 u127 u128 u129 u130 u131 u132 u133 u134 u135 u136 u137 u138 : Value) (w2 : World), VisR W0 SC (k + 1) u12 u46 w2 → Q .normal ⟨#[c0, c1, c2, .pointer (some ⟨db, 0, none⟩), .pointer (some ⟨cb, 0, none⟩), .pointer (some ⟨nb, 0, none⟩), c6, .pointer (some ⟨ob, 0, none⟩), .pointer (some ⟨io, 0, none⟩), c9, c10, openV io db cb nb ob, u12, .map (some W0.heap.size), c14, u15, u16, u17, c18, u19, c20, c21, c22, c23, c24, c25, c26, c27, c28, c29, c30, c31, c32, c33, c34, c35, c36, c37, c38, c39, c40, c41, c42, c43, .slice fa gs.length fc, .int .i64 gs.length, u46, u47, u48, u49, u50, u51, u52, u53, u54, u55, u56, u57, u58, u59, u60, u61, u62, u63, u64, u65, u66, u67, u68, u69, u70, u71, u72, u73, u74, u75, u76, u77, u78, u79, u80, u81, u82, u83, u84, u85, u86, u87, u88, u89, u90, u91, u92, u93, u94, u95, u96, u97, u98, u99, u100, u101, u102, u103, u104, u105, u106, u107, u108, u109, u110, u111, u112, u113, u114, u115, u116, u117, u118, u119, u120, u121, u122, u123, u124, u125, u126, u127, u128, u129, u130, u131, u132, u133, u134, u135, u136, u137, u138, c139], []⟩ w2) (hP : ∀ c a a2 w2, a2.defers = a.defers → Q (.panic c) a w2 → Q (.panic c) a2 w2) :
    visBody.wp Tryz.prog Q ⟨#[c0, c1, c2, .pointer (some ⟨db, 0, none⟩), .pointer (some ⟨cb, 0, none⟩), .pointer (some ⟨nb, 0, none⟩), c6, .pointer (some ⟨ob, 0, none⟩), .pointer (some ⟨io, 0, none⟩), c9, c10, openV io db cb nb ob, v, .map (some W0.heap.size), c14, u15, u16, u17, c18, u19, c20, c21, c22, c23, c24, c25, c26, c27, c28, c29, c30, c31, c32, c33, c34, c35, c36, c37, c38, c39, c40, c41, c42, c43, .slice fa gs.length fc, .int .i64 gs.length, (.int .i64 k), u47, u48, u49, u50, u51, u52, u53, u54, u55, u56, u57, u58, u59, u60, u61, u62, u63, u64, u65, u66, u67, u68, u69, u70, u71, u72, u73, u74, u75, u76, u77, u78, u79, u80, u81, u82, u83, u84, u85, u86, u87, u88, u89, u90, u91, u92, u93, u94, u95, u96, u97, u98, u99, u100, u101, u102, u103, u104, u105, u106, u107, u108, u109, u110, u111, u112, u113, u114, u115, u116, u117, u118, u119, u120, u121, u122, u123, u124, u125, u126, u127, u128, u129, u130, u131, u132, u133, u134, u135, u136, u137, u138, c139], []⟩ wr := by
  conv => arg 2; whnf
  obtain ⟨ys, _, hys, hI⟩ := hR
  have HP := Lib.hid hP
  clear hP
  have HN := Lib.hid (C.next hk hx)
  obtain rfl := C.fa (by omega)
  have hat : Hid (x.at (fun p => wr.cell? p) fb (fo + k * 23)) := Lib.hid (fun j u hj => (hI.bel.cell (World.block_lt_of_cell? W0 _ (C.at_ k hk j u (by rw [hx]; exact hj)))).trans (C.at_ k hk j u (by rw [hx]; exact hj)))
  have hxm : x ∈ gs := by rw [← hx]; exact List.getElem_mem hk
  obtain ⟨hok, hvl⟩ := C.good x hxm
  have HOK := Lib.hid hok
  have HVL := Lib.hid hvl
  have hsz : Hid (x.cells.size = 23) := Lib.hid rfl
  have hone := Lib.hid x.one
  have HC := Lib.hid C
  have HI := Lib.hid hI
  have HYS := Lib.hid hys
  have HQ := Lib.hid hQ
  have HKD := Lib.hid hkd
  have hle := C.len
  have hlk : (k : Int) < gs.length := by omega
  have hyl : Hid (ys.length ≤ 1000) := Lib.hid (by have h1 := visK_len SC k; rw [← hys, List.length_map] at h1; omega)
  have HB1 : Hid (Below wr.heap.size wr (wr.alloc (.cells x.cells 45))) := Lib.hid ((Below.refl _ wr).alloc (Nat.le_refl _) _)
  have HNEW := Lib.hid (World.alloc_heap_new wr (.cells x.cells 45))
  have hsz1 : wr.heap.size < (wr.alloc (.cells x.cells 45)).heap.size := by simp
  clear hx hI hys hQ hkd hxm hok hvl C
  go_upto_region 16 with (first
    | ((with_reducible refine at_fload (.tmp 48) rfl ?_); go_must (refine wpList_fct_mid rfl _ rfl (by simp [Act.eval]) hat.out ?_))
    | ((with_reducible refine at_fstore _ _ rfl ?_); go_must (refine wpList_fct_new rfl _ _ rfl rfl _ _ _ (by simp [Act.eval]) (by simp [Act.eval]) (by rfl) hsz.out hone.out ?_)))
  generalize hT : wr.heap.size = T at *
  generalize hW1 : wr.alloc (.cells x.cells 45) = W1 at *
  clear hW1
  have k2 := blk_cell HNEW.out 2
  have k3 := blk_cell HNEW.out 3
  have f9 := blk_free HNEW.out 9
  have f10 := blk_free HNEW.out 10
  have f11 := blk_free HNEW.out 11
  have f12 := blk_free HNEW.out 12
  have f13 := blk_free HNEW.out 13
  have f14 := blk_free HNEW.out 14
  have k9 : W1.cell? ⟨T, 9, none⟩ = some x.tv := blk_cell HNEW.out 9
  have k10 : W1.cell? ⟨T, 10, none⟩ = some x.bv := blk_cell HNEW.out 10
  have k11 : W1.cell? ⟨T, 11, none⟩ = some (.int .i64 x.f.lab.till) := blk_cell HNEW.out 11
  have k12 : W1.cell? ⟨T, 12, none⟩ = some x.av := blk_cell HNEW.out 12
  have k13 : W1.cell? ⟨T, 13, none⟩ = some (.int .i64 x.f.lab.appr) := blk_cell HNEW.out 13
  have k14 : W1.cell? ⟨T, 14, none⟩ = some (.int .i64 x.f.lab.denied) := blk_cell HNEW.out 14
  rw [show x.cells[2]? = some (.int .i64 x.f.kind) from rfl, HKD.out] at k2
  rw [show x.cells[3]? = some (.int .i64 x.f.story) from rfl] at k3
  obtain ⟨s, hs, hs1, hs64⟩ := good_story HVL.out (by rw [HKD.out]; decide)
  have HS := Lib.hid hs
  have HO := Lib.hid (HC.out.open_.bel (HI.out.bel.trans (HB1.out.mono (by rw [← hT]; exact HI.out.bel.size))))
  have k0 := HO.out.tab.cell (j := s) (by omega)
  unfold inT at k0
  rw [hs] at k3
  clear hs
  have hs0 : (0 : Int) ≤ (s : Nat) := by omega
  have hs65 : ((s : Nat) : Int) < 65 := by omega
  have kd0 := blk_cell HO.out.dg 0
  have kt := HO.out.dig.tak (k := s) (by omega)
  simp only [List.getElem?_toArray, List.getElem?_cons_zero] at kd0
  have HSH : Hid (SC.shown x.f.story = (decide (((s : Nat) : Int) ∈ out) && !takenF (gs.map FctE.f) (s : Nat))) := Lib.hid (by rw [HS.out, HC.out.sc]; rfl)
  generalize decide (((s : Nat) : Int) ∈ out) = qi at k0 HSH
  generalize takenF (gs.map FctE.f) (s : Nat) = qt at kt HSH
  have HBX : Hid (Below T wr W1.drew) := Lib.hid HB1.out.drew
  cases qi
  · have HSS : Hid (W1.drew.cell? ⟨T, 3, none⟩ = some (.int .i64 (s : Nat)) ∧ W1.drew.cell? ⟨io, s, none⟩ = some (.bool false) ∧ W1.drew.cell? ⟨db, 0, none⟩ = some (.pointer (some ⟨d, 0, none⟩)) ∧ W1.drew.cell? ⟨d, 66 + s, none⟩ = some (.bool qt)) := Lib.hid ⟨k3, k0, kd0, kt⟩
    clear k0 k3 kd0 kt
    go_wp2_with fail
    refine wp_mix [mT, mT, mT, mT, mT, mT, mT, mT, mT, mT, mT, mT, mT, mF, mF] 1000 (fun W2 => W2.cell? ⟨T, 3, none⟩ = some (.int .i64 (s : Nat)) ∧ W2.cell? ⟨io, s, none⟩ = some (.bool false) ∧ W2.cell? ⟨db, 0, none⟩ = some (.pointer (some ⟨d, 0, none⟩)) ∧ W2.cell? ⟨d, 66 + s, none⟩ = some (.bool qt)) (by kernel_rfl) (by kernel_rfl) HSS.out ?_
    refine wpMix_take (.pointer (some ⟨T, 3, none⟩)) (fun _ _ _ _ h => HP.out _ _ _ _ (by rfl) h) HSS.out (by rfl) (fun W2 hW => by go_simp) ?_
    simp only [Act.put, List.setIfInBounds_toArray, List.set_cons_zero, List.set_cons_succ]
    refine wpMix_take (.int .i64 (s : Nat)) (fun _ _ _ _ h => HP.out _ _ _ _ (by rfl) h) HSS.out (by rfl) (fun W2 hW => by have q0 := hW.1; go_simp) ?_
    simp only [Act.put, List.setIfInBounds_toArray, List.set_cons_zero, List.set_cons_succ]
    refine wpMix_take (.pointer (some ⟨io, s, none⟩)) (fun _ _ _ _ h => HP.out _ _ _ _ (by rfl) h) HSS.out (by rfl) (fun W2 hW => by go_simp) ?_
    simp only [Act.put, List.setIfInBounds_toArray, List.set_cons_zero, List.set_cons_succ]
    refine wpMix_take (.bool false) (fun _ _ _ _ h => HP.out _ _ _ _ (by rfl) h) HSS.out (by rfl) (fun W2 hW => by have q0 := hW.2.1; go_simp) ?_
    simp only [Act.put, List.setIfInBounds_toArray, List.set_cons_zero, List.set_cons_succ]
    refine wpMix_take (.bool false) (fun _ _ _ _ h => HP.out _ _ _ _ (by rfl) h) HSS.out (by rfl) (fun W2 hW => by go_simp) ?_
    simp only [Act.put, List.setIfInBounds_toArray, List.set_cons_zero, List.set_cons_succ]
    refine wpMix_skip (fun _ _ _ _ h => HP.out _ _ _ _ (by rfl) h) HSS.out (by rfl) ?_
    simp only [Act.put, List.setIfInBounds_toArray, List.set_cons_zero, List.set_cons_succ]
    refine wpMix_skip (fun _ _ _ _ h => HP.out _ _ _ _ (by rfl) h) HSS.out (by rfl) ?_
    simp only [Act.put, List.setIfInBounds_toArray, List.set_cons_zero, List.set_cons_succ]
    refine wpMix_skip (fun _ _ _ _ h => HP.out _ _ _ _ (by rfl) h) HSS.out (by rfl) ?_
    simp only [Act.put, List.setIfInBounds_toArray, List.set_cons_zero, List.set_cons_succ]
    refine wpMix_skip (fun _ _ _ _ h => HP.out _ _ _ _ (by rfl) h) HSS.out (by rfl) ?_
    simp only [Act.put, List.setIfInBounds_toArray, List.set_cons_zero, List.set_cons_succ]
    refine wpMix_skip (fun _ _ _ _ h => HP.out _ _ _ _ (by rfl) h) HSS.out (by rfl) ?_
    simp only [Act.put, List.setIfInBounds_toArray, List.set_cons_zero, List.set_cons_succ]
    refine wpMix_skip (fun _ _ _ _ h => HP.out _ _ _ _ (by rfl) h) HSS.out (by rfl) ?_
    simp only [Act.put, List.setIfInBounds_toArray, List.set_cons_zero, List.set_cons_succ]
    refine wpMix_skip (fun _ _ _ _ h => HP.out _ _ _ _ (by rfl) h) HSS.out (by rfl) ?_
    simp only [Act.put, List.setIfInBounds_toArray, List.set_cons_zero, List.set_cons_succ]
    refine wpMix_skip (fun _ _ _ _ h => HP.out _ _ _ _ (by rfl) h) HSS.out (by rfl) ?_
    simp only [Act.put, List.setIfInBounds_toArray, List.set_cons_zero, List.set_cons_succ]
    refine wpMix_step (fun K hK => ?_); go_simp; refine hK _ _ HSS.out ?_; clear hK K
    refine wpMix_step (fun K hK => ?_); go_simp; refine hK _ _ HSS.out ?_; clear hK K
    refine wpMix_nil ?_
    go_wp2_with fail
    exact HQ.out _ _ _ _ _ _ _ _ _ _ _ _ _ _ _ _ _ _ _ _ _ _ _ _ _ _ _ _ _ _ _ _ _ _ _ _ _ _ _ _ _ _ _ _ _ _ _ _ _ _ _ _ _ _ _ _ _ _ _ _ _ _ _ _ _ _ _ _ _ _ _ _ _ _ _ _ _ _ _ _ _ _ _ _ _ _ _ _ _ _ _ _ _ _ _ _ _ _ _ (vis_skip HN.out (by unfold seenAt; rw [if_neg (by rw [HKD.out]; decide), if_neg (by rw [HKD.out]; decide), if_pos HKD.out, HSH.out]; rfl) (by rw [HKD.out]; decide) (by go_num) HYS.out (HI.out.below (by rw [hT]; exact HBX.out)))
  cases qt
  · have HSS : Hid (W1.drew.cell? ⟨T, 3, none⟩ = some (.int .i64 (s : Nat)) ∧ W1.drew.cell? ⟨io, s, none⟩ = some (.bool true) ∧ W1.drew.cell? ⟨db, 0, none⟩ = some (.pointer (some ⟨d, 0, none⟩)) ∧ W1.drew.cell? ⟨d, 66 + s, none⟩ = some (.bool false)) := Lib.hid ⟨k3, k0, kd0, kt⟩
    clear k0 k3 kd0 kt
    go_wp2_with fail
    refine wp_mix [mT, mT, mT, mT, mT, mT, mT, mT, mT, mT, mT, mT, mT, mF, mF] 1000 (fun W2 => W2.cell? ⟨T, 3, none⟩ = some (.int .i64 (s : Nat)) ∧ W2.cell? ⟨io, s, none⟩ = some (.bool true) ∧ W2.cell? ⟨db, 0, none⟩ = some (.pointer (some ⟨d, 0, none⟩)) ∧ W2.cell? ⟨d, 66 + s, none⟩ = some (.bool false)) (by kernel_rfl) (by kernel_rfl) HSS.out ?_
    refine wpMix_take (.pointer (some ⟨T, 3, none⟩)) (fun _ _ _ _ h => HP.out _ _ _ _ (by rfl) h) HSS.out (by rfl) (fun W2 hW => by go_simp) ?_
    simp only [Act.put, List.setIfInBounds_toArray, List.set_cons_zero, List.set_cons_succ]
    refine wpMix_take (.int .i64 (s : Nat)) (fun _ _ _ _ h => HP.out _ _ _ _ (by rfl) h) HSS.out (by rfl) (fun W2 hW => by have q0 := hW.1; go_simp) ?_
    simp only [Act.put, List.setIfInBounds_toArray, List.set_cons_zero, List.set_cons_succ]
    refine wpMix_take (.pointer (some ⟨io, s, none⟩)) (fun _ _ _ _ h => HP.out _ _ _ _ (by rfl) h) HSS.out (by rfl) (fun W2 hW => by go_simp) ?_
    simp only [Act.put, List.setIfInBounds_toArray, List.set_cons_zero, List.set_cons_succ]
    refine wpMix_take (.bool true) (fun _ _ _ _ h => HP.out _ _ _ _ (by rfl) h) HSS.out (by rfl) (fun W2 hW => by have q0 := hW.2.1; go_simp) ?_
    simp only [Act.put, List.setIfInBounds_toArray, List.set_cons_zero, List.set_cons_succ]
    refine wpMix_take (.bool true) (fun _ _ _ _ h => HP.out _ _ _ _ (by rfl) h) HSS.out (by rfl) (fun W2 hW => by go_simp) ?_
    simp only [Act.put, List.setIfInBounds_toArray, List.set_cons_zero, List.set_cons_succ]
    refine wpMix_take (.pointer (some ⟨d, 0, none⟩)) (fun _ _ _ _ h => HP.out _ _ _ _ (by rfl) h) HSS.out (by rfl) (fun W2 hW => by have q0 := hW.2.2.1; go_simp) ?_
    simp only [Act.put, List.setIfInBounds_toArray, List.set_cons_zero, List.set_cons_succ]
    refine wpMix_take (.pointer (some ⟨T, 3, none⟩)) (fun _ _ _ _ h => HP.out _ _ _ _ (by rfl) h) HSS.out (by rfl) (fun W2 hW => by go_simp) ?_
    simp only [Act.put, List.setIfInBounds_toArray, List.set_cons_zero, List.set_cons_succ]
    refine wpMix_take (.int .i64 (s : Nat)) (fun _ _ _ _ h => HP.out _ _ _ _ (by rfl) h) HSS.out (by rfl) (fun W2 hW => by have q0 := hW.1; go_simp) ?_
    simp only [Act.put, List.setIfInBounds_toArray, List.set_cons_zero, List.set_cons_succ]
    refine wpMix_take (.pointer (some ⟨d, 0, none⟩)) (fun _ _ _ _ h => HP.out _ _ _ _ (by rfl) h) HSS.out (by rfl) (fun W2 hW => by go_simp) ?_
    simp only [Act.put, List.setIfInBounds_toArray, List.set_cons_zero, List.set_cons_succ]
    refine wpMix_take (.pointer (some ⟨d, 66, none⟩)) (fun _ _ _ _ h => HP.out _ _ _ _ (by rfl) h) HSS.out (by rfl) (fun W2 hW => by go_simp) ?_
    simp only [Act.put, List.setIfInBounds_toArray, List.set_cons_zero, List.set_cons_succ]
    refine wpMix_take (.pointer (some ⟨d, 66 + s, none⟩)) (fun _ _ _ _ h => HP.out _ _ _ _ (by rfl) h) HSS.out (by rfl) (fun W2 hW => by go_simp) ?_
    simp only [Act.put, List.setIfInBounds_toArray, List.set_cons_zero, List.set_cons_succ]
    refine wpMix_take (.bool false) (fun _ _ _ _ h => HP.out _ _ _ _ (by rfl) h) HSS.out (by rfl) (fun W2 hW => by have q0 := hW.2.2.2; go_simp) ?_
    simp only [Act.put, List.setIfInBounds_toArray, List.set_cons_zero, List.set_cons_succ]
    refine wpMix_take (.bool true) (fun _ _ _ _ h => HP.out _ _ _ _ (by rfl) h) HSS.out (by rfl) (fun W2 hW => by go_simp) ?_
    simp only [Act.put, List.setIfInBounds_toArray, List.set_cons_zero, List.set_cons_succ]
    refine wpMix_step (fun K hK => ?_); go_simp; refine hK _ _ HSS.out ?_; clear hK K
    refine wpMix_step (fun K hK => ?_); go_simp; refine hK _ _ HSS.out ?_; clear hK K
    refine wpMix_nil ?_
    clear HBX
    obtain ⟨W1', hW1'⟩ : ∃ W1', W1' = W1.drew := ⟨_, rfl⟩
    rw [← hW1']
    have HNEW' : Hid (W1'.heap[T]? = some (.cells x.cells 45 (0, 0))) := Lib.hid (by rw [hW1']; exact HNEW.out)
    have HB1' : Hid (Below T wr W1') := Lib.hid (by rw [hW1']; exact HB1.out.drew)
    have hsz1' : T < W1'.heap.size := by rw [hW1']; exact hsz1
    clear hW1' HNEW HB1 hsz1 HO k9 k10 k11 k12 k13 k14 f9 f10 f11 f12 f13 f14
    obtain ⟨W1, rfl⟩ : ∃ W1, W1 = W1' := ⟨_, rfl⟩
    have HNEW := HNEW'
    have HB1 := HB1'
    have hsz1 := hsz1'
    have k9 : W1.cell? ⟨T, 9, none⟩ = some x.tv := blk_cell HNEW.out 9
    have k10 : W1.cell? ⟨T, 10, none⟩ = some x.bv := blk_cell HNEW.out 10
    have k11 : W1.cell? ⟨T, 11, none⟩ = some (.int .i64 x.f.lab.till) := blk_cell HNEW.out 11
    have k12 : W1.cell? ⟨T, 12, none⟩ = some x.av := blk_cell HNEW.out 12
    have k13 : W1.cell? ⟨T, 13, none⟩ = some (.int .i64 x.f.lab.appr) := blk_cell HNEW.out 13
    have k14 : W1.cell? ⟨T, 14, none⟩ = some (.int .i64 x.f.lab.denied) := blk_cell HNEW.out 14
    have f9 := blk_free HNEW.out 9
    have f10 := blk_free HNEW.out 10
    have f11 := blk_free HNEW.out 11
    have f12 := blk_free HNEW.out 12
    have f13 := blk_free HNEW.out 13
    have f14 := blk_free HNEW.out 14
    clear HNEW' HB1' hsz1'
    go_wp2_with (with_reducible refine at_fload_stand (.tmp 15) rfl ?_)
    show wpList _ _ _ _ _ _
    generalize hW6 : (World.setCell (World.setCell (World.setCell (World.setCell (World.setCell (World.setCell W1 ⟨T, 9, none⟩ _) ⟨T, 10, none⟩ _) ⟨T, 11, none⟩ _) ⟨T, 12, none⟩ _) ⟨T, 13, none⟩ _) ⟨T, 14, none⟩ _) = W6
    have hu6 : Upd (fun b => b = T) W1 W6 := by
      rw [← hW6]
      exact ((((((Upd.refl (fun b => b = T) W1).setCell (p := ⟨T, 9, none⟩) (.inl rfl) _).setCell (p := ⟨T, 10, none⟩) (.inl rfl) _).setCell (p := ⟨T, 11, none⟩) (.inl rfl) _).setCell (p := ⟨T, 12, none⟩) (.inl rfl) _).setCell (p := ⟨T, 13, none⟩) (.inl rfl) _).setCell (p := ⟨T, 14, none⟩) (.inl rfl) _
    have HC6 : Hid (W6.heap[T]? = some (.cells (stripE x).cells 45 (0, 0))) := Lib.hid (by
      rw [← hW6]
      exact blk_set (j := 14) (u := .int .i64 0) (blk_set (j := 13) (u := .int .i64 0) (blk_set (j := 12) (u := nilS) (blk_set (j := 11) (u := .int .i64 0) (blk_set (j := 10) (u := nilS) (blk_set (j := 9) (u := nilS) HNEW.out))))))
    have HB6 : Hid (Below T wr W6) := Lib.hid (HB1.out.trans (hu6.below (fun k e => by omega) (Nat.le_of_lt hsz1)))
    have HI6 := Lib.hid (HI.out.below (by rw [hT]; exact HB6.out))
    have hss : Hid ((stripE x).cells.size = 23) := Lib.hid rfl
    clear hW6 hu6 k9 k10 k11 k12 k13 k14 f9 f10 f11 f12 f13 f14
    go_wp2_with (first
      | ((with_reducible refine at_fload _ rfl ?_); go_must (refine wpList_fct_load rfl _ rfl T (by simp [Act.eval]) _ HC6.out hss.out ?_))
      | ((with_reducible refine at_fslice _ rfl ?_); go_must (refine wpList_fct_slice rfl _ rfl (stripE x) (by first | (simp [Act.eval]; done) | simp [Act.eval, Act.put]) ?_))
      | (at_builtin
         go_must (refine wpList_app_fct rfl _ _ rfl (W0.heap.size + 1) _ ys rfl (HI6.out.row.same fun k hk => Below.heap_alloc _ _ _ (HI6.out.row.ge k hk).2) (stripE x) W6.heap.size 1 rfl (World.alloc_heap_new _ _) (by have := hyl.out; omega) (by have := HI6.out.lt; simp; omega) ?_)
         intro v2 w2 h2 hg2 hn2
         have H2 := Lib.hid (HI6.out.app (strip_ok HOK.out) h2 hg2 hn2)
         clear h2 hg2 hn2))
    exact HQ.out _ _ _ _ _ _ _ _ _ _ _ _ _ _ _ _ _ _ _ _ _ _ _ _ _ _ _ _ _ _ _ _ _ _ _ _ _ _ _ _ _ _ _ _ _ _ _ _ _ _ _ _ _ _ _ _ _ _ _ _ _ _ _ _ _ _ _ _ _ _ _ _ _ _ _ _ _ _ _ _ _ _ _ _ _ _ _ _ _ _ _ _ _ _ _ _ _ _ w2 (vis_show (y := stripE x) HN.out (by unfold seenAt; rw [if_neg (by rw [HKD.out]; decide), if_neg (by rw [HKD.out]; decide), if_pos HKD.out, HSH.out]; rfl) (by rw [HKD.out]; decide) (by go_num) HYS.out H2.out)
  · have HSS : Hid (W1.drew.cell? ⟨T, 3, none⟩ = some (.int .i64 (s : Nat)) ∧ W1.drew.cell? ⟨io, s, none⟩ = some (.bool true) ∧ W1.drew.cell? ⟨db, 0, none⟩ = some (.pointer (some ⟨d, 0, none⟩)) ∧ W1.drew.cell? ⟨d, 66 + s, none⟩ = some (.bool true)) := Lib.hid ⟨k3, k0, kd0, kt⟩
    clear k0 k3 kd0 kt
    go_wp2_with fail
    refine wp_mix [mT, mT, mT, mT, mT, mT, mT, mT, mT, mT, mT, mT, mT, mF, mF] 1000 (fun W2 => W2.cell? ⟨T, 3, none⟩ = some (.int .i64 (s : Nat)) ∧ W2.cell? ⟨io, s, none⟩ = some (.bool true) ∧ W2.cell? ⟨db, 0, none⟩ = some (.pointer (some ⟨d, 0, none⟩)) ∧ W2.cell? ⟨d, 66 + s, none⟩ = some (.bool true)) (by kernel_rfl) (by kernel_rfl) HSS.out ?_
    refine wpMix_take (.pointer (some ⟨T, 3, none⟩)) (fun _ _ _ _ h => HP.out _ _ _ _ (by rfl) h) HSS.out (by rfl) (fun W2 hW => by go_simp) ?_
    simp only [Act.put, List.setIfInBounds_toArray, List.set_cons_zero, List.set_cons_succ]
    refine wpMix_take (.int .i64 (s : Nat)) (fun _ _ _ _ h => HP.out _ _ _ _ (by rfl) h) HSS.out (by rfl) (fun W2 hW => by have q0 := hW.1; go_simp) ?_
    simp only [Act.put, List.setIfInBounds_toArray, List.set_cons_zero, List.set_cons_succ]
    refine wpMix_take (.pointer (some ⟨io, s, none⟩)) (fun _ _ _ _ h => HP.out _ _ _ _ (by rfl) h) HSS.out (by rfl) (fun W2 hW => by go_simp) ?_
    simp only [Act.put, List.setIfInBounds_toArray, List.set_cons_zero, List.set_cons_succ]
    refine wpMix_take (.bool true) (fun _ _ _ _ h => HP.out _ _ _ _ (by rfl) h) HSS.out (by rfl) (fun W2 hW => by have q0 := hW.2.1; go_simp) ?_
    simp only [Act.put, List.setIfInBounds_toArray, List.set_cons_zero, List.set_cons_succ]
    refine wpMix_take (.bool true) (fun _ _ _ _ h => HP.out _ _ _ _ (by rfl) h) HSS.out (by rfl) (fun W2 hW => by go_simp) ?_
    simp only [Act.put, List.setIfInBounds_toArray, List.set_cons_zero, List.set_cons_succ]
    refine wpMix_take (.pointer (some ⟨d, 0, none⟩)) (fun _ _ _ _ h => HP.out _ _ _ _ (by rfl) h) HSS.out (by rfl) (fun W2 hW => by have q0 := hW.2.2.1; go_simp) ?_
    simp only [Act.put, List.setIfInBounds_toArray, List.set_cons_zero, List.set_cons_succ]
    refine wpMix_take (.pointer (some ⟨T, 3, none⟩)) (fun _ _ _ _ h => HP.out _ _ _ _ (by rfl) h) HSS.out (by rfl) (fun W2 hW => by go_simp) ?_
    simp only [Act.put, List.setIfInBounds_toArray, List.set_cons_zero, List.set_cons_succ]
    refine wpMix_take (.int .i64 (s : Nat)) (fun _ _ _ _ h => HP.out _ _ _ _ (by rfl) h) HSS.out (by rfl) (fun W2 hW => by have q0 := hW.1; go_simp) ?_
    simp only [Act.put, List.setIfInBounds_toArray, List.set_cons_zero, List.set_cons_succ]
    refine wpMix_take (.pointer (some ⟨d, 0, none⟩)) (fun _ _ _ _ h => HP.out _ _ _ _ (by rfl) h) HSS.out (by rfl) (fun W2 hW => by go_simp) ?_
    simp only [Act.put, List.setIfInBounds_toArray, List.set_cons_zero, List.set_cons_succ]
    refine wpMix_take (.pointer (some ⟨d, 66, none⟩)) (fun _ _ _ _ h => HP.out _ _ _ _ (by rfl) h) HSS.out (by rfl) (fun W2 hW => by go_simp) ?_
    simp only [Act.put, List.setIfInBounds_toArray, List.set_cons_zero, List.set_cons_succ]
    refine wpMix_take (.pointer (some ⟨d, 66 + s, none⟩)) (fun _ _ _ _ h => HP.out _ _ _ _ (by rfl) h) HSS.out (by rfl) (fun W2 hW => by go_simp) ?_
    simp only [Act.put, List.setIfInBounds_toArray, List.set_cons_zero, List.set_cons_succ]
    refine wpMix_take (.bool true) (fun _ _ _ _ h => HP.out _ _ _ _ (by rfl) h) HSS.out (by rfl) (fun W2 hW => by have q0 := hW.2.2.2; go_simp) ?_
    simp only [Act.put, List.setIfInBounds_toArray, List.set_cons_zero, List.set_cons_succ]
    refine wpMix_take (.bool false) (fun _ _ _ _ h => HP.out _ _ _ _ (by rfl) h) HSS.out (by rfl) (fun W2 hW => by go_simp) ?_
    simp only [Act.put, List.setIfInBounds_toArray, List.set_cons_zero, List.set_cons_succ]
    refine wpMix_step (fun K hK => ?_); go_simp; refine hK _ _ HSS.out ?_; clear hK K
    refine wpMix_step (fun K hK => ?_); go_simp; refine hK _ _ HSS.out ?_; clear hK K
    refine wpMix_nil ?_
    go_wp2_with fail
    exact HQ.out _ _ _ _ _ _ _ _ _ _ _ _ _ _ _ _ _ _ _ _ _ _ _ _ _ _ _ _ _ _ _ _ _ _ _ _ _ _ _ _ _ _ _ _ _ _ _ _ _ _ _ _ _ _ _ _ _ _ _ _ _ _ _ _ _ _ _ _ _ _ _ _ _ _ _ _ _ _ _ _ _ _ _ _ _ _ _ _ _ _ _ _ _ _ _ _ _ _ _ (vis_skip HN.out (by unfold seenAt; rw [if_neg (by rw [HKD.out]; decide), if_neg (by rw [HKD.out]; decide), if_pos HKD.out, HSH.out]; rfl) (by rw [HKD.out]; decide) (by go_num) HYS.out (HI.out.below (by rw [hT]; exact HBX.out)))
end Go.Proofs.YtgbihmafmmeicaaGreatDoor
namespace Go.Proofs.YtgbihmafmmeicaaGreatDoor
open Go.RowKit Mg Go.Shelf Go.Maps

structure InC (mem : Addr → Option Value) (W0 : World) (io db cb nb ob d B : Nat) (gs : List FctE) (cls now : Int) (ov : Value) (out : List Int) (SC : Scn) (x : FctE) (s : Nat) (bb bo : Nat) (ba : Option Addr) : Prop where
  open_ : OpenM W0 io db cb nb ob d B gs cls now ov out
  sees : Sees mem W0
  sc : SC = sceneOf gs cls now out
  fok : FOK x.f
  story : x.f.story = (s : Nat)
  slt : s < 65
  blks : BlksAt mem x.f.blocks bb bo
  ba : 0 < x.f.blocks.length → ba = some ⟨bb, bo, none⟩
  bl : x.f.blocks.length ≤ 24
def InR (W0 : World) (SC : Scn) (op : Bool) (s : Nat) (x : FctE) (T m : Nat) (pl0 : Plc) (v : Value) (ys : List FctE) (j : Nat) (i : Value) (w : World) : Prop :=
  i = .int .i64 j ∧ VisI W0 (m + j) ((x.f.blocks.take j).foldl (placeB (s : Nat) x.f.lang fun b => op && SC.isOpen (s : Nat) b.lab) pl0) v ys w ∧ w.heap[T]? = some (.cells x.cells 45 (0, 0)) ∧ W0.heap.size < T
theorem in_next {l : List Blk} {j : Nat} (h : j < l.length) (s : Int) (lang : ByteArray) (f : Blk → Bool) (pl : Plc) : (l.take (j + 1)).foldl (placeB s lang f) pl = plcPut s lang l[j].id (f l[j]) ((l.take j).foldl (placeB s lang f) pl) := by
  rw [List.take_succ_eq_append_getElem h, List.foldl_append]
  rfl
noncomputable def inBody : Code := ((Tryz.f42.body.map loopsOf).getD []).getD 2 .skip
set_option maxRecDepth 100000 in
set_option maxHeartbeats 4000000 in
theorem in_round {mem : Addr → Option Value} {W0 : World} {io db cb nb ob d B : Nat} {gs : List FctE} {cls now : Int} {ov : Value} {out : List Int} {SC : Scn} {x : FctE} {s bb bo : Nat} {ba : Option Addr} (C : InC mem W0 io db cb nb ob d B gs cls now ov out SC x s bb bo ba) (bc : Nat) (op : Bool) (c0 c1 c2 c6 c9 c10 c12 c14 c16 c18 c20 c21 c22 c23 c24 c25 c26 c27 c28 c29 c30 c31 c32 c33 c34 c35 c36 c37 c38 c39 c40 c41 c42 c43 c44 c45 c46 c47 c48 c49 c50 c51 c52 c53 c54 c55 c56 c57 c58 c59 c60 c61 c62 c63 c64 c65 c66 c67 c68 c69 c70 c71 c72 c73 c74 c75 c76 c77 c78 c79 c80 c81 c82 c83 c84 c85 c86 c87 c88 c89 c90 c91 c92 c93 c94 c95 c96 c121 c122 c123 c124 c125 c126 c127 c128 c129 c130 c131 c132 c133 c134 c135 c136 c137 c138 c139 : Value) (u19 u100 u101 u102 u103 u104 u105 u106 u107 u108 u109 u110 u111 u112 u113 u114 u115 u116 u117 u118 u119 u120 : Value) (v : Value) (ys : List FctE) (T m : Nat) (pl0 : Plc) (hm : m ≤ 100000) (j : Nat) (hj : j < x.f.blocks.length) (wr : World) (hR : InR W0 SC op s x T m pl0 v ys j (.int .i64 j) wr) (Q : Exit → Act → World → Prop)
    (hQ : ∀ (u19 u99 u100 u101 u102 u103 u104 u105 u106 u107 u108 u109 u110 u111 u112 u113 u114 u115 u116 u117 u118 u119 u120 : Value) (w2 : World), InR W0 SC op s x T m pl0 v ys (j + 1) u99 w2 → Q .normal ⟨#[c0, c1, c2, .pointer (some ⟨db, 0, none⟩), .pointer (some ⟨cb, 0, none⟩), .pointer (some ⟨nb, 0, none⟩), c6, .pointer (some ⟨ob, 0, none⟩), .pointer (some ⟨io, 0, none⟩), c9, c10, openV io db cb nb ob, c12, .map (some W0.heap.size), c14, .pointer (some ⟨T, 0, none⟩), c16, .bool op, c18, u19, c20, c21, c22, c23, c24, c25, c26, c27, c28, c29, c30, c31, c32, c33, c34, c35, c36, c37, c38, c39, c40, c41, c42, c43, c44, c45, c46, c47, c48, c49, c50, c51, c52, c53, c54, c55, c56, c57, c58, c59, c60, c61, c62, c63, c64, c65, c66, c67, c68, c69, c70, c71, c72, c73, c74, c75, c76, c77, c78, c79, c80, c81, c82, c83, c84, c85, c86, c87, c88, c89, c90, c91, c92, c93, c94, c95, c96, .slice ba x.f.blocks.length bc, .int .i64 x.f.blocks.length, u99, u100, u101, u102, u103, u104, u105, u106, u107, u108, u109, u110, u111, u112, u113, u114, u115, u116, u117, u118, u119, u120, c121, c122, c123, c124, c125, c126, c127, c128, c129, c130, c131, c132, c133, c134, c135, c136, c137, c138, c139], []⟩ w2) (hP : ∀ c a a2 w2, a2.defers = a.defers → Q (.panic c) a w2 → Q (.panic c) a2 w2) :
    inBody.wp Tryz.prog Q ⟨#[c0, c1, c2, .pointer (some ⟨db, 0, none⟩), .pointer (some ⟨cb, 0, none⟩), .pointer (some ⟨nb, 0, none⟩), c6, .pointer (some ⟨ob, 0, none⟩), .pointer (some ⟨io, 0, none⟩), c9, c10, openV io db cb nb ob, c12, .map (some W0.heap.size), c14, .pointer (some ⟨T, 0, none⟩), c16, .bool op, c18, u19, c20, c21, c22, c23, c24, c25, c26, c27, c28, c29, c30, c31, c32, c33, c34, c35, c36, c37, c38, c39, c40, c41, c42, c43, c44, c45, c46, c47, c48, c49, c50, c51, c52, c53, c54, c55, c56, c57, c58, c59, c60, c61, c62, c63, c64, c65, c66, c67, c68, c69, c70, c71, c72, c73, c74, c75, c76, c77, c78, c79, c80, c81, c82, c83, c84, c85, c86, c87, c88, c89, c90, c91, c92, c93, c94, c95, c96, .slice ba x.f.blocks.length bc, .int .i64 x.f.blocks.length, (.int .i64 j), u100, u101, u102, u103, u104, u105, u106, u107, u108, u109, u110, u111, u112, u113, u114, u115, u116, u117, u118, u119, u120, c121, c122, c123, c124, c125, c126, c127, c128, c129, c130, c131, c132, c133, c134, c135, c136, c137, c138, c139], []⟩ wr := by
  conv => arg 2; whnf
  obtain ⟨_, hI, hT, hTn⟩ := hR
  have HP := Lib.hid hP
  have HQ := Lib.hid hQ
  have HC := Lib.hid C
  have HI := Lib.hid hI
  obtain rfl := C.ba (by omega)
  have hsee := C.sees.bel hI.bel
  obtain ⟨⟨_, hkd, hid⟩, lo, lc, hints, c9⟩ := (C.blks j hj).nine hsee
  obtain ⟨c0, c1, c2, c3, c4, c5, c6, c7, c8⟩ := c9
  have HNX := Lib.hid (in_next hj (s : Nat) x.f.lang (fun b => op && SC.isOpen (s : Nat) b.lab) pl0)
  have HINT := Lib.hid (hints.mono hsee)
  have hbl := C.bl
  have hjl : (j : Int) < x.f.blocks.length := by omega
  have HID := Lib.hid hid
  have HTT := Lib.hid (And.intro hT hTn)
  clear C hP hQ hI hsee hints hid hkd hT hTn
  generalize x.f.blocks[j] = y at *
  obtain ⟨id, kind, text, story, ref, ⟨till, after, appr, denied⟩⟩ := y
  dsimp only at *
  go_upto_region 32 with fail
  generalize hG : wr.heap.size = G at *
  have HBN : Hid (Below G wr (wr.alloc (.cells #[.int .i64 id, .int .i64 kind, .string text, .int .i64 story, .int .i64 ref, .int .i64 till, .slice lo after.length lc, .int .i64 appr, .int .i64 denied] 56))) := Lib.hid (by rw [← hG]; exact (Below.refl _ wr).alloc (Nat.le_refl _) _)
  have HGG : Hid ((wr.alloc (.cells #[.int .i64 id, .int .i64 kind, .string text, .int .i64 story, .int .i64 ref, .int .i64 till, .slice lo after.length lc, .int .i64 appr, .int .i64 denied] 56)).heap[G]? = some (.cells #[.int .i64 id, .int .i64 kind, .string text, .int .i64 story, .int .i64 ref, .int .i64 till, .slice lo after.length lc, .int .i64 appr, .int .i64 denied] 56 (0, 0))) := Lib.hid (by rw [← hG]; exact World.alloc_heap_new wr _)
  generalize hW1 : wr.alloc (.cells #[.int .i64 id, .int .i64 kind, .string text, .int .i64 story, .int .i64 ref, .int .i64 till, .slice lo after.length lc, .int .i64 appr, .int .i64 denied] 56) = W1 at *
  clear hW1 c0 c1 c2 c3 c4 c5 c6 c7 c8
  have HSS : Hid (W1.drew.heap[T]? = some (.cells x.cells 45 (0, 0)) ∧ W1.drew.heap[G]? = some (.cells #[.int .i64 id, .int .i64 kind, .string text, .int .i64 story, .int .i64 ref, .int .i64 till, .slice lo after.length lc, .int .i64 appr, .int .i64 denied] 56 (0, 0))) := Lib.hid ⟨(HBN.out.block T (by rw [← hG]; exact (Array.getElem?_eq_some_iff.1 HTT.out.1).1)).trans HTT.out.1, HGG.out⟩
  have HC3 : Hid (∀ W2 : World, W2.heap[T]? = some (.cells x.cells 45 (0, 0)) → W2.cell? ⟨T, 3, none⟩ = some (.int .i64 (s : Nat))) := Lib.hid (fun W2 h => by rw [blk_cell h, ← HC.out.story]; rfl)
  have HI1 := Lib.hid (HI.out.below (by rw [hG]; exact HBN.out.drew))
  cases op
  · obtain ⟨w2, hst, hpl, hg⟩ := HI1.out.pl.store (by unfold maxLen; omega) (s : Nat) id x.f.lang (by rw [← HC.out.story]; exact HC.out.fok.i3) HID.out HC.out.fok.s4 false
    have HV := Lib.hid (HI1.out.put hpl hg)
    have hgt := hg.block T (Go.Proofs.YtgbihmafmmeicaaGreatDoor.hlt HSS.out.1) (by have := HTT.out.2; simp; omega)
    have HT2 := Lib.hid (hgt.trans HSS.out.1)
    have HST := Lib.hid hst
    clear hst hpl hg hgt
    go_wp2_with fail
    refine wp_mix [mT, mT, mT, mT, mT, mT, mT, mT, mT, mT, mT, mT, mT, mT, mT, mF, mF, mL] 17 (fun W2 => W2.heap[T]? = some (.cells x.cells 45 (0, 0)) ∧ W2.heap[G]? = some (.cells #[.int .i64 id, .int .i64 kind, .string text, .int .i64 story, .int .i64 ref, .int .i64 till, .slice lo after.length lc, .int .i64 appr, .int .i64 denied] 56 (0, 0))) (by kernel_rfl) (by kernel_rfl) HSS.out ?_
    refine wpMix_take (.map (some W0.heap.size)) (fun _ _ _ _ h => HP.out _ _ _ _ (by rfl) h) HSS.out (by rfl) (fun W2 hW => by go_simp) ?_
    simp only [Act.put, List.setIfInBounds_toArray, List.set_cons_zero, List.set_cons_succ]
    refine wpMix_take (.pointer (some ⟨T, 3, none⟩)) (fun _ _ _ _ h => HP.out _ _ _ _ (by rfl) h) HSS.out (by rfl) (fun W2 hW => by go_simp) ?_
    simp only [Act.put, List.setIfInBounds_toArray, List.set_cons_zero, List.set_cons_succ]
    refine wpMix_take (.int .i64 (s : Nat)) (fun _ _ _ _ h => HP.out _ _ _ _ (by rfl) h) HSS.out (by rfl) (fun W2 hW => by have q0 := HC3.out W2 hW.1; go_simp) ?_
    simp only [Act.put, List.setIfInBounds_toArray, List.set_cons_zero, List.set_cons_succ]
    refine wpMix_take (.pointer (some ⟨T, 4, none⟩)) (fun _ _ _ _ h => HP.out _ _ _ _ (by rfl) h) HSS.out (by rfl) (fun W2 hW => by go_simp) ?_
    simp only [Act.put, List.setIfInBounds_toArray, List.set_cons_zero, List.set_cons_succ]
    refine wpMix_take (.string x.f.lang) (fun _ _ _ _ h => HP.out _ _ _ _ (by rfl) h) HSS.out (by rfl) (fun W2 hW => by have q0 : W2.cell? ⟨T, 4, none⟩ = some (.string x.f.lang) := blk_cell hW.1 4; go_simp) ?_
    simp only [Act.put, List.setIfInBounds_toArray, List.set_cons_zero, List.set_cons_succ]
    refine wpMix_take (.pointer (some ⟨G, 0, none⟩)) (fun _ _ _ _ h => HP.out _ _ _ _ (by rfl) h) HSS.out (by rfl) (fun W2 hW => by go_simp) ?_
    simp only [Act.put, List.setIfInBounds_toArray, List.set_cons_zero, List.set_cons_succ]
    refine wpMix_take (.int .i64 id) (fun _ _ _ _ h => HP.out _ _ _ _ (by rfl) h) HSS.out (by rfl) (fun W2 hW => by have q0 : W2.cell? ⟨G, 0, none⟩ = some (.int .i64 id) := blk_cell hW.2 0; go_simp) ?_
    simp only [Act.put, List.setIfInBounds_toArray, List.set_cons_zero, List.set_cons_succ]
    refine wpMix_take (.agg #[.int .i64 (s : Nat), .string x.f.lang, .int .i64 id]) (fun _ _ _ _ h => HP.out _ _ _ _ (by rfl) h) HSS.out (by rfl) (fun W2 hW => by go_simp) ?_
    simp only [Act.put, List.setIfInBounds_toArray, List.set_cons_zero, List.set_cons_succ]
    refine wpMix_take (.bool false) (fun _ _ _ _ h => HP.out _ _ _ _ (by rfl) h) HSS.out (by rfl) (fun W2 hW => by go_simp) ?_
    simp only [Act.put, List.setIfInBounds_toArray, List.set_cons_zero, List.set_cons_succ]
    refine wpMix_take (.bool false) (fun _ _ _ _ h => HP.out _ _ _ _ (by rfl) h) HSS.out (by rfl) (fun W2 hW => by go_simp) ?_
    simp only [Act.put, List.setIfInBounds_toArray, List.set_cons_zero, List.set_cons_succ]
    refine wpMix_skip (fun _ _ _ _ h => HP.out _ _ _ _ (by rfl) h) HSS.out (by rfl) ?_
    simp only [Act.put, List.setIfInBounds_toArray, List.set_cons_zero, List.set_cons_succ]
    refine wpMix_skip (fun _ _ _ _ h => HP.out _ _ _ _ (by rfl) h) HSS.out (by rfl) ?_
    simp only [Act.put, List.setIfInBounds_toArray, List.set_cons_zero, List.set_cons_succ]
    refine wpMix_skip (fun _ _ _ _ h => HP.out _ _ _ _ (by rfl) h) HSS.out (by rfl) ?_
    simp only [Act.put, List.setIfInBounds_toArray, List.set_cons_zero, List.set_cons_succ]
    refine wpMix_skip (fun _ _ _ _ h => HP.out _ _ _ _ (by rfl) h) HSS.out (by rfl) ?_
    simp only [Act.put, List.setIfInBounds_toArray, List.set_cons_zero, List.set_cons_succ]
    refine wpMix_skip (fun _ _ _ _ h => HP.out _ _ _ _ (by rfl) h) HSS.out (by rfl) ?_
    simp only [Act.put, List.setIfInBounds_toArray, List.set_cons_zero, List.set_cons_succ]
    refine wpMix_step (fun K hK => ?_); go_simp; refine hK _ _ HSS.out ?_; clear hK K
    refine wpMix_step (fun K hK => ?_); go_simp; refine hK _ _ HSS.out ?_; clear hK K
    have hst := HST.out
    unfold key3 at hst
    refine wpMix_last (fun K hK => ?_)
    go_simp
    refine hK _ _ ?_
    clear hK K hst HST
    refine wpMix_nil ?_
    go_wp2_with fail
    exact HQ.out _ _ _ _ _ _ _ _ _ _ _ _ _ _ _ _ _ _ _ _ _ _ _ _ ⟨by go_num, by rw [HNX.out]; exact HV.out, HT2.out, HTT.out.2⟩
  · have HON := HC.out.open_.bel HI1.out.bel
    have HCA := Lib.hid (open_any HON s HC.out.slt ⟨till, after, appr, denied⟩ (.slice lo after.length lc) (HINT.out.mono (fun a u h => (sees_bel (W := wr) (by rw [hG]; exact HBN.out.drew)) a u h)))
    rw [← HC.out.sc] at HCA
    generalize SC.isOpen (s : Nat) ⟨till, after, appr, denied⟩ = q at HCA HNX
    clear HON
    go_wp2_with fail
    refine wp_mix [mT, mT, mT, mT, mT, mT, mT, mT, mT, mT, mT, mT, mT, mT, mT, mF, mF, mL] 17 (fun W2 => W2.heap[T]? = some (.cells x.cells 45 (0, 0)) ∧ W2.heap[G]? = some (.cells #[.int .i64 id, .int .i64 kind, .string text, .int .i64 story, .int .i64 ref, .int .i64 till, .slice lo after.length lc, .int .i64 appr, .int .i64 denied] 56 (0, 0))) (by kernel_rfl) (by kernel_rfl) HSS.out ?_
    refine wpMix_take (.map (some W0.heap.size)) (fun _ _ _ _ h => HP.out _ _ _ _ (by rfl) h) HSS.out (by rfl) (fun W2 hW => by go_simp) ?_
    simp only [Act.put, List.setIfInBounds_toArray, List.set_cons_zero, List.set_cons_succ]
    refine wpMix_take (.pointer (some ⟨T, 3, none⟩)) (fun _ _ _ _ h => HP.out _ _ _ _ (by rfl) h) HSS.out (by rfl) (fun W2 hW => by go_simp) ?_
    simp only [Act.put, List.setIfInBounds_toArray, List.set_cons_zero, List.set_cons_succ]
    refine wpMix_take (.int .i64 (s : Nat)) (fun _ _ _ _ h => HP.out _ _ _ _ (by rfl) h) HSS.out (by rfl) (fun W2 hW => by have q0 := HC3.out W2 hW.1; go_simp) ?_
    simp only [Act.put, List.setIfInBounds_toArray, List.set_cons_zero, List.set_cons_succ]
    refine wpMix_take (.pointer (some ⟨T, 4, none⟩)) (fun _ _ _ _ h => HP.out _ _ _ _ (by rfl) h) HSS.out (by rfl) (fun W2 hW => by go_simp) ?_
    simp only [Act.put, List.setIfInBounds_toArray, List.set_cons_zero, List.set_cons_succ]
    refine wpMix_take (.string x.f.lang) (fun _ _ _ _ h => HP.out _ _ _ _ (by rfl) h) HSS.out (by rfl) (fun W2 hW => by have q0 : W2.cell? ⟨T, 4, none⟩ = some (.string x.f.lang) := blk_cell hW.1 4; go_simp) ?_
    simp only [Act.put, List.setIfInBounds_toArray, List.set_cons_zero, List.set_cons_succ]
    refine wpMix_take (.pointer (some ⟨G, 0, none⟩)) (fun _ _ _ _ h => HP.out _ _ _ _ (by rfl) h) HSS.out (by rfl) (fun W2 hW => by go_simp) ?_
    simp only [Act.put, List.setIfInBounds_toArray, List.set_cons_zero, List.set_cons_succ]
    refine wpMix_take (.int .i64 id) (fun _ _ _ _ h => HP.out _ _ _ _ (by rfl) h) HSS.out (by rfl) (fun W2 hW => by have q0 : W2.cell? ⟨G, 0, none⟩ = some (.int .i64 id) := blk_cell hW.2 0; go_simp) ?_
    simp only [Act.put, List.setIfInBounds_toArray, List.set_cons_zero, List.set_cons_succ]
    refine wpMix_take (.agg #[.int .i64 (s : Nat), .string x.f.lang, .int .i64 id]) (fun _ _ _ _ h => HP.out _ _ _ _ (by rfl) h) HSS.out (by rfl) (fun W2 hW => by go_simp) ?_
    simp only [Act.put, List.setIfInBounds_toArray, List.set_cons_zero, List.set_cons_succ]
    refine wpMix_take (.bool true) (fun _ _ _ _ h => HP.out _ _ _ _ (by rfl) h) HSS.out (by rfl) (fun W2 hW => by go_simp) ?_
    simp only [Act.put, List.setIfInBounds_toArray, List.set_cons_zero, List.set_cons_succ]
    refine wpMix_take (.bool true) (fun _ _ _ _ h => HP.out _ _ _ _ (by rfl) h) HSS.out (by rfl) (fun W2 hW => by go_simp) ?_
    simp only [Act.put, List.setIfInBounds_toArray, List.set_cons_zero, List.set_cons_succ]
    refine wpMix_take (openV io db cb nb ob) (fun _ _ _ _ h => HP.out _ _ _ _ (by rfl) h) HSS.out (by rfl) (fun W2 hW => by go_simp) ?_
    simp only [Act.put, List.setIfInBounds_toArray, List.set_cons_zero, List.set_cons_succ]
    refine wpMix_take (.pointer (some ⟨T, 3, none⟩)) (fun _ _ _ _ h => HP.out _ _ _ _ (by rfl) h) HSS.out (by rfl) (fun W2 hW => by go_simp) ?_
    simp only [Act.put, List.setIfInBounds_toArray, List.set_cons_zero, List.set_cons_succ]
    refine wpMix_take (.int .i64 (s : Nat)) (fun _ _ _ _ h => HP.out _ _ _ _ (by rfl) h) HSS.out (by rfl) (fun W2 hW => by have q0 := HC3.out W2 hW.1; go_simp) ?_
    simp only [Act.put, List.setIfInBounds_toArray, List.set_cons_zero, List.set_cons_succ]
    refine wpMix_take (.pointer (some ⟨G, 5, none⟩)) (fun _ _ _ _ h => HP.out _ _ _ _ (by rfl) h) HSS.out (by rfl) (fun W2 hW => by go_simp) ?_
    simp only [Act.put, List.setIfInBounds_toArray, List.set_cons_zero, List.set_cons_succ]
    refine wpMix_take (.agg #[.int .i64 till, .slice lo after.length lc, .int .i64 appr, .int .i64 denied]) (fun _ _ _ _ h => HP.out _ _ _ _ (by rfl) h) HSS.out (by rfl) (fun W2 hW => by have q5 : W2.cell? ⟨G, 5, none⟩ = some (.int .i64 till) := blk_cell hW.2 5; have q6 : W2.cell? ⟨G, 6, none⟩ = some (.slice lo after.length lc) := blk_cell hW.2 6; have q7 : W2.cell? ⟨G, 7, none⟩ = some (.int .i64 appr) := blk_cell hW.2 7; have q8 : W2.cell? ⟨G, 8, none⟩ = some (.int .i64 denied) := blk_cell hW.2 8; go_simp) ?_
    simp only [Act.put, List.setIfInBounds_toArray, List.set_cons_zero, List.set_cons_succ]
    refine wpMix_step (fun K hK => ?_)
    go_simp
    refine HCA.out.mono ?_
    rintro e w3 ⟨rfl, hb3⟩
    dsimp only
    have HS3 : Hid (w3.heap[T]? = some (.cells x.cells 45 (0, 0)) ∧ w3.heap[G]? = some (.cells #[.int .i64 id, .int .i64 kind, .string text, .int .i64 story, .int .i64 ref, .int .i64 till, .slice lo after.length lc, .int .i64 appr, .int .i64 denied] 56 (0, 0))) := Lib.hid ⟨(hb3.block T (Go.Proofs.YtgbihmafmmeicaaGreatDoor.hlt HSS.out.1)).trans HSS.out.1, (hb3.block G (Go.Proofs.YtgbihmafmmeicaaGreatDoor.hlt HSS.out.2)).trans HSS.out.2⟩
    have HI3 := Lib.hid (HI1.out.below hb3)
    refine hK _ _ HS3.out ?_
    clear hK K hb3
    refine wpMix_step (fun K hK => ?_); go_simp; refine hK _ _ HS3.out ?_; clear hK K
    obtain ⟨w2, hst, hpl, hg⟩ := HI3.out.pl.store (by unfold maxLen; omega) (s : Nat) id x.f.lang (by rw [← HC.out.story]; exact HC.out.fok.i3) HID.out HC.out.fok.s4 q
    have HV := Lib.hid (HI3.out.put hpl hg)
    have hgt := hg.block T (Go.Proofs.YtgbihmafmmeicaaGreatDoor.hlt HS3.out.1) (by have := HTT.out.2; simp; omega)
    have HT2 := Lib.hid (hgt.trans HS3.out.1)
    have HST := Lib.hid hst
    unfold key3 at hst
    clear hpl hg hgt
    refine wpMix_last (fun K hK => ?_)
    go_simp
    refine hK _ _ ?_
    clear hK K hst HST
    refine wpMix_nil ?_
    go_wp2_with fail
    exact HQ.out _ _ _ _ _ _ _ _ _ _ _ _ _ _ _ _ _ _ _ _ _ _ _ _ ⟨by go_num, by rw [HNX.out]; exact HV.out, HT2.out, HTT.out.2⟩
set_option maxRecDepth 100000 in
set_option maxHeartbeats 4000000 in
theorem in_loop {mem : Addr → Option Value} {W0 : World} {io db cb nb ob d B : Nat} {gs : List FctE} {cls now : Int} {ov : Value} {out : List Int} {SC : Scn} {x : FctE} {s bb bo : Nat} {ba : Option Addr} (C : InC mem W0 io db cb nb ob d B gs cls now ov out SC x s bb bo ba) (bc : Nat) (op : Bool) (c0 c1 c2 c6 c9 c10 c12 c14 c16 c18 c20 c21 c22 c23 c24 c25 c26 c27 c28 c29 c30 c31 c32 c33 c34 c35 c36 c37 c38 c39 c40 c41 c42 c43 c44 c45 c46 c47 c48 c49 c50 c51 c52 c53 c54 c55 c56 c57 c58 c59 c60 c61 c62 c63 c64 c65 c66 c67 c68 c69 c70 c71 c72 c73 c74 c75 c76 c77 c78 c79 c80 c81 c82 c83 c84 c85 c86 c87 c88 c89 c90 c91 c92 c93 c94 c95 c96 c121 c122 c123 c124 c125 c126 c127 c128 c129 c130 c131 c132 c133 c134 c135 c136 c137 c138 c139 : Value) (u19 u99 u100 u101 u102 u103 u104 u105 u106 u107 u108 u109 u110 u111 u112 u113 u114 u115 u116 u117 u118 u119 u120 : Value) (v : Value) (ys : List FctE) (T m : Nat) (pl0 : Plc) (hm : m ≤ 100000) (wr : World) (hR : InR W0 SC op s x T m pl0 v ys 0 u99 wr) (Q : Exit → Act → World → Prop)
    (hQ : ∀ (u19 u99 u100 u101 u102 u103 u104 u105 u106 u107 u108 u109 u110 u111 u112 u113 u114 u115 u116 u117 u118 u119 u120 : Value) (w2 : World), InR W0 SC op s x T m pl0 v ys x.f.blocks.length u99 w2 → Q (.exit 5) ⟨#[c0, c1, c2, .pointer (some ⟨db, 0, none⟩), .pointer (some ⟨cb, 0, none⟩), .pointer (some ⟨nb, 0, none⟩), c6, .pointer (some ⟨ob, 0, none⟩), .pointer (some ⟨io, 0, none⟩), c9, c10, openV io db cb nb ob, c12, .map (some W0.heap.size), c14, .pointer (some ⟨T, 0, none⟩), c16, .bool op, c18, u19, c20, c21, c22, c23, c24, c25, c26, c27, c28, c29, c30, c31, c32, c33, c34, c35, c36, c37, c38, c39, c40, c41, c42, c43, c44, c45, c46, c47, c48, c49, c50, c51, c52, c53, c54, c55, c56, c57, c58, c59, c60, c61, c62, c63, c64, c65, c66, c67, c68, c69, c70, c71, c72, c73, c74, c75, c76, c77, c78, c79, c80, c81, c82, c83, c84, c85, c86, c87, c88, c89, c90, c91, c92, c93, c94, c95, c96, .slice ba x.f.blocks.length bc, .int .i64 x.f.blocks.length, u99, u100, u101, u102, u103, u104, u105, u106, u107, u108, u109, u110, u111, u112, u113, u114, u115, u116, u117, u118, u119, u120, c121, c122, c123, c124, c125, c126, c127, c128, c129, c130, c131, c132, c133, c134, c135, c136, c137, c138, c139], []⟩ w2) (hP : ∀ c a a2 w2, a2.defers = a.defers → Q (.panic c) a w2 → Q (.panic c) a2 w2) :
    (Code.loop inBody).wp Tryz.prog Q ⟨#[c0, c1, c2, .pointer (some ⟨db, 0, none⟩), .pointer (some ⟨cb, 0, none⟩), .pointer (some ⟨nb, 0, none⟩), c6, .pointer (some ⟨ob, 0, none⟩), .pointer (some ⟨io, 0, none⟩), c9, c10, openV io db cb nb ob, c12, .map (some W0.heap.size), c14, .pointer (some ⟨T, 0, none⟩), c16, .bool op, c18, u19, c20, c21, c22, c23, c24, c25, c26, c27, c28, c29, c30, c31, c32, c33, c34, c35, c36, c37, c38, c39, c40, c41, c42, c43, c44, c45, c46, c47, c48, c49, c50, c51, c52, c53, c54, c55, c56, c57, c58, c59, c60, c61, c62, c63, c64, c65, c66, c67, c68, c69, c70, c71, c72, c73, c74, c75, c76, c77, c78, c79, c80, c81, c82, c83, c84, c85, c86, c87, c88, c89, c90, c91, c92, c93, c94, c95, c96, .slice ba x.f.blocks.length bc, .int .i64 x.f.blocks.length, u99, u100, u101, u102, u103, u104, u105, u106, u107, u108, u109, u110, u111, u112, u113, u114, u115, u116, u117, u118, u119, u120, c121, c122, c123, c124, c125, c126, c127, c128, c129, c130, c131, c132, c133, c134, c135, c136, c137, c138, c139], []⟩ wr := by
  refine wp_loop (fun a w => ∃ U : Nat → Value, (∃ j, j ≤ x.f.blocks.length ∧ InR W0 SC op s x T m pl0 v ys j (U 99) w) ∧ a = ⟨#[c0, c1, c2, .pointer (some ⟨db, 0, none⟩), .pointer (some ⟨cb, 0, none⟩), .pointer (some ⟨nb, 0, none⟩), c6, .pointer (some ⟨ob, 0, none⟩), .pointer (some ⟨io, 0, none⟩), c9, c10, openV io db cb nb ob, c12, .map (some W0.heap.size), c14, .pointer (some ⟨T, 0, none⟩), c16, .bool op, c18, U 19, c20, c21, c22, c23, c24, c25, c26, c27, c28, c29, c30, c31, c32, c33, c34, c35, c36, c37, c38, c39, c40, c41, c42, c43, c44, c45, c46, c47, c48, c49, c50, c51, c52, c53, c54, c55, c56, c57, c58, c59, c60, c61, c62, c63, c64, c65, c66, c67, c68, c69, c70, c71, c72, c73, c74, c75, c76, c77, c78, c79, c80, c81, c82, c83, c84, c85, c86, c87, c88, c89, c90, c91, c92, c93, c94, c95, c96, .slice ba x.f.blocks.length bc, .int .i64 x.f.blocks.length, U 99, U 100, U 101, U 102, U 103, U 104, U 105, U 106, U 107, U 108, U 109, U 110, U 111, U 112, U 113, U 114, U 115, U 116, U 117, U 118, U 119, U 120, c121, c122, c123, c124, c125, c126, c127, c128, c129, c130, c131, c132, c133, c134, c135, c136, c137, c138, c139], []⟩) (fun a _ => x.f.blocks.length - (intOf (a.tmps.getD 99 undef)).toNat) ⟨fun i => ([undef, undef, undef, undef, undef, undef, undef, undef, undef, undef, undef, undef, undef, undef, undef, undef, undef, undef, undef, u19, undef, undef, undef, undef, undef, undef, undef, undef, undef, undef, undef, undef, undef, undef, undef, undef, undef, undef, undef, undef, undef, undef, undef, undef, undef, undef, undef, undef, undef, undef, undef, undef, undef, undef, undef, undef, undef, undef, undef, undef, undef, undef, undef, undef, undef, undef, undef, undef, undef, undef, undef, undef, undef, undef, undef, undef, undef, undef, undef, undef, undef, undef, undef, undef, undef, undef, undef, undef, undef, undef, undef, undef, undef, undef, undef, undef, undef, undef, undef, u99, u100, u101, u102, u103, u104, u105, u106, u107, u108, u109, u110, u111, u112, u113, u114, u115, u116, u117, u118, u119, u120, undef, undef, undef, undef, undef, undef, undef, undef, undef, undef, undef, undef, undef, undef, undef, undef, undef, undef, undef] : List Value).getD i undef, ⟨0, Nat.zero_le _, hR⟩, rfl⟩ ?_
  rintro a w2 ⟨U, ⟨j, hj, hR2⟩, rfl⟩
  have e := hR2.1
  by_cases hlt : j < x.f.blocks.length
  · rw [e] at hR2 ⊢
    refine in_round C bc op _ _ _ _ _ _ _ _ _ _ _ _ _ _ _ _ _ _ _ _ _ _ _ _ _ _ _ _ _ _ _ _ _ _ _ _ _ _ _ _ _ _ _ _ _ _ _ _ _ _ _ _ _ _ _ _ _ _ _ _ _ _ _ _ _ _ _ _ _ _ _ _ _ _ _ _ _ _ _ _ _ _ _ _ _ _ _ _ _ _ _ _ _ _ _ _ _ _ _ _ _ _ _ _ _ _ _ _ _ _ _ _ _ _ _ _ _ _ _ _ _ _ _ _ _ _ _ _ v ys T m pl0 hm j hlt w2 hR2 _ ?_ (fun c a a2 w2 e h => hP c a a2 w2 e h)
    intro u19 u99 u100 u101 u102 u103 u104 u105 u106 u107 u108 u109 u110 u111 u112 u113 u114 u115 u116 u117 u118 u119 u120 w3 hR3
    have e3 := hR3.1
    refine ⟨⟨fun i => ([undef, undef, undef, undef, undef, undef, undef, undef, undef, undef, undef, undef, undef, undef, undef, undef, undef, undef, undef, u19, undef, undef, undef, undef, undef, undef, undef, undef, undef, undef, undef, undef, undef, undef, undef, undef, undef, undef, undef, undef, undef, undef, undef, undef, undef, undef, undef, undef, undef, undef, undef, undef, undef, undef, undef, undef, undef, undef, undef, undef, undef, undef, undef, undef, undef, undef, undef, undef, undef, undef, undef, undef, undef, undef, undef, undef, undef, undef, undef, undef, undef, undef, undef, undef, undef, undef, undef, undef, undef, undef, undef, undef, undef, undef, undef, undef, undef, undef, undef, u99, u100, u101, u102, u103, u104, u105, u106, u107, u108, u109, u110, u111, u112, u113, u114, u115, u116, u117, u118, u119, u120, undef, undef, undef, undef, undef, undef, undef, undef, undef, undef, undef, undef, undef, undef, undef, undef, undef, undef, undef] : List Value).getD i undef, ⟨j + 1, hlt, hR3⟩, rfl⟩, ?_⟩
    show x.f.blocks.length - (intOf u99).toNat < x.f.blocks.length - (intOf (.int .i64 (j : Nat))).toNat
    rw [e3]
    simp [intOf]; omega
  · obtain rfl : j = x.f.blocks.length := by omega
    rw [e]
    have HQ := Lib.hid hQ
    have HR := Lib.hid (e ▸ hR2)
    clear hQ hR2 e hR hlt hj
    conv => arg 2; whnf
    go_wp2_with fail
    exact HQ.out _ _ _ _ _ _ _ _ _ _ _ _ _ _ _ _ _ _ _ _ _ _ _ _ HR.out
end Go.Proofs.YtgbihmafmmeicaaGreatDoor
namespace Go.Proofs.YtgbihmafmmeicaaGreatDoor
open Go.RowKit Mg Go.Shelf Go.Maps

set_option maxRecDepth 100000 in
set_option maxHeartbeats 4000000 in
theorem vis_k1 {mem : Addr → Option Value} {W0 : World} {io db cb nb ob d B : Nat} {gs : List FctE} {cls now : Int} {ov : Value} {out : List Int} {fa : Option Addr} {fc fb fo : Nat} {SC : Scn} (C : VisC mem W0 io db cb nb ob d B gs cls now ov out fa fc fb fo SC) (c0 c1 c2 c6 c9 c10 c14 c18 c20 c21 c22 c23 c24 c25 c26 c27 c28 c29 c30 c31 c32 c33 c34 c35 c36 c37 c38 c39 c40 c41 c42 c43 c139 : Value) (u15 u16 u17 u19 u47 u48 u49 u50 u51 u52 u53 u54 u55 u56 u57 u58 u59 u60 u61 u62 u63 u64 u65 u66 u67 u68 u69 u70 u71 u72 u73 u74 u75 u76 u77 u78 u79 u80 u81 u82 u83 u84 u85 u86 u87 u88 u89 u90 u91 u92 u93 u94 u95 u96 u97 u98 u99 u100 u101 u102 u103 u104 u105 u106 u107 u108 u109 u110 u111 u112 u113 u114 u115 u116 u117 u118 u119 u120 u121 u122 u123 u124 u125 u126 u127 u128 u129 u130 u131 u132 u133 u134 u135 u136 u137 u138 : Value) (v : Value) (k : Nat) (x : FctE) (hk : k < gs.length) (hx : gs[k] = x) (hkd : x.f.kind = 1) (wr : World) (hR : VisR W0 SC k v (.int .i64 k) wr) (Q : Exit → Act → World → Prop)
    (hQ : ∀ (u12 u15 u16 u17 u19 u46 u47 u48 u49 u50 u51 u52 u53 u54 u55 u56 u57 u58 u59 u60 u61 u62 u63 u64 u65 u66 u67 u68 u69 u70 u71 u72 u73 u74 u75 u76 u77 u78 u79 u80 u81 u82 u83 u84 u85 u86 u87 u88 u89 u90 u91 u92 u93 u94 u95 u96 u97 u98 u99 u100 u101 u102 u103 u104 u105 u106 u107 u108 u109 u110 u111 u112 u113 u114 u115 u116 u117 u118 u119 u120 u121 u122 u123 u124 u125 u126 u127 u128 u129 u130 u131 u132 u133 u134 u135 u136 u137 u138 : Value) (w2 : World), VisR W0 SC (k + 1) u12 u46 w2 → Q .normal ⟨#[c0, c1, c2, .pointer (some ⟨db, 0, none⟩), .pointer (some ⟨cb, 0, none⟩), .pointer (some ⟨nb, 0, none⟩), c6, .pointer (some ⟨ob, 0, none⟩), .pointer (some ⟨io, 0, none⟩), c9, c10, openV io db cb nb ob, u12, .map (some W0.heap.size), c14, u15, u16, u17, c18, u19, c20, c21, c22, c23, c24, c25, c26, c27, c28, c29, c30, c31, c32, c33, c34, c35, c36, c37, c38, c39, c40, c41, c42, c43, .slice fa gs.length fc, .int .i64 gs.length, u46, u47, u48, u49, u50, u51, u52, u53, u54, u55, u56, u57, u58, u59, u60, u61, u62, u63, u64, u65, u66, u67, u68, u69, u70, u71, u72, u73, u74, u75, u76, u77, u78, u79, u80, u81, u82, u83, u84, u85, u86, u87, u88, u89, u90, u91, u92, u93, u94, u95, u96, u97, u98, u99, u100, u101, u102, u103, u104, u105, u106, u107, u108, u109, u110, u111, u112, u113, u114, u115, u116, u117, u118, u119, u120, u121, u122, u123, u124, u125, u126, u127, u128, u129, u130, u131, u132, u133, u134, u135, u136, u137, u138, c139], []⟩ w2) (hP : ∀ c a a2 w2, a2.defers = a.defers → Q (.panic c) a w2 → Q (.panic c) a2 w2) :
    visBody.wp Tryz.prog Q ⟨#[c0, c1, c2, .pointer (some ⟨db, 0, none⟩), .pointer (some ⟨cb, 0, none⟩), .pointer (some ⟨nb, 0, none⟩), c6, .pointer (some ⟨ob, 0, none⟩), .pointer (some ⟨io, 0, none⟩), c9, c10, openV io db cb nb ob, v, .map (some W0.heap.size), c14, u15, u16, u17, c18, u19, c20, c21, c22, c23, c24, c25, c26, c27, c28, c29, c30, c31, c32, c33, c34, c35, c36, c37, c38, c39, c40, c41, c42, c43, .slice fa gs.length fc, .int .i64 gs.length, (.int .i64 k), u47, u48, u49, u50, u51, u52, u53, u54, u55, u56, u57, u58, u59, u60, u61, u62, u63, u64, u65, u66, u67, u68, u69, u70, u71, u72, u73, u74, u75, u76, u77, u78, u79, u80, u81, u82, u83, u84, u85, u86, u87, u88, u89, u90, u91, u92, u93, u94, u95, u96, u97, u98, u99, u100, u101, u102, u103, u104, u105, u106, u107, u108, u109, u110, u111, u112, u113, u114, u115, u116, u117, u118, u119, u120, u121, u122, u123, u124, u125, u126, u127, u128, u129, u130, u131, u132, u133, u134, u135, u136, u137, u138, c139], []⟩ wr := by
  conv => arg 2; whnf
  obtain ⟨ys, _, hys, hI⟩ := hR
  have HP := Lib.hid hP
  clear hP
  have HN := Lib.hid (C.next hk hx)
  obtain rfl := C.fa (by omega)
  have hat : Hid (x.at (fun p => wr.cell? p) fb (fo + k * 23)) := Lib.hid (fun j u hj => (hI.bel.cell (World.block_lt_of_cell? W0 _ (C.at_ k hk j u (by rw [hx]; exact hj)))).trans (C.at_ k hk j u (by rw [hx]; exact hj)))
  have hxm : x ∈ gs := by rw [← hx]; exact List.getElem_mem hk
  obtain ⟨hok, hvl⟩ := C.good x hxm
  have HOK := Lib.hid hok
  have HVL := Lib.hid hvl
  have hsz : Hid (x.cells.size = 23) := Lib.hid rfl
  have hone := Lib.hid x.one
  have HC := Lib.hid C
  have HI := Lib.hid hI
  have HYS := Lib.hid hys
  have HQ := Lib.hid hQ
  have HKD := Lib.hid hkd
  have hle := C.len
  have hlk : (k : Int) < gs.length := by omega
  have hyl : Hid (ys.length ≤ 1000) := Lib.hid (by have h1 := visK_len SC k; rw [← hys, List.length_map] at h1; omega)
  have HB1 : Hid (Below wr.heap.size wr (wr.alloc (.cells x.cells 45))) := Lib.hid ((Below.refl _ wr).alloc (Nat.le_refl _) _)
  have HNEW := Lib.hid (World.alloc_heap_new wr (.cells x.cells 45))
  have hsz1 : wr.heap.size < (wr.alloc (.cells x.cells 45)).heap.size := by simp
  clear hx hI hys hQ hkd hxm hok hvl C
  go_upto_region 16 with (first
    | ((with_reducible refine at_fload (.tmp 48) rfl ?_); go_must (refine wpList_fct_mid rfl _ rfl (by simp [Act.eval]) hat.out ?_))
    | ((with_reducible refine at_fstore _ _ rfl ?_); go_must (refine wpList_fct_new rfl _ _ rfl rfl _ _ _ (by simp [Act.eval]) (by simp [Act.eval]) (by rfl) hsz.out hone.out ?_)))
  generalize hT : wr.heap.size = T at *
  generalize hW1 : wr.alloc (.cells x.cells 45) = W1 at *
  clear hW1
  have k2 := blk_cell HNEW.out 2
  have k3 := blk_cell HNEW.out 3
  have f9 := blk_free HNEW.out 9
  have f10 := blk_free HNEW.out 10
  have f11 := blk_free HNEW.out 11
  have f12 := blk_free HNEW.out 12
  have f13 := blk_free HNEW.out 13
  have f14 := blk_free HNEW.out 14
  have k9 : W1.cell? ⟨T, 9, none⟩ = some x.tv := blk_cell HNEW.out 9
  have k10 : W1.cell? ⟨T, 10, none⟩ = some x.bv := blk_cell HNEW.out 10
  have k11 : W1.cell? ⟨T, 11, none⟩ = some (.int .i64 x.f.lab.till) := blk_cell HNEW.out 11
  have k12 : W1.cell? ⟨T, 12, none⟩ = some x.av := blk_cell HNEW.out 12
  have k13 : W1.cell? ⟨T, 13, none⟩ = some (.int .i64 x.f.lab.appr) := blk_cell HNEW.out 13
  have k14 : W1.cell? ⟨T, 14, none⟩ = some (.int .i64 x.f.lab.denied) := blk_cell HNEW.out 14
  rw [show x.cells[2]? = some (.int .i64 x.f.kind) from rfl, HKD.out] at k2
  rw [show x.cells[3]? = some (.int .i64 x.f.story) from rfl] at k3
  obtain ⟨s, hs, hs1, hs64⟩ := good_story HVL.out (by rw [HKD.out]; decide)
  have HS := Lib.hid hs
  have HO := Lib.hid (HC.out.open_.bel (HI.out.bel.trans (HB1.out.mono (by rw [← hT]; exact HI.out.bel.size))))
  rw [hs] at k3
  clear hs
  have hs0 : (0 : Int) ≤ (s : Nat) := by omega
  have hs65 : ((s : Nat) : Int) < 65 := by omega
  have HSL := Lib.hid (And.intro hs1 hs64)
  have hsee1 : Sees mem W1 := (HC.out.sees.bel HI.out.bel).bel (by rw [hT]; exact HB1.out)
  have HSEE := Lib.hid hsee1
  have HCA : Hid (Calls Tryz.prog 57 #[.int .i64 (s : Nat), .agg #[.int .i64 x.f.lab.till, x.av, .int .i64 x.f.lab.appr, .int .i64 x.f.lab.denied], .pointer (some ⟨io, 0, none⟩), .pointer (some ⟨db, 0, none⟩), .pointer (some ⟨cb, 0, none⟩), .pointer (some ⟨nb, 0, none⟩), .pointer (some ⟨ob, 0, none⟩)] W1 fun e w' => e = .returned (.bool (SC.isOpen (s : Nat) x.f.lab)) ∧ Below W1.heap.size W1 w') := Lib.hid (by
    rw [HC.out.sc]
    exact open_any HO.out s (by omega) x.f.lab x.av (HOK.out.parts.2.2.mono (fun a u h => hsee1 a u h)))
  have HOP : Hid (SC.isOpen x.f.story x.f.lab = SC.isOpen (s : Nat) x.f.lab) := Lib.hid (by rw [HS.out])
  obtain ⟨ao', cap', bb, bo, e0, hcap, hcm, hao, hbl⟩ := HOK.out.parts.2.1.open_
  injection e0 with e1 e2 e3
  subst e1 e3
  have HVB : Hid (ValidL x.f.blocks) := Lib.hid (revise_parts (validF_revise HVL.out HKD.out)).2.2.1
  have HIC : Hid (InC mem W0 io db cb nb ob d B gs cls now ov out SC x s bb bo x.ba) := Lib.hid ⟨HC.out.open_, HC.out.sees, HC.out.sc, HOK.out.fok, HS.out, by omega, hbl, hao, by have := HVB.out.1; omega⟩
  have hb24 : (x.f.blocks.length : Int) ≤ 24 := by have := HVB.out.1; omega
  generalize SC.isOpen (s : Nat) x.f.lab = op at HCA HOP
  clear hao hbl hcap hcm hsee1
  go_wp2_with fail
  refine HCA.out.mono ?_
  rintro e w3 ⟨rfl, hb3⟩
  have HB3 : Hid (Below T wr w3) := Lib.hid (HB1.out.trans (hb3.mono (Nat.le_of_lt hsz1)))
  have h3 := (hb3.block T hsz1).trans HNEW.out
  have HT3 := Lib.hid h3
  have hT3 : T < w3.heap.size := Go.Proofs.YtgbihmafmmeicaaGreatDoor.hlt h3
  have HI3 := Lib.hid (HI.out.below (by rw [hT]; exact HB3.out))
  have hTn : Hid (W0.heap.size < T) := Lib.hid (by have := HI.out.lt; omega)
  clear k2 k3 k9 k10 k11 k12 k13 k14 f9 f10 f11 f12 f13 f14 hb3 HCA
  have k10 : w3.cell? ⟨T, 10, none⟩ = some (.slice x.ba x.f.blocks.length x.bc) := blk_cell h3 10
  clear h3
  go_wp2_with fail
  refine in_loop HIC.out x.bc op _ _ _ _ _ _ _ _ _ _ _ _ _ _ _ _ _ _ _ _ _ _ _ _ _ _ _ _ _ _ _ _ _ _ _ _ _ _ _ _ _ _ _ _ _ _ _ _ _ _ _ _ _ _ _ _ _ _ _ _ _ _ _ _ _ _ _ _ _ _ _ _ _ _ _ _ _ _ _ _ _ _ _ _ _ _ _ _ _ _ _ _ _ _ _ _ _ _ _ _ _ _ _ _ _ _ _ _ _ _ _ _ _ _ _ _ _ _ _ _ _ _ _ _ _ _ _ _ _ v ys T (24 * k) (placesF SC (SC.D.take k)) (by omega) w3 ⟨rfl, HI3.out, HT3.out, hTn.out⟩ _ ?_ ?_
  rotate_left
  · exact fun c a a2 w2 e h => HP.out c a a2 w2 e h
  intro u19 u99 u100 u101 u102 u103 u104 u105 u106 u107 u108 u109 u110 u111 u112 u113 u114 u115 u116 u117 u118 u119 u120 w4 hR4
  obtain ⟨_, hI4, hT4, _⟩ := hR4
  rw [List.take_length] at hI4
  have hkm : 24 * k + x.f.blocks.length ≤ 24 * (k + 1) := by have := HVB.out.1; omega
  have HI4 : Hid (VisI W0 (24 * (k + 1)) (placesF SC (SC.D.take (k + 1))) v ys w4) := Lib.hid (by
    rw [HN.out.2]
    unfold placeF
    rw [if_pos HKD.out, HOP.out, HS.out]
    exact hI4.mono hkm)
  have HT4 := Lib.hid hT4
  have h416 : Hid (VisR W0 SC (k + 1) v (.int .i64 ((k + 1 : Nat) : Int)) w4 ∨ op = true) := Lib.hid (by
    cases hop : op
    · refine .inl ⟨ys, rfl, ?_, HI4.out⟩
      rw [HN.out.1, HYS.out]
      unfold seenAt
      rw [if_neg (by rw [HKD.out]; decide), if_neg (by rw [HKD.out]; decide), if_neg (by rw [HKD.out]; decide), if_neg (by rw [HKD.out]; decide), if_pos HKD.out, HOP.out, hop]
      simp
    · exact .inr rfl)
  clear hI4 hT4 k10 hkm
  cases op
  · have HV : Hid (VisR W0 SC (k + 1) v (.int .i64 ((k + 1 : Nat) : Int)) w4) := Lib.hid (by rcases h416.out with h | h; exact h; cases h)
    go_wp2_with fail
    refine HQ.out _ _ _ _ _ _ _ _ _ _ _ _ _ _ _ _ _ _ _ _ _ _ _ _ _ _ _ _ _ _ _ _ _ _ _ _ _ _ _ _ _ _ _ _ _ _ _ _ _ _ _ _ _ _ _ _ _ _ _ _ _ _ _ _ _ _ _ _ _ _ _ _ _ _ _ _ _ _ _ _ _ _ _ _ _ _ _ _ _ _ _ _ _ _ _ _ _ _ _ ?_
    have h := HV.out
    simpa using h
  · have HO4 := Lib.hid (HC.out.open_.bel HI4.out.bel)
    have kd0 := blk_cell HO4.out.dg 0
    simp only [List.getElem?_toArray, List.getElem?_cons_zero] at kd0
    have HREV : Hid (Calls Tryz.prog 58 #[.pointer (some ⟨d, 0, none⟩), .agg x.cells, openV io db cb nb ob] w4 (RevPost SC x.f w4)) := Lib.hid (by
      rw [HC.out.sc]
      exact revised_any HO4.out HC.out.good (HC.out.sees.bel HI4.out.bel) x HOK.out HVL.out HKD.out)
    clear h416
    go_wp2_with ((with_reducible refine at_fload _ rfl ?_); go_must (refine wpList_fct_load rfl _ rfl T (by first | (simp [Act.eval]; done) | simp [Act.eval, Act.put]) _ HT4.out hsz.out ?_))
    refine HREV.out.mono ?_
    rintro e w6 ⟨y, rfl, hyf, hyok, hb6⟩
    have HI6 := Lib.hid (HI4.out.below hb6)
    have HYF := Lib.hid hyf
    have HYO : Hid (y.ok (memFr w6 fun b => b ≤ W0.heap.size ∨ v.ownBlock = some b)) := Lib.hid (hyok.mono (memFr_mono (Upd.refl (fun _ => False) _) (fun b _ hf => ⟨fun g => hf (by
      rcases g with g | g
      · have := HI4.out.lt; omega
      · exact (HI4.out.row.ge b g).2), fun g => g⟩)))
    clear hyf hyok hb6 kd0
    go_wp2_with (first
      | ((with_reducible refine at_fslice _ rfl ?_); go_must (refine wpList_fct_slice rfl _ rfl y (by first | (simp [Act.eval]; done) | simp [Act.eval, Act.put]) ?_))
      | (at_builtin
         go_must (refine wpList_app_fct rfl _ _ rfl (W0.heap.size + 1) _ ys rfl (HI6.out.row.same fun k hk => Below.heap_alloc _ _ _ (HI6.out.row.ge k hk).2) y w6.heap.size 1 rfl (World.alloc_heap_new _ _) (by have := hyl.out; omega) (by have := HI6.out.lt; simp; omega) ?_)
         intro v2 w2 h2 hg2 hn2
         have H2 := Lib.hid (HI6.out.app HYO.out h2 hg2 hn2)
         clear h2 hg2 hn2))
    refine HQ.out _ _ _ _ _ _ _ _ _ _ _ _ _ _ _ _ _ _ _ _ _ _ _ _ _ _ _ _ _ _ _ _ _ _ _ _ _ _ _ _ _ _ _ _ _ _ _ _ _ _ _ _ _ _ _ _ _ _ _ _ _ _ _ _ _ _ _ _ _ _ _ _ _ _ _ _ _ _ _ _ _ _ _ _ _ _ _ _ _ _ _ _ _ _ _ _ _ _ w2 ⟨ys ++ [y], by go_num, ?_, H2.out⟩
    rw [HN.out.1, List.map_append, HYS.out]
    unfold seenAt
    rw [if_neg (by rw [HKD.out]; decide), if_neg (by rw [HKD.out]; decide), if_neg (by rw [HKD.out]; decide), if_neg (by rw [HKD.out]; decide), if_pos HKD.out, if_pos (by rw [HOP.out])]
    rw [← HYF.out]
    rfl
end Go.Proofs.YtgbihmafmmeicaaGreatDoor
namespace Go.Proofs.YtgbihmafmmeicaaGreatDoor
open Go.RowKit Mg Go.Shelf Go.Maps

set_option maxRecDepth 100000 in
set_option maxHeartbeats 4000000 in
theorem vis_round {mem : Addr → Option Value} {W0 : World} {io db cb nb ob d B : Nat} {gs : List FctE} {cls now : Int} {ov : Value} {out : List Int} {fa : Option Addr} {fc fb fo : Nat} {SC : Scn} (C : VisC mem W0 io db cb nb ob d B gs cls now ov out fa fc fb fo SC) (c0 c1 c2 c6 c9 c10 c14 c18 c20 c21 c22 c23 c24 c25 c26 c27 c28 c29 c30 c31 c32 c33 c34 c35 c36 c37 c38 c39 c40 c41 c42 c43 c139 : Value) (u15 u16 u17 u19 u47 u48 u49 u50 u51 u52 u53 u54 u55 u56 u57 u58 u59 u60 u61 u62 u63 u64 u65 u66 u67 u68 u69 u70 u71 u72 u73 u74 u75 u76 u77 u78 u79 u80 u81 u82 u83 u84 u85 u86 u87 u88 u89 u90 u91 u92 u93 u94 u95 u96 u97 u98 u99 u100 u101 u102 u103 u104 u105 u106 u107 u108 u109 u110 u111 u112 u113 u114 u115 u116 u117 u118 u119 u120 u121 u122 u123 u124 u125 u126 u127 u128 u129 u130 u131 u132 u133 u134 u135 u136 u137 u138 : Value) (v : Value) (k : Nat) (hk : k < gs.length) (wr : World) (hR : VisR W0 SC k v (.int .i64 k) wr) (Q : Exit → Act → World → Prop)
    (hQ : ∀ (u12 u15 u16 u17 u19 u46 u47 u48 u49 u50 u51 u52 u53 u54 u55 u56 u57 u58 u59 u60 u61 u62 u63 u64 u65 u66 u67 u68 u69 u70 u71 u72 u73 u74 u75 u76 u77 u78 u79 u80 u81 u82 u83 u84 u85 u86 u87 u88 u89 u90 u91 u92 u93 u94 u95 u96 u97 u98 u99 u100 u101 u102 u103 u104 u105 u106 u107 u108 u109 u110 u111 u112 u113 u114 u115 u116 u117 u118 u119 u120 u121 u122 u123 u124 u125 u126 u127 u128 u129 u130 u131 u132 u133 u134 u135 u136 u137 u138 : Value) (w2 : World), VisR W0 SC (k + 1) u12 u46 w2 → Q .normal ⟨#[c0, c1, c2, .pointer (some ⟨db, 0, none⟩), .pointer (some ⟨cb, 0, none⟩), .pointer (some ⟨nb, 0, none⟩), c6, .pointer (some ⟨ob, 0, none⟩), .pointer (some ⟨io, 0, none⟩), c9, c10, openV io db cb nb ob, u12, .map (some W0.heap.size), c14, u15, u16, u17, c18, u19, c20, c21, c22, c23, c24, c25, c26, c27, c28, c29, c30, c31, c32, c33, c34, c35, c36, c37, c38, c39, c40, c41, c42, c43, .slice fa gs.length fc, .int .i64 gs.length, u46, u47, u48, u49, u50, u51, u52, u53, u54, u55, u56, u57, u58, u59, u60, u61, u62, u63, u64, u65, u66, u67, u68, u69, u70, u71, u72, u73, u74, u75, u76, u77, u78, u79, u80, u81, u82, u83, u84, u85, u86, u87, u88, u89, u90, u91, u92, u93, u94, u95, u96, u97, u98, u99, u100, u101, u102, u103, u104, u105, u106, u107, u108, u109, u110, u111, u112, u113, u114, u115, u116, u117, u118, u119, u120, u121, u122, u123, u124, u125, u126, u127, u128, u129, u130, u131, u132, u133, u134, u135, u136, u137, u138, c139], []⟩ w2) (hP : ∀ c a a2 w2, a2.defers = a.defers → Q (.panic c) a w2 → Q (.panic c) a2 w2) :
    visBody.wp Tryz.prog Q ⟨#[c0, c1, c2, .pointer (some ⟨db, 0, none⟩), .pointer (some ⟨cb, 0, none⟩), .pointer (some ⟨nb, 0, none⟩), c6, .pointer (some ⟨ob, 0, none⟩), .pointer (some ⟨io, 0, none⟩), c9, c10, openV io db cb nb ob, v, .map (some W0.heap.size), c14, u15, u16, u17, c18, u19, c20, c21, c22, c23, c24, c25, c26, c27, c28, c29, c30, c31, c32, c33, c34, c35, c36, c37, c38, c39, c40, c41, c42, c43, .slice fa gs.length fc, .int .i64 gs.length, (.int .i64 k), u47, u48, u49, u50, u51, u52, u53, u54, u55, u56, u57, u58, u59, u60, u61, u62, u63, u64, u65, u66, u67, u68, u69, u70, u71, u72, u73, u74, u75, u76, u77, u78, u79, u80, u81, u82, u83, u84, u85, u86, u87, u88, u89, u90, u91, u92, u93, u94, u95, u96, u97, u98, u99, u100, u101, u102, u103, u104, u105, u106, u107, u108, u109, u110, u111, u112, u113, u114, u115, u116, u117, u118, u119, u120, u121, u122, u123, u124, u125, u126, u127, u128, u129, u130, u131, u132, u133, u134, u135, u136, u137, u138, c139], []⟩ wr := by
  obtain ⟨hok, hvl⟩ := C.good _ (List.getElem_mem hk)
  have hkind := validF_kind hvl
  by_cases h1 : gs[k].f.kind = 1
  · exact vis_k1 C _ _ _ _ _ _ _ _ _ _ _ _ _ _ _ _ _ _ _ _ _ _ _ _ _ _ _ _ _ _ _ _ _ _ _ _ _ _ _ _ _ _ _ _ _ _ _ _ _ _ _ _ _ _ _ _ _ _ _ _ _ _ _ _ _ _ _ _ _ _ _ _ _ _ _ _ _ _ _ _ _ _ _ _ _ _ _ _ _ _ _ _ _ _ _ _ _ _ _ _ _ _ _ _ _ _ _ _ _ _ _ _ _ _ _ _ _ _ _ _ _ _ _ _ _ _ _ _ _ v k _ hk rfl h1 wr hR Q hQ hP
  by_cases h7 : gs[k].f.kind = 7
  · exact vis_k7 C _ _ _ _ _ _ _ _ _ _ _ _ _ _ _ _ _ _ _ _ _ _ _ _ _ _ _ _ _ _ _ _ _ _ _ _ _ _ _ _ _ _ _ _ _ _ _ _ _ _ _ _ _ _ _ _ _ _ _ _ _ _ _ _ _ _ _ _ _ _ _ _ _ _ _ _ _ _ _ _ _ _ _ _ _ _ _ _ _ _ _ _ _ _ _ _ _ _ _ _ _ _ _ _ _ _ _ _ _ _ _ _ _ _ _ _ _ _ _ _ _ _ _ _ _ _ _ _ _ v k _ hk rfl h7 wr hR Q hQ
  by_cases h3 : gs[k].f.kind = 3
  · exact vis_k3 C _ _ _ _ _ _ _ _ _ _ _ _ _ _ _ _ _ _ _ _ _ _ _ _ _ _ _ _ _ _ _ _ _ _ _ _ _ _ _ _ _ _ _ _ _ _ _ _ _ _ _ _ _ _ _ _ _ _ _ _ _ _ _ _ _ _ _ _ _ _ _ _ _ _ _ _ _ _ _ _ _ _ _ _ _ _ _ _ _ _ _ _ _ _ _ _ _ _ _ _ _ _ _ _ _ _ _ _ _ _ _ _ _ _ _ _ _ _ _ _ _ _ _ _ _ _ _ _ _ v k _ hk rfl h3 wr hR Q hQ
  by_cases h6 : gs[k].f.kind = 6
  · exact vis_k6 C _ _ _ _ _ _ _ _ _ _ _ _ _ _ _ _ _ _ _ _ _ _ _ _ _ _ _ _ _ _ _ _ _ _ _ _ _ _ _ _ _ _ _ _ _ _ _ _ _ _ _ _ _ _ _ _ _ _ _ _ _ _ _ _ _ _ _ _ _ _ _ _ _ _ _ _ _ _ _ _ _ _ _ _ _ _ _ _ _ _ _ _ _ _ _ _ _ _ _ _ _ _ _ _ _ _ _ _ _ _ _ _ _ _ _ _ _ _ _ _ _ _ _ _ _ _ _ _ _ v k _ hk rfl h6 wr hR Q hQ
  by_cases h5 : gs[k].f.kind = 5
  · exact vis_k5 C _ _ _ _ _ _ _ _ _ _ _ _ _ _ _ _ _ _ _ _ _ _ _ _ _ _ _ _ _ _ _ _ _ _ _ _ _ _ _ _ _ _ _ _ _ _ _ _ _ _ _ _ _ _ _ _ _ _ _ _ _ _ _ _ _ _ _ _ _ _ _ _ _ _ _ _ _ _ _ _ _ _ _ _ _ _ _ _ _ _ _ _ _ _ _ _ _ _ _ _ _ _ _ _ _ _ _ _ _ _ _ _ _ _ _ _ _ _ _ _ _ _ _ _ _ _ _ _ _ v k _ hk rfl h5 wr hR Q hQ hP
  by_cases h4 : gs[k].f.kind = 4
  · exact vis_k4 C _ _ _ _ _ _ _ _ _ _ _ _ _ _ _ _ _ _ _ _ _ _ _ _ _ _ _ _ _ _ _ _ _ _ _ _ _ _ _ _ _ _ _ _ _ _ _ _ _ _ _ _ _ _ _ _ _ _ _ _ _ _ _ _ _ _ _ _ _ _ _ _ _ _ _ _ _ _ _ _ _ _ _ _ _ _ _ _ _ _ _ _ _ _ _ _ _ _ _ _ _ _ _ _ _ _ _ _ _ _ _ _ _ _ _ _ _ _ _ _ _ _ _ _ _ _ _ _ _ v k _ hk rfl h4 wr hR Q hQ
  exact vis_k0 C _ _ _ _ _ _ _ _ _ _ _ _ _ _ _ _ _ _ _ _ _ _ _ _ _ _ _ _ _ _ _ _ _ _ _ _ _ _ _ _ _ _ _ _ _ _ _ _ _ _ _ _ _ _ _ _ _ _ _ _ _ _ _ _ _ _ _ _ _ _ _ _ _ _ _ _ _ _ _ _ _ _ _ _ _ _ _ _ _ _ _ _ _ _ _ _ _ _ _ _ _ _ _ _ _ _ _ _ _ _ _ _ _ _ _ _ _ _ _ _ _ _ _ _ _ _ _ _ _ v k _ hk rfl ⟨h1, h3, h4, h5, h6, h7⟩ wr hR Q hQ
set_option maxRecDepth 100000 in
set_option maxHeartbeats 4000000 in
theorem vis_loop {mem : Addr → Option Value} {W0 : World} {io db cb nb ob d B : Nat} {gs : List FctE} {cls now : Int} {ov : Value} {out : List Int} {fa : Option Addr} {fc fb fo : Nat} {SC : Scn} (C : VisC mem W0 io db cb nb ob d B gs cls now ov out fa fc fb fo SC) (c0 c1 c2 c6 c9 c10 c14 c18 c20 c21 c22 c23 c24 c25 c26 c27 c28 c29 c30 c31 c32 c33 c34 c35 c36 c37 c38 c39 c40 c41 c42 c43 c139 : Value) (u12 u15 u16 u17 u19 u46 u47 u48 u49 u50 u51 u52 u53 u54 u55 u56 u57 u58 u59 u60 u61 u62 u63 u64 u65 u66 u67 u68 u69 u70 u71 u72 u73 u74 u75 u76 u77 u78 u79 u80 u81 u82 u83 u84 u85 u86 u87 u88 u89 u90 u91 u92 u93 u94 u95 u96 u97 u98 u99 u100 u101 u102 u103 u104 u105 u106 u107 u108 u109 u110 u111 u112 u113 u114 u115 u116 u117 u118 u119 u120 u121 u122 u123 u124 u125 u126 u127 u128 u129 u130 u131 u132 u133 u134 u135 u136 u137 u138 : Value) (wr : World) (hR : VisR W0 SC 0 u12 u46 wr) (Q : Exit → Act → World → Prop)
    (hQ : ∀ (u12 u15 u16 u17 u19 u46 u47 u48 u49 u50 u51 u52 u53 u54 u55 u56 u57 u58 u59 u60 u61 u62 u63 u64 u65 u66 u67 u68 u69 u70 u71 u72 u73 u74 u75 u76 u77 u78 u79 u80 u81 u82 u83 u84 u85 u86 u87 u88 u89 u90 u91 u92 u93 u94 u95 u96 u97 u98 u99 u100 u101 u102 u103 u104 u105 u106 u107 u108 u109 u110 u111 u112 u113 u114 u115 u116 u117 u118 u119 u120 u121 u122 u123 u124 u125 u126 u127 u128 u129 u130 u131 u132 u133 u134 u135 u136 u137 u138 : Value) (w2 : World), VisR W0 SC gs.length u12 u46 w2 → Q (.exit 2) ⟨#[c0, c1, c2, .pointer (some ⟨db, 0, none⟩), .pointer (some ⟨cb, 0, none⟩), .pointer (some ⟨nb, 0, none⟩), c6, .pointer (some ⟨ob, 0, none⟩), .pointer (some ⟨io, 0, none⟩), c9, c10, openV io db cb nb ob, u12, .map (some W0.heap.size), c14, u15, u16, u17, c18, u19, c20, c21, c22, c23, c24, c25, c26, c27, c28, c29, c30, c31, c32, c33, c34, c35, c36, c37, c38, c39, c40, c41, c42, c43, .slice fa gs.length fc, .int .i64 gs.length, u46, u47, u48, u49, u50, u51, u52, u53, u54, u55, u56, u57, u58, u59, u60, u61, u62, u63, u64, u65, u66, u67, u68, u69, u70, u71, u72, u73, u74, u75, u76, u77, u78, u79, u80, u81, u82, u83, u84, u85, u86, u87, u88, u89, u90, u91, u92, u93, u94, u95, u96, u97, u98, u99, u100, u101, u102, u103, u104, u105, u106, u107, u108, u109, u110, u111, u112, u113, u114, u115, u116, u117, u118, u119, u120, u121, u122, u123, u124, u125, u126, u127, u128, u129, u130, u131, u132, u133, u134, u135, u136, u137, u138, c139], []⟩ w2) (hP : ∀ c a a2 w2, a2.defers = a.defers → Q (.panic c) a w2 → Q (.panic c) a2 w2) :
    (Code.loop visBody).wp Tryz.prog Q ⟨#[c0, c1, c2, .pointer (some ⟨db, 0, none⟩), .pointer (some ⟨cb, 0, none⟩), .pointer (some ⟨nb, 0, none⟩), c6, .pointer (some ⟨ob, 0, none⟩), .pointer (some ⟨io, 0, none⟩), c9, c10, openV io db cb nb ob, u12, .map (some W0.heap.size), c14, u15, u16, u17, c18, u19, c20, c21, c22, c23, c24, c25, c26, c27, c28, c29, c30, c31, c32, c33, c34, c35, c36, c37, c38, c39, c40, c41, c42, c43, .slice fa gs.length fc, .int .i64 gs.length, u46, u47, u48, u49, u50, u51, u52, u53, u54, u55, u56, u57, u58, u59, u60, u61, u62, u63, u64, u65, u66, u67, u68, u69, u70, u71, u72, u73, u74, u75, u76, u77, u78, u79, u80, u81, u82, u83, u84, u85, u86, u87, u88, u89, u90, u91, u92, u93, u94, u95, u96, u97, u98, u99, u100, u101, u102, u103, u104, u105, u106, u107, u108, u109, u110, u111, u112, u113, u114, u115, u116, u117, u118, u119, u120, u121, u122, u123, u124, u125, u126, u127, u128, u129, u130, u131, u132, u133, u134, u135, u136, u137, u138, c139], []⟩ wr := by
  refine wp_loop (fun a w => ∃ U : Nat → Value, (∃ j, j ≤ gs.length ∧ VisR W0 SC j (U 12) (U 46) w) ∧ a = ⟨#[c0, c1, c2, .pointer (some ⟨db, 0, none⟩), .pointer (some ⟨cb, 0, none⟩), .pointer (some ⟨nb, 0, none⟩), c6, .pointer (some ⟨ob, 0, none⟩), .pointer (some ⟨io, 0, none⟩), c9, c10, openV io db cb nb ob, U 12, .map (some W0.heap.size), c14, U 15, U 16, U 17, c18, U 19, c20, c21, c22, c23, c24, c25, c26, c27, c28, c29, c30, c31, c32, c33, c34, c35, c36, c37, c38, c39, c40, c41, c42, c43, .slice fa gs.length fc, .int .i64 gs.length, U 46, U 47, U 48, U 49, U 50, U 51, U 52, U 53, U 54, U 55, U 56, U 57, U 58, U 59, U 60, U 61, U 62, U 63, U 64, U 65, U 66, U 67, U 68, U 69, U 70, U 71, U 72, U 73, U 74, U 75, U 76, U 77, U 78, U 79, U 80, U 81, U 82, U 83, U 84, U 85, U 86, U 87, U 88, U 89, U 90, U 91, U 92, U 93, U 94, U 95, U 96, U 97, U 98, U 99, U 100, U 101, U 102, U 103, U 104, U 105, U 106, U 107, U 108, U 109, U 110, U 111, U 112, U 113, U 114, U 115, U 116, U 117, U 118, U 119, U 120, U 121, U 122, U 123, U 124, U 125, U 126, U 127, U 128, U 129, U 130, U 131, U 132, U 133, U 134, U 135, U 136, U 137, U 138, c139], []⟩) (fun a _ => gs.length - (intOf (a.tmps.getD 46 undef)).toNat) ⟨fun i => ([undef, undef, undef, undef, undef, undef, undef, undef, undef, undef, undef, undef, u12, undef, undef, u15, u16, u17, undef, u19, undef, undef, undef, undef, undef, undef, undef, undef, undef, undef, undef, undef, undef, undef, undef, undef, undef, undef, undef, undef, undef, undef, undef, undef, undef, undef, u46, u47, u48, u49, u50, u51, u52, u53, u54, u55, u56, u57, u58, u59, u60, u61, u62, u63, u64, u65, u66, u67, u68, u69, u70, u71, u72, u73, u74, u75, u76, u77, u78, u79, u80, u81, u82, u83, u84, u85, u86, u87, u88, u89, u90, u91, u92, u93, u94, u95, u96, u97, u98, u99, u100, u101, u102, u103, u104, u105, u106, u107, u108, u109, u110, u111, u112, u113, u114, u115, u116, u117, u118, u119, u120, u121, u122, u123, u124, u125, u126, u127, u128, u129, u130, u131, u132, u133, u134, u135, u136, u137, u138, undef] : List Value).getD i undef, ⟨0, Nat.zero_le _, hR⟩, rfl⟩ ?_
  rintro a w2 ⟨U, ⟨j, hj, hR2⟩, rfl⟩
  have e : U 46 = .int .i64 (j : Nat) := by obtain ⟨_, h, _⟩ := hR2; exact h
  by_cases hlt : j < gs.length
  · rw [e] at hR2 ⊢
    refine vis_round C _ _ _ _ _ _ _ _ _ _ _ _ _ _ _ _ _ _ _ _ _ _ _ _ _ _ _ _ _ _ _ _ _ _ _ _ _ _ _ _ _ _ _ _ _ _ _ _ _ _ _ _ _ _ _ _ _ _ _ _ _ _ _ _ _ _ _ _ _ _ _ _ _ _ _ _ _ _ _ _ _ _ _ _ _ _ _ _ _ _ _ _ _ _ _ _ _ _ _ _ _ _ _ _ _ _ _ _ _ _ _ _ _ _ _ _ _ _ _ _ _ _ _ _ _ _ _ _ _ (U 12) j hlt w2 hR2 _ ?_ (fun c a a2 w2 e h => hP c a a2 w2 e h)
    intro u12 u15 u16 u17 u19 u46 u47 u48 u49 u50 u51 u52 u53 u54 u55 u56 u57 u58 u59 u60 u61 u62 u63 u64 u65 u66 u67 u68 u69 u70 u71 u72 u73 u74 u75 u76 u77 u78 u79 u80 u81 u82 u83 u84 u85 u86 u87 u88 u89 u90 u91 u92 u93 u94 u95 u96 u97 u98 u99 u100 u101 u102 u103 u104 u105 u106 u107 u108 u109 u110 u111 u112 u113 u114 u115 u116 u117 u118 u119 u120 u121 u122 u123 u124 u125 u126 u127 u128 u129 u130 u131 u132 u133 u134 u135 u136 u137 u138 w3 hR3
    have e3 : u46 = .int .i64 ((j + 1 : Nat) : Int) := by obtain ⟨_, h, _⟩ := hR3; exact h
    refine ⟨⟨fun i => ([undef, undef, undef, undef, undef, undef, undef, undef, undef, undef, undef, undef, u12, undef, undef, u15, u16, u17, undef, u19, undef, undef, undef, undef, undef, undef, undef, undef, undef, undef, undef, undef, undef, undef, undef, undef, undef, undef, undef, undef, undef, undef, undef, undef, undef, undef, u46, u47, u48, u49, u50, u51, u52, u53, u54, u55, u56, u57, u58, u59, u60, u61, u62, u63, u64, u65, u66, u67, u68, u69, u70, u71, u72, u73, u74, u75, u76, u77, u78, u79, u80, u81, u82, u83, u84, u85, u86, u87, u88, u89, u90, u91, u92, u93, u94, u95, u96, u97, u98, u99, u100, u101, u102, u103, u104, u105, u106, u107, u108, u109, u110, u111, u112, u113, u114, u115, u116, u117, u118, u119, u120, u121, u122, u123, u124, u125, u126, u127, u128, u129, u130, u131, u132, u133, u134, u135, u136, u137, u138, undef] : List Value).getD i undef, ⟨j + 1, hlt, hR3⟩, rfl⟩, ?_⟩
    show gs.length - (intOf u46).toNat < gs.length - (intOf (.int .i64 (j : Nat))).toNat
    rw [e3]
    simp [intOf]; omega
  · obtain rfl : j = gs.length := by omega
    rw [e]
    have HQ := Lib.hid hQ
    have HR := Lib.hid (e ▸ hR2)
    clear hQ hR2 e hR hlt hj C
    conv => arg 2; whnf
    go_wp2_with fail
    exact HQ.out _ _ _ _ _ _ _ _ _ _ _ _ _ _ _ _ _ _ _ _ _ _ _ _ _ _ _ _ _ _ _ _ _ _ _ _ _ _ _ _ _ _ _ _ _ _ _ _ _ _ _ _ _ _ _ _ _ _ _ _ _ _ _ _ _ _ _ _ _ _ _ _ _ _ _ _ _ _ _ _ _ _ _ _ _ _ _ _ _ _ _ _ _ _ _ _ _ _ _ HR.out
end Go.Proofs.YtgbihmafmmeicaaGreatDoor
namespace Go.Proofs.YtgbihmafmmeicaaGreatDoor
open Go.RowKit Mg Go.Shelf Go.Maps

def VisPost (D : List Fct) (cls now : Int) (W : World) (e : Ending) (w' : World) : Prop :=
  ∃ v ys L, e = .returned v ∧ (0 ≤ cls → cls < 4 → OutIs (digF D) cls now L) ∧ ys.map FctE.f = visOf D cls now L ∧ FRow w' W.heap.size v ys ∧ (∀ y ∈ ys, y.ok (memFr w' fun b => b < W.heap.size ∨ v.ownBlock = some b)) ∧ Below W.heap.size W w'
theorem FRow.weaken {w : World} {B B' : Nat} {v : Value} {es : List FctE} (h : FRow w B v es) (hB : B' ≤ B) : FRow w B' v es := by
  refine ⟨h.1, ?_⟩
  rcases h.2 with hq | ⟨g, cap, cur, rfl, hb, rest⟩
  · exact .inl hq
  · exact .inr ⟨g, cap, cur, rfl, by omega, rest⟩
theorem IRow.at (w : World) (B : Nat) (v : Value) (l : List Int) (h : IRow w B v l) : ∃ g cap ao, v = .slice ao l.length cap ∧ (0 < l.length → ao = some ⟨g, 0, none⟩ ∧ g < w.heap.size) ∧ ∀ j (hj : j < l.length), w.cell? ⟨g, j, none⟩ = some (.int .i64 l[j]) := by
  by_cases hl : 0 < l.length
  · obtain ⟨g, cap, rfl, _, _, _, hc⟩ := h.cells 0 hl
    refine ⟨g, cap, _, rfl, fun _ => ⟨rfl, World.block_lt_of_cell? w _ hc⟩, fun j hj => ?_⟩
    obtain ⟨g2, cap2, e, _, _, _, h2⟩ := h.cells j hj
    injection e with e
    injection e with e
    injection e with e
    subst e
    exact h2
  · obtain ⟨ao, cap, rfl⟩ := h.shape
    exact ⟨0, cap, ao, rfl, fun h => absurd h hl, fun j hj => absurd (Nat.lt_of_le_of_lt (Nat.zero_le _) hj) hl⟩
theorem sorted_len : ∀ (l : List Int) (a b : Int), l.Pairwise (· < ·) → (∀ s ∈ l, a ≤ s ∧ s ≤ b) → l.length ≤ (b - a + 1).toNat
  | [], _, _, _, _ => Nat.zero_le _
  | x :: l, a, b, hp, hr => by
    have h1 := hr x List.mem_cons_self
    rw [List.pairwise_cons] at hp
    have h2 := sorted_len l (x + 1) b hp.2 (fun s hs => ⟨by have := hp.1 s hs; omega, (hr s (List.mem_cons_of_mem _ hs)).2⟩)
    rw [List.length_cons]
    omega
set_option maxRecDepth 100000 in
set_option maxHeartbeats 4000000 in
theorem visible_no (d : Nat) (cls now : Int) (w : World) (D : List Fct) (h : cls < 0 ∨ 4 ≤ cls) :
    Calls Tryz.prog 42 #[.pointer (some ⟨d, 0, none⟩), .int .i64 cls, .int .i64 now] w (VisPost D cls now w) := by
  have HP : Hid (∀ w', Below w.heap.size w w' → VisPost D cls now w (.returned (.slice none 0 0)) w') := Lib.hid (fun w' hb => ⟨_, [], [], rfl, fun h1 h2 => by omega, by unfold visOf; rw [if_neg (by omega)]; rfl, FRow.nil _ _, (fun y hy => by cases hy), hb⟩)
  have HB : Hid (∀ o1 o2 o3, Below w.heap.size w (((w.alloc o1).alloc o2).alloc o3)) := Lib.hid (fun o1 o2 o3 => (((Below.refl _ w).alloc (Nat.le_refl _) _).alloc (by simp) _).alloc (by simp; omega) _)
  rcases h with h | h
  · go_enter Tryz.func42, Tryz.ntmps42
    go_wp2_with fail
    go_ret
    exact HP.out _ (HB.out _ _ _)
  · have h0 : ¬ cls < 0 := by omega
    go_enter Tryz.func42, Tryz.ntmps42
    go_wp2_with fail
    go_ret
    exact HP.out _ (HB.out _ _ _)
set_option maxRecDepth 100000 in
set_option maxHeartbeats 4000000 in
theorem visible_yes {mem : Addr → Option Value} {B d : Nat} {gs : List FctE} (cls now : Int) (w : World) (h0 : 0 ≤ cls) (h4 : cls < 4) (hD : DigAt w B d gs) (hok : ∀ e ∈ gs, e.ok mem ∧ validF e.f = true) (hs : Sees mem w) (hlen : gs.length ≤ 1000) :
    Calls Tryz.prog 42 #[.pointer (some ⟨d, 0, none⟩), .int .i64 cls, .int .i64 now] w (VisPost (gs.map FctE.f) cls now w) := by
  have hB1 : Hid (Below w.heap.size w (((w.alloc (.cells #[.pointer (some ⟨d, 0, none⟩)] 63)).alloc (.cells #[.int .i64 cls] 3)).alloc (.cells #[.int .i64 now] 3))) := Lib.hid ((((Below.refl _ w).alloc (Nat.le_refl _) _).alloc (by simp) _).alloc (by simp; omega) _)
  have HH := Lib.hid (And.intro (heap_new1 w (.cells #[.pointer (some ⟨d, 0, none⟩)] 63) (.cells #[.int .i64 cls] 3)) (And.intro (heap_new2 w (.cells #[.pointer (some ⟨d, 0, none⟩)] 63) (.cells #[.int .i64 cls] 3)) (World.alloc_heap_new ((w.alloc (.cells #[.pointer (some ⟨d, 0, none⟩)] 63)).alloc (.cells #[.int .i64 cls] 3)) (.cells #[.int .i64 now] 3))))
  have HD := Lib.hid hD
  have HOK := Lib.hid hok
  have HS := Lib.hid hs
  have hmm := @run_makeMap Tryz.prog
  have HMM := Lib.hid hmm
  have HC04 := Lib.hid (And.intro h0 h4)
  clear hD hok hs hmm
  have h0' : ¬ cls < 0 := by omega
  have h4' : ¬ 4 ≤ cls := by omega
  go_enter Tryz.func42, Tryz.ntmps42
  go_upto_region 3 with fail
  generalize hW1 : World.alloc (World.alloc (World.alloc w _) _) _ = W1
  rw [hW1] at hB1
  obtain ⟨g0, g1, g2⟩ := HH.out
  have hz1 : W1.heap.size = w.heap.size + 3 := by rw [← hW1]; simp
  have H0 : Hid (W1.heap[w.heap.size]? = some (.cells #[.pointer (some ⟨d, 0, none⟩)] 63 (0, 0))) := Lib.hid (by rw [← hW1]; exact (Below.heap_alloc _ _ _ (Go.Proofs.YtgbihmafmmeicaaGreatDoor.hlt g0)).trans g0)
  have H1 : Hid (W1.heap[w.heap.size + 1]? = some (.cells #[.int .i64 cls] 3 (0, 0))) := Lib.hid (by rw [← hW1]; exact (Below.heap_alloc _ _ _ (Go.Proofs.YtgbihmafmmeicaaGreatDoor.hlt g1)).trans g1)
  have H2 : Hid (W1.heap[w.heap.size + 2]? = some (.cells #[.int .i64 now] 3 (0, 0))) := Lib.hid (by rw [← hW1]; simpa using g2)
  clear hW1 HH g0 g1 g2
  have k0 := blk_cell H0.out 0
  have k1 := blk_cell H1.out 0
  have k2 := blk_cell H2.out 0
  simp only [List.getElem?_toArray, List.getElem?_cons_zero] at k0 k1 k2
  have c1 := Lib.hid (digOut_any cls now W1 (HD.out.bel (hB1.out.mono (Nat.le_refl _))) (fun e he => (HOK.out e he).1) (HS.out.bel hB1.out))
  have hz := Lib.hid hz1
  clear hz1
  go_wp2_with fail
  refine c1.out.mono ?_
  rintro e W2 ⟨ov, out, rfl, hrow, hout, hb2⟩
  obtain ⟨oa, oc, rfl⟩ := hrow.shape
  have HR := Lib.hid hrow
  have HO := Lib.hid hout
  have HB2 := Lib.hid hb2
  have hlo : out.length ≤ 64 := by
    have := sorted_len out 1 64 hout.sorted hout.range
    omega
  clear hrow hout hb2 k0 k1 k2 c1
  have HW4 : Hid (Below W2.heap.size W2 ((W2.alloc (.cells #[.slice oa out.length oc] 30)).alloc (.cells Tryz.zeroCells80 80))) := Lib.hid (((Below.refl _ W2).alloc (Nat.le_refl _) _).alloc (by simp) _)
  have HOB := Lib.hid (heap_new1 W2 (.cells #[.slice oa out.length oc] 30) (.cells Tryz.zeroCells80 80))
  have HTB : Hid (Tab ((W2.alloc (.cells #[.slice oa out.length oc] 30)).alloc (.cells Tryz.zeroCells80 80)) (W2.heap.size + 1) 65 80 (inT [])) := Lib.hid (by
    unfold Tab
    rw [heap_new2, zero80])
  go_upto_region 5 with fail
  generalize hW4 : World.alloc (World.alloc W2 _) _ = W4
  rw [hW4] at HW4 HOB HTB
  have hz4 : Hid (W4.heap.size = W2.heap.size + 2) := Lib.hid (by rw [← hW4]; simp)
  clear hW4
  have ko : W4.cell? ⟨W2.heap.size, 0, none⟩ = some (.slice oa out.length oc) := blk_cell HOB.out 0
  go_wp2_with fail
  obtain ⟨og, oc', oa', e0, hoa, hcell⟩ := IRow.at _ _ _ _ HR.out
  injection e0 with e1 e2 e3
  subst e1 e3
  have HOA := Lib.hid hoa
  have HCE := Lib.hid hcell
  clear hoa hcell ko e2
  go_loopw [32] (fun i wr => ∃ j : Nat, j ≤ out.length ∧ i = .int .i64 j ∧ Tab wr (W2.heap.size + 1) 65 80 (inT (out.take j)) ∧ Upd (fun b => b = W2.heap.size + 1) W4 wr) (fun i _ => out.length - (intOf i).toNat)
  case atStart => exact ⟨0, Nat.zero_le _, rfl, HTB.out, Upd.refl _ _⟩
  case round =>
    obtain ⟨j, hj, rfl, htab, hu⟩ := hrel
    by_cases hlt : j < out.length
    · obtain ⟨rfl, hog⟩ := HOA.out (by omega)
      obtain ⟨hr1, hr2⟩ := HO.out.range _ (List.getElem_mem hlt)
      obtain ⟨s, hs⟩ : ∃ s : Nat, out[j] = (s : Nat) := ⟨out[j].toNat, by omega⟩
      have hc := HCE.out j hlt
      have hc4 : wr.cell? ⟨og, j, none⟩ = some (.int .i64 (s : Nat)) := by
        rw [hu.cell (p := ⟨og, j, none⟩) (by have := hz4.out; show og < _; omega) (by show og ≠ _; omega), HW4.out.cell (p := ⟨og, j, none⟩) hog, hc, hs]
      have HT1 : Hid (Tab (wr.setCell ⟨W2.heap.size + 1, s, none⟩ (.bool true)) (W2.heap.size + 1) 65 80 (inT (out.take (j + 1)))) := Lib.hid (by
        rw [List.take_succ_eq_append_getElem hlt, hs]
        exact (htab.set s (.bool true)).congr fun i _ => inT_add i)
      have HU1 : Hid (Upd (fun b => b = W2.heap.size + 1) W4 (wr.setCell ⟨W2.heap.size + 1, s, none⟩ (.bool true))) := Lib.hid (hu.setCell (.inl rfl) _)
      have t0 := htab.cell (j := s) (by omega)
      have t1 := htab.frozen s
      have hs0 : (0 : Int) ≤ (s : Nat) := by omega
      have hs65 : ((s : Nat) : Int) < 65 := by omega
      clear htab hu hc hs hr1 hr2 hog
      go_wp2_with fail
      go_roundw
      case rel => exact ⟨j + 1, by omega, by go_num, HT1.out, HU1.out⟩
      case measure => simp [intOf]; omega
    · obtain rfl : j = out.length := by omega
      rw [List.take_length] at htab
      have HB01 : Hid (Below W1.heap.size W1 wr) := Lib.hid ((HB2.out.trans (HW4.out.mono HB2.out.size)).trans (hu.below (fun k e => by have := HB2.out.size; omega) (by have := HB2.out.size; have := hz4.out; omega)))
      have HB02 : Hid (Below W2.heap.size W2 wr) := Lib.hid (HW4.out.trans (hu.below (fun k e => by omega) (by have := hz4.out; omega)))
      have HBW : Hid (Below w.heap.size w wr) := Lib.hid (hB1.out.trans (HB01.out.mono hB1.out.size))
      have HOM : Hid (OpenM wr (W2.heap.size + 1) w.heap.size (w.heap.size + 1) (w.heap.size + 2) W2.heap.size d B gs cls now (.slice oa out.length oc) out) := Lib.hid ⟨htab, (HB01.out.block _ (Go.Proofs.YtgbihmafmmeicaaGreatDoor.hlt H0.out)).trans H0.out, (HB01.out.block _ (Go.Proofs.YtgbihmafmmeicaaGreatDoor.hlt H1.out)).trans H1.out, (HB01.out.block _ (Go.Proofs.YtgbihmafmmeicaaGreatDoor.hlt H2.out)).trans H2.out, (hu.block _ (Go.Proofs.YtgbihmafmmeicaaGreatDoor.hlt HOB.out) (by omega)).trans HOB.out, HD.out.bel HBW.out, (HR.out.bel HB02.out).ints⟩
      obtain ⟨fv, mb, nn, hfr, _, htb⟩ := HOM.out.dig.at_
      obtain ⟨fb, fo, ⟨_, fa, fc, rfl, _, hfm, hfa⟩, hes⟩ := hfr.es (fun e he => (HOK.out e he).1.mono (fun a u h => (HS.out.bel HBW.out) a u h))
      have HVC : Hid (VisC mem wr (W2.heap.size + 1) w.heap.size (w.heap.size + 1) (w.heap.size + 2) W2.heap.size d B gs cls now (.slice oa out.length oc) out fa fc fb fo (sceneOf gs cls now out)) := Lib.hid ⟨HOM.out, HOK.out, HS.out.bel HBW.out, hfa, fun j h => (hes j h).2, hlen, HO.out.range, rfl⟩
      have kd := blk_cell HOM.out.dg 0
      have kf := htb.cell (j := 0) (by omega)
      simp only [List.getElem?_toArray, List.getElem?_cons_zero] at kd
      rw [dc_v] at kf
      clear htab hu hfr htb hfa hes
      have hmm := HMM.out
      have hgl : (gs.length : Int) ≤ 1000 := by omega
      have hb1 : (w.heap.size : Nat) < wr.heap.size := Go.Proofs.YtgbihmafmmeicaaGreatDoor.hlt HOM.out.dg
      have hbd : d < wr.heap.size := World.block_lt_of_cell? _ _ kf
      go_wp2_with fail
      refine vis_loop HVC.out _ _ _ _ _ _ _ _ _ _ _ _ _ _ _ _ _ _ _ _ _ _ _ _ _ _ _ _ _ _ _ _ _ _ _ _ _ _ _ _ _ _ _ _ _ _ _ _ _ _ _ _ _ _ _ _ _ _ _ _ _ _ _ _ _ _ _ _ _ _ _ _ _ _ _ _ _ _ _ _ _ _ _ _ _ _ _ _ _ _ _ _ _ _ _ _ _ _ _ _ _ _ _ _ _ _ _ _ _ _ _ _ _ _ _ _ _ _ _ _ _ _ _ _ _ _ _ _ _ _ _ (wr.alloc (.map #[] 0)) ⟨[], rfl, rfl, VisI.start⟩ _ ?_ (fun c a a2 w2 e h => ⟨e.trans h.1, h.2⟩)
      clear hmm kd kf
      intro u12 u15 u16 u17 u19 u46 u47 u48 u49 u50 u51 u52 u53 u54 u55 u56 u57 u58 u59 u60 u61 u62 u63 u64 u65 u66 u67 u68 u69 u70 u71 u72 u73 u74 u75 u76 u77 u78 u79 u80 u81 u82 u83 u84 u85 u86 u87 u88 u89 u90 u91 u92 u93 u94 u95 u96 u97 u98 u99 u100 u101 u102 u103 u104 u105 u106 u107 u108 u109 u110 u111 u112 u113 u114 u115 u116 u117 u118 u119 u120 u121 u122 u123 u124 u125 u126 u127 u128 u129 u130 u131 u132 u133 u134 u135 u136 u137 u138 w2 hR
      obtain ⟨ys, _, hys, hI⟩ := hR
      obtain ⟨ya, yn, yc, hv⟩ := hI.row.sl
      subst hv
      have hn := hI.lt
      have hsz := HBW.out.size
      have HP : Hid (VisPost (gs.map FctE.f) cls now w (.returned (.slice ya yn yc)) w2) := Lib.hid ⟨_, ys, out, rfl, fun _ _ => HO.out, by
        rw [hys]
        unfold visOf
        rw [if_pos HC04.out, ← visK_all]
        show visK _ gs.length = visK _ (gs.map FctE.f).length
        rw [List.length_map]
        rfl, hI.row.weaken (by omega), fun y hy => (hI.ok y hy).mono (memFr_mono (Upd.refl (fun _ => False) _) (fun b _ hf => ⟨fun g => hf (g.imp (fun g => by omega) id), fun g => g⟩)), HBW.out.trans (hI.bel.mono (by omega))⟩
      clear hys hI hn hsz
      go_wp2_with fail
      go_ret
      exact HP.out
end Go.Proofs.YtgbihmafmmeicaaGreatDoor
namespace Go.Proofs.YtgbihmafmmeicaaGreatDoor
open Go.RowKit Mg Go.Shelf Go.Maps

theorem visible_any {mem : Addr → Option Value} {B d : Nat} {gs : List FctE} (cls now : Int) (w : World) (hD : DigAt w B d gs) (hok : ∀ e ∈ gs, e.ok mem ∧ validF e.f = true) (hs : Sees mem w) (hlen : gs.length ≤ 1000) :
    Calls Tryz.prog 42 #[.pointer (some ⟨d, 0, none⟩), .int .i64 cls, .int .i64 now] w (VisPost (gs.map FctE.f) cls now w) := by
  by_cases h : 0 ≤ cls ∧ cls < 4
  · exact visible_yes cls now w h.1 h.2 hD hok hs hlen
  · exact visible_no d cls now w _ (by omega)
theorem goodE_ok {mem : Addr → Option Value} {v : Value} {es : List FctE} (hes : EsM mem v es) : ∀ e ∈ goodE es, e.ok mem ∧ validF e.f = true := fun e he => by
  obtain ⟨b, o, _, h⟩ := hes
  obtain ⟨j, hj, hje⟩ := List.getElem_of_mem (List.mem_filter.1 he).1
  exact ⟨hje ▸ (h j hj).1, (List.mem_filter.1 he).2⟩
theorem goodE_len (es : List FctE) : (goodE es).length ≤ es.length := List.length_filter_le _ _
theorem VisPost.from {D : List Fct} {cls now : Int} {w W : World} {e : Ending} {w' : World} (h : VisPost D cls now W e w') (hb : Below w.heap.size w W) : VisPost D cls now w e w' := by
  obtain ⟨v, ys, L, h1, h2, h3, h4, h5, h6⟩ := h
  have := hb.size
  exact ⟨v, ys, L, h1, h2, h3, h4.weaken this, fun y hy => (h5 y hy).mono (memFr_mono (Upd.refl (fun _ => False) _) (fun b _ hf => ⟨fun g => hf (g.imp (fun g => by omega) id), fun g => g⟩)), hb.trans (h6.mono this)⟩
set_option maxRecDepth 100000 in
theorem access_visible_any {mem : Addr → Option Value} (v : Value) (es : List FctE) (hes : EsM mem v es) (ht : ∀ e ∈ es, Tidy e.f) (hlen : es.length ≤ 1000) (cls now : Int) (w : World) (hs : Sees mem w) (hmem : ∀ a u, mem a = some u → a.block < w.heap.size) :
    Calls Tryz.prog 24 #[v, .int .i64 cls, .int .i64 now] w (VisPost ((es.map FctE.f).filter validF) cls now w) := by
  have hsl : ∃ ao n cap, v = .slice ao n cap := by
    obtain ⟨_, _, ⟨_, ao, cap, rfl, _⟩, _⟩ := hes
    exact ⟨_, _, _, rfl⟩
  have c1 := Lib.hid (read_any v es hes ht hlen w hs hmem)
  have HOK := Lib.hid (goodE_ok hes)
  have hgl : Hid ((goodE es).length ≤ 1000) := Lib.hid (by have := goodE_len es; omega)
  rw [← goodE_map]
  have HS := Lib.hid hs
  obtain ⟨ao, n, cap, rfl⟩ := hsl
  clear hes ht hs hmem hlen
  go_enter Tryz.func24, Tryz.ntmps24
  go_wp2_with fail
  refine c1.out.mono ?_
  rintro e w1 ⟨d, rfl, _, hD, hb⟩
  have HD := Lib.hid hD
  have HB := Lib.hid hb
  clear hD hb
  go_wp2_with fail
  refine (visible_any cls now w1 HD.out HOK.out (HS.out.bel HB.out) hgl.out).mono ?_
  intro e w2 hp
  have hp2 := hp.from HB.out
  obtain ⟨v2, ys, L, rfl, h2, h3, h4, h5, h6⟩ := hp2
  obtain ⟨a2, n2, c2, rfl⟩ := h4.sl
  have HP : Hid (VisPost ((goodE es).map FctE.f) cls now w (.returned (.slice a2 n2 c2)) w2) := Lib.hid ⟨_, ys, L, rfl, h2, h3, h4, h5, h6⟩
  clear hp h2 h3 h4 h5 h6
  go_wp2_with fail
  go_ret
  exact HP.out
end Go.Proofs.YtgbihmafmmeicaaGreatDoor
namespace Go.Proofs.YtgbihmafmmeicaaGreatDoor
open Go.RowKit Mg Go.Shelf Go.Maps Go.Sort

theorem compact_len (l : List Int) : (Lib.compact l).length ≤ l.length := by
  unfold Lib.compact Lib.compactUpTo
  rw [List.length_map]
  exact Nat.le_trans (List.length_filter_le _ _) (by simp)
theorem compact_row {w : World} {B : Nat} {v : Value} {l : List Int} (h : IRow w B v l) (hl : l.length ≤ 100000) :
    Calls Tryz.prog 65 #[v] w fun e w' => ∃ v', e = .returned v' ∧ IRow w' B v' (Lib.compact l) ∧ w.grownBy w' v.ownBlock ∧ v'.ownBlock = v.ownBlock := by
  rcases h.2 with ⟨rfl, hz⟩ | ⟨g, cap, cur, rfl, hb, hg, hn, hc, hs, ht⟩
  · have : l = [] := List.eq_nil_of_length_eq_zero hz
    subst this
    refine (Any.slices_Compact_int_empty Tryz.compactA none 0 w).mono ?_
    rintro e w' ⟨rfl, rfl⟩
    exact ⟨_, rfl, by rw [show Lib.compact ([] : List Int) = [] from rfl]; exact h, ⟨rfl, rfl, rfl, Nat.le_refl _, fun _ _ _ => rfl⟩, rfl⟩
  · rw [Nat.mul_one] at ht
    have hH := holds_of_blockI (ss := l) hg ht
    have hcl := compact_len l
    refine (Any.slices_Compact_int Tryz.compactA g 0 cap l w hH (by omega) hn).mono ?_
    rintro e w' ⟨rfl, q, rfl⟩
    obtain ⟨z, hz⟩ : ∃ z, z = Lib.compact l ++ List.replicate (l.length - (Lib.compact l).length) (0 : Int) := ⟨_, rfl⟩
    have hzl : z.length = l.length := by rw [hz, List.length_append, List.length_replicate]; omega
    rw [← hz]
    have e0 : Sort.putRow (Value.int .i64) (Sort.ahead w q) g 0 z.toArray = grow (Sort.putRow (Value.int .i64) (Sort.ahead w q) g 0 z.toArray) #[] := by rw [grow_empty]
    rw [e0]
    refine ⟨_, rfl, ⟨by rw [List.length_map, Nat.mul_one], .inr ⟨g, cap, _, rfl, hb, heap_sortedI z.toArray hg, by omega, hc, by simp [Sort.putCells, hs], ?_⟩⟩, grownBy_sortedI _, rfl⟩
    have h1 := take_putCellsI cur z (by omega)
    have h2 : (Lib.compact l).map encI = (z.map (Value.int .i64)).take (Lib.compact l).length := by
      rw [hz, List.map_append, List.take_left' (by simp)]
      rfl
    rw [Nat.mul_one, h2, ← h1, List.take_take]
    congr 1
    omega
def endOf (now : Int) (x : Lab) : List Int := if now < x.till then [x.till] else []
theorem endOf_len (now : Int) (x : Lab) : (endOf now x).length ≤ 1 := by unfold endOf; split <;> simp
def EndI (W0 : World) (E : List Int) (T : Nat) (X : Obj) (wr : World) : Prop :=
  ∃ v, wr.heap[W0.heap.size]? = some (.cells #[v] 30 (0, 0)) ∧ IRow wr (W0.heap.size + 1) v E ∧ Below W0.heap.size W0 wr ∧ wr.heap[T]? = some X ∧ W0.heap.size < T ∧ v.ownBlock ≠ some T
theorem EndI.lt {W0 wr : World} {E : List Int} {T : Nat} {X : Obj} (h : EndI W0 E T X wr) : W0.heap.size < T ∧ T < wr.heap.size := by
  obtain ⟨v, _, _, _, h4, h5, _⟩ := h
  exact ⟨h5, Go.Proofs.YtgbihmafmmeicaaGreatDoor.hlt h4⟩
theorem EndI.bel {W0 wr w' : World} {E : List Int} {T : Nat} {X : Obj} (h : EndI W0 E T X wr) (hb : Below wr.heap.size wr w') : EndI W0 E T X w' := by
  obtain ⟨v, h1, h2, h3, h4, h5, h6⟩ := h
  exact ⟨v, (hb.block _ (Go.Proofs.YtgbihmafmmeicaaGreatDoor.hlt h1)).trans h1, h2.bel hb, h3.trans (hb.mono h3.size), (hb.block _ (Go.Proofs.YtgbihmafmmeicaaGreatDoor.hlt h4)).trans h4, h5, h6⟩
theorem EndI.add {W0 wr W1 W2 : World} {E : List Int} {T : Nat} {X : Obj} {v v2 : Value} {i : Int} {ob : Obj} (hx : wr.heap[W0.heap.size]? = some (.cells #[v] 30 (0, 0))) (hr : IRow wr (W0.heap.size + 1) v E) (hb : Below W0.heap.size W0 wr) (hT : wr.heap[T]? = some X) (hTn : W0.heap.size < T) (hne : v.ownBlock ≠ some T)
    (hW1 : Below wr.heap.size wr W1) (h2 : IRow W2 (W0.heap.size + 1) v2 (E ++ [i])) (hg : (W1.alloc ob).grownBy W2 v.ownBlock) (hn : v2.ownBlock = v.ownBlock ∨ v2.ownBlock = some (W1.alloc ob).heap.size) : EndI W0 (E ++ [i]) T X (W2.setCell ⟨W0.heap.size, 0, none⟩ v2) := by
  have hge := hr.ge
  have hlt := hr.lt
  have hz1 := hW1.size
  have hTl := Go.Proofs.YtgbihmafmmeicaaGreatDoor.hlt hT
  have hu : Upd (fun b => v.ownBlock = some b) wr W2 := ((Upd.of_below hW1).mono (G := fun b => v.ownBlock = some b) (fun i e => .inr e)).trans (((Upd.refl (fun b => v.ownBlock = some b) W1).alloc ob).grown hg (fun b e => .inl e)) (fun i e => .inl e)
  have hu2 := upd_cell W2 W0.heap.size 0 v2
  have hx2 : W2.heap[W0.heap.size]? = some (.cells #[v] 30 (0, 0)) := (hu.block _ (Go.Proofs.YtgbihmafmmeicaaGreatDoor.hlt hx) (fun e => by have := hge _ e; omega)).trans hx
  refine ⟨v2, blk_set hx2, h2.kept hu2 (fun k hk e => by have := h2.ge k hk; omega), hb.trans ((hu.below (fun k e => by have := hge k e; omega) (by have := hb.size; omega)).trans (hu2.below (fun k e => by omega) (by have := Go.Proofs.YtgbihmafmmeicaaGreatDoor.hlt hx2; omega))), (hu2.block _ (by have := hu.size; omega) (by omega)).trans ((hu.block _ hTl (fun e => hne e)).trans hT), hTn, fun e => ?_⟩
  rcases hn with h | h
  · exact hne (h ▸ e)
  · rw [h] at e
    injection e with e
    simp at e
    omega
set_option maxRecDepth 100000 in
set_option maxHeartbeats 2000000 in
theorem add_any {W0 W : World} {E : List Int} {T nb : Nat} {X : Obj} {now : Int} (h : EndI W0 E T X W) (hnb : W0.cell? ⟨nb, 0, none⟩ = some (.int .i64 now)) (hE : E.length ≤ 90000) (x : Lab) (av : Value) :
    Calls Tryz.prog 64 #[.agg (labCells x av), .pointer (some ⟨nb, 0, none⟩), .pointer (some ⟨W0.heap.size, 0, none⟩)] W fun e w' => e = .returned (.tuple #[]) ∧ EndI W0 (E ++ endOf now x) T X w' := by
  have HI := Lib.hid h
  have hlt := h.lt
  have hb1 : Hid (Below W.heap.size W (W.alloc (.cells (labCells x av) 34))) := Lib.hid ((Below.refl _ W).alloc (Nat.le_refl _) _)
  have hL := Lib.hid (World.alloc_heap_new W (.cells (labCells x av) 34))
  obtain ⟨v, h1, h2, h3, h4, h5, h6⟩ := (h.bel hb1.out)
  have hn1 := (h3.cell (p := ⟨nb, 0, none⟩) (World.block_lt_of_cell? _ _ hnb)).trans hnb
  have HV := Lib.hid (And.intro h1 (And.intro h2 (And.intro h3 (And.intro h4 (And.intro h5 h6)))))
  obtain ⟨x1, x2, x3, x4⟩ := x
  clear h hnb h2 h3 h4 h6
  go_enter Tryz.func64, Tryz.ntmps64
  go_upto_region 1 with fail
  generalize hW1 : W.alloc (.cells (labCells ⟨x1, x2, x3, x4⟩ av) 34) = W1 at *
  have k0 := blk_cell hL.out 0
  have kb := blk_cell h1 0
  have fb := blk_free h1 0
  simp only [labCells, List.getElem?_toArray, List.getElem?_cons_zero] at k0 kb
  clear h1 hW1
  by_cases hlt2 : now < x1
  · have HE : Hid (endOf now ⟨x1, x2, x3, x4⟩ = [x1]) := Lib.hid (by unfold endOf; rw [if_pos hlt2])
    go_wp2_with (at_builtin; go_must (refine wpList_app_int rfl _ _ rfl (W0.heap.size + 1) _ E rfl (IRow.alloc HV.out.2.1 _) x1 W1.heap.size 1 rfl (cell_new rfl rfl) (by omega) (by have := HV.out.2.2.1.size; have := Go.Proofs.YtgbihmafmmeicaaGreatDoor.hlt HV.out.1; simp; omega) ?_); intro v2 w2 h2 hg2 hn2; obtain ⟨a2, n2, c2, rfl⟩ := h2.sl; have hA := HI.out; obtain ⟨vv, q1, q2, q3, q4, q5, q6⟩ := hA.bel hb1.out; have H2 := Lib.hid (EndI.add HV.out.1 HV.out.2.1 HV.out.2.2.1 HV.out.2.2.2.1 HV.out.2.2.2.2.1 HV.out.2.2.2.2.2 (Below.refl _ _) h2 hg2 hn2); have hbx := (hg2.block W0.heap.size (by have := Go.Proofs.YtgbihmafmmeicaaGreatDoor.hlt HV.out.1; simp; omega) (fun e => by have := HV.out.2.1.ge _ e.symm; omega)).trans ((Below.heap_alloc W1 _ _ (Go.Proofs.YtgbihmafmmeicaaGreatDoor.hlt HV.out.1)).trans HV.out.1); have kb2 := blk_cell hbx 0; have fb2 := blk_free hbx 0; simp only [List.getElem?_toArray, List.getElem?_cons_zero] at kb2; clear h2 hg2 hn2 q1 q2 q3 q4 q5 q6 hA hbx kb fb k0)
    refine bodyPost_end (v := .tuple #[]) (by simp [results, Tryz.results64, go_sem]) rfl ?_
    exact ⟨rfl, by rw [HE.out]; exact H2.out⟩
  · have HE : Hid (endOf now ⟨x1, x2, x3, x4⟩ = []) := Lib.hid (by unfold endOf; rw [if_neg hlt2])
    go_wp2_with fail
    refine bodyPost_end (v := .tuple #[]) (by simp [results, Tryz.results64, go_sem]) rfl ?_
    exact ⟨rfl, by rw [HE.out, List.append_nil]; exact ⟨v, HV.out.1, HV.out.2.1, HV.out.2.2.1, HV.out.2.2.2.1, HV.out.2.2.2.2.1, HV.out.2.2.2.2.2⟩⟩
end Go.Proofs.YtgbihmafmmeicaaGreatDoor
namespace Go.Proofs.YtgbihmafmmeicaaGreatDoor
open Go.RowKit Mg Go.Shelf Go.Maps Go.Sort

theorem endsAt_of (now : Int) (f : Fct) : endsAt now f = (if f.kind = 3 ∨ f.kind = 1 then endOf now f.lab else []) ++ f.blocks.flatMap fun b => endOf now b.lab := by
  unfold endsAt
  rw [List.filter_append]
  congr 1
  · split
    · unfold endOf
      by_cases h : now < f.lab.till <;> simp [h]
    · rfl
  · induction f.blocks with
    | nil => rfl
    | cons b r ih =>
      rw [List.map_cons, List.flatMap_cons, List.filter_cons, ih]
      unfold endOf
      by_cases h : now < b.lab.till <;> simp [h]
theorem valid_blocks {f : Fct} (h : validF f = true) : f.blocks.length ≤ 24 := by
  by_cases hk : f.kind = 1
  · exact (revise_parts (validF_revise h hk)).2.2.1.1
  · have hu := congrArg Fct.blocks (validF_used h)
    have : (usedF f).blocks = [] := by
      unfold usedF
      rw [if_neg hk]
      repeat' split
      all_goals rfl
    rw [hu, this]
    exact Nat.zero_le _
theorem endsAt_len (now : Int) {f : Fct} (h : validF f = true) : (endsAt now f).length ≤ 25 := by
  have hb := valid_blocks h
  unfold endsAt
  refine Nat.le_trans (List.length_filter_le _ _) ?_
  rw [List.length_append, List.length_map]
  split <;> simp <;> omega
theorem endsF_len (now : Int) : ∀ (l : List Fct), (∀ f ∈ l, validF f = true) → (endsF now l).length ≤ 25 * l.length
  | [], _ => Nat.zero_le _
  | f :: r, h => by
    have h1 := endsAt_len now (h f List.mem_cons_self)
    have h2 := endsF_len now r (fun g hg => h g (List.mem_cons_of_mem _ hg))
    unfold endsF at h2 ⊢
    rw [List.flatMap_cons, List.length_append, List.length_cons]
    omega
theorem endsF_snoc (now : Int) (l : List Fct) (f : Fct) : endsF now (l ++ [f]) = endsF now l ++ endsAt now f := by unfold endsF; rw [List.flatMap_append]; simp
def TimesPost (D : List Fct) (now : Int) (W : World) (e : Ending) (w' : World) : Prop := ∃ v, e = .returned v ∧ IRow w' W.heap.size v (Lib.compact (sortL (endsF now D))) ∧ Below W.heap.size W w'
def EndH (W0 : World) (E : List Int) (wr : World) : Prop := ∃ v, wr.heap[W0.heap.size]? = some (.cells #[v] 30 (0, 0)) ∧ IRow wr (W0.heap.size + 1) v E ∧ Below W0.heap.size W0 wr
theorem EndH.new {W0 wr : World} {E : List Int} (h : EndH W0 E wr) (X : Obj) : EndI W0 E wr.heap.size X (wr.alloc X) := by
  obtain ⟨v, h1, h2, h3⟩ := h
  have hb : Below wr.heap.size wr (wr.alloc X) := (Below.refl _ wr).alloc (Nat.le_refl _) _
  exact ⟨v, (hb.block _ (Go.Proofs.YtgbihmafmmeicaaGreatDoor.hlt h1)).trans h1, h2.bel hb, h3.trans (hb.mono h3.size), World.alloc_heap_new _ _, Go.Proofs.YtgbihmafmmeicaaGreatDoor.hlt h1, fun e => by have := h2.lt _ e; omega⟩
theorem EndI.head {W0 wr : World} {E : List Int} {T : Nat} {X : Obj} (h : EndI W0 E T X wr) : EndH W0 E wr := by
  obtain ⟨v, h1, h2, h3, _⟩ := h
  exact ⟨v, h1, h2, h3⟩
set_option maxRecDepth 100000 in
set_option maxHeartbeats 4000000 in
theorem times_any {mem : Addr → Option Value} {B d : Nat} {gs : List FctE} (now : Int) (w : World) (hD : DigAt w B d gs) (hok : ∀ e ∈ gs, e.ok mem ∧ validF e.f = true) (hs : Sees mem w) (hlen : gs.length ≤ 1000) :
    Calls Tryz.prog 46 #[.pointer (some ⟨d, 0, none⟩), .int .i64 now] w (TimesPost (gs.map FctE.f) now w) := by
  obtain ⟨W0, hW0⟩ : ∃ W0, W0 = w.alloc (.cells #[.int .i64 now] 3) := ⟨_, rfl⟩
  have hB0 : Hid (Below w.heap.size w W0) := Lib.hid (by rw [hW0]; exact (Below.refl _ w).alloc (Nat.le_refl _) _)
  have hnow : Hid (W0.cell? ⟨w.heap.size, 0, none⟩ = some (.int .i64 now)) := Lib.hid (by rw [hW0]; exact blk_cell (World.alloc_heap_new w _) 0)
  have HD := Lib.hid (hD.bel hB0.out)
  have HOK := Lib.hid hok
  have HS := Lib.hid (hs.bel hB0.out)
  have hH0 : Hid (EndH W0 [] (W0.alloc (.cells #[.slice none 0 0] 30))) := Lib.hid ⟨_, World.alloc_heap_new W0 _, World.ownsRow_nil _ _ _ _, (Below.refl _ W0).alloc (Nat.le_refl _) _⟩
  have hN : Hid (W0.heap.size = w.heap.size + 1) := Lib.hid (by rw [hW0]; simp)
  obtain ⟨fv, mb, nn, hfr, _, htb⟩ := HD.out.at_
  obtain ⟨fb, fo, ⟨_, fa, fc, rfl, _, hfm, hfa⟩, hes⟩ := hfr.es (fun e he => (HOK.out e he).1.mono (fun a u h => HS.out a u h))
  have HES := Lib.hid hes
  have HFA := Lib.hid hfa
  have kf := ((Below.refl _ W0).alloc (Nat.le_refl _) (.cells #[.slice none 0 0] 30)).cell (p := ⟨d, 0, none⟩) (World.block_lt_of_cell? _ _ (htb.cell (j := 0) (by omega)))
  rw [htb.cell (j := 0) (by omega), dc_v] at kf
  have HW := Lib.hid hW0
  clear hD hok hs hes hfa hfr htb
  go_enter Tryz.func46, Tryz.ntmps46
  go_upto_region 1 with fail
  rw [← hW0]
  clear hW0
  have hgl : (gs.length : Int) ≤ 1000 := by omega
  go_wp2_with fail
  clear kf
  go_loopw [17] (fun i wr => ∃ k : Nat, k ≤ gs.length ∧ i = .int .i64 k ∧ EndH W0 (endsF now ((gs.take k).map FctE.f)) wr) (fun i _ => gs.length - (intOf i).toNat)
  case atStart => exact ⟨0, Nat.zero_le _, rfl, hH0.out⟩
  case round =>
    obtain ⟨k, hk, rfl, hH⟩ := hrel
    obtain ⟨wo, rfl⟩ : ∃ wo, wo = wr := ⟨_, rfl⟩
    by_cases hlt : k < gs.length
    · obtain rfl := HFA.out (by omega)
      have HH := Lib.hid hH
      obtain ⟨hxo, hxv⟩ := HOK.out _ (List.getElem_mem hlt)
      obtain ⟨_, hat⟩ := HES.out k hlt
      have hBW : Below W0.heap.size W0 wo := by obtain ⟨_, _, _, h⟩ := hH; exact h
      have HAT : Hid (gs[k].at (fun p => wo.cell? p) fb (fo + k * 23)) := Lib.hid (fun j u hj => (hBW.cell (World.block_lt_of_cell? _ _ (hat j u hj))).trans (hat j u hj))
      have HSN : Hid (endsF now ((gs.take (k + 1)).map FctE.f) = endsF now ((gs.take k).map FctE.f) ++ endsAt now gs[k].f) := Lib.hid (by rw [List.take_succ_eq_append_getElem hlt, List.map_append]; exact endsF_snoc _ _ _)
      have hEl : (endsF now ((gs.take k).map FctE.f)).length ≤ 25 * k := by
        have := endsF_len now ((gs.take k).map FctE.f) (fun f hf => by obtain ⟨e, he, rfl⟩ := List.mem_map.1 hf; exact (HOK.out e (List.mem_of_mem_take he)).2)
        rw [List.length_map, List.length_take] at this
        omega
      have HXO := Lib.hid hxo
      have hbl24 := valid_blocks hxv
      have hsz : Hid (gs[k].cells.size = 23) := Lib.hid rfl
      have hone := Lib.hid (gs[k].one)
      clear hH hxo hxv hat hBW
      generalize gs[k] = x at *
      generalize endsF now ((gs.take k).map FctE.f) = E at *
      obtain ⟨ao', cap', bb, bo, e0, hcap, hcm, hao, hbl⟩ := HXO.out.parts.2.1.open_
      injection e0 with e1 e2 e3
      subst e1 e3
      obtain ⟨vba, hvba⟩ : ∃ v, v = x.ba := ⟨_, rfl⟩
      rw [← hvba] at hao
      have HBA := Lib.hid hao
      have HVBA := Lib.hid hvba
      have HBL := Lib.hid hbl
      have HEA := Lib.hid (endsAt_of now x.f)
      have HI := Lib.hid (HH.out.new (.cells x.cells 45))
      have HT := Lib.hid (World.alloc_heap_new wo (.cells x.cells 45))
      clear hao hbl hcap hcm hvba
      go_upto_region 6 with (first
        | ((with_reducible refine at_fload _ rfl ?_); go_must (refine wpList_fct_mid rfl _ rfl (by simp [Act.eval]) HAT.out ?_))
        | ((with_reducible refine at_fstore _ _ rfl ?_); go_must (refine wpList_fct_new rfl _ _ rfl rfl _ _ _ (by simp [Act.eval]) (by simp [Act.eval]) (by rfl) hsz.out hone.out ?_)))
      generalize hT : wo.heap.size = T at *
      generalize wo.alloc (.cells x.cells 45) = W1 at *
      have k2 : W1.cell? ⟨T, 2, none⟩ = some (.int .i64 x.f.kind) := blk_cell HT.out 2
      have k10 : W1.cell? ⟨T, 10, none⟩ = some (.slice vba x.f.blocks.length x.bc) := by rw [HVBA.out]; exact blk_cell HT.out 10
      have k11 : W1.cell? ⟨T, 11, none⟩ = some (.int .i64 x.f.lab.till) := blk_cell HT.out 11
      have k12 : W1.cell? ⟨T, 12, none⟩ = some x.av := blk_cell HT.out 12
      have k13 : W1.cell? ⟨T, 13, none⟩ = some (.int .i64 x.f.lab.appr) := blk_cell HT.out 13
      have k14 : W1.cell? ⟨T, 14, none⟩ = some (.int .i64 x.f.lab.denied) := blk_cell HT.out 14
      by_cases h3 : x.f.kind = 3
      · have HKD := Lib.hid h3
        have HCA : Hid (Calls Tryz.prog 64 #[.agg #[.int .i64 x.f.lab.till, x.av, .int .i64 x.f.lab.appr, .int .i64 x.f.lab.denied], .pointer (some ⟨w.heap.size, 0, none⟩), .pointer (some ⟨W0.heap.size, 0, none⟩)] W1 fun e w' => e = .returned (.tuple #[]) ∧ EndI W0 (E ++ endOf now x.f.lab) T (.cells x.cells 45 (0, 0)) w') := Lib.hid (add_any HI.out hnow.out (by omega) x.f.lab x.av)
        rw [h3] at k2
        clear h3
        go_wp2_with fail
        refine HCA.out.mono ?_
        rintro e W2 ⟨rfl, hI2⟩
        have HI2 := Lib.hid hI2
        have hTT : W2.heap[T]? = some (.cells x.cells 45 (0, 0)) := by obtain ⟨_, _, _, _, h, _⟩ := hI2; exact h
        clear k2 k10 k11 k12 k13 k14 hI2
        have k10 : W2.cell? ⟨T, 10, none⟩ = some (.slice vba x.f.blocks.length x.bc) := by rw [HVBA.out]; exact blk_cell hTT 10
        clear hTT
        go_wp2_with fail
        clear k10
        have HEE : Hid (endsAt now x.f = endOf now x.f.lab ++ x.f.blocks.flatMap fun b => endOf now b.lab) := Lib.hid (by rw [HEA.out, if_pos (by rw [HKD.out]; decide)])
        obtain ⟨E2, hE2⟩ : ∃ E2, E2 = E ++ endOf now x.f.lab := ⟨_, rfl⟩
        have hE2l : E2.length ≤ 25 * k + 1 := by rw [hE2, List.length_append]; have := endOf_len now x.f.lab; omega
        rw [← hE2] at HI2
        have HE2 := Lib.hid hE2
        clear hE2
        go_loopw [36] (fun i wr => ∃ j : Nat, j ≤ x.f.blocks.length ∧ i = .int .i64 j ∧ EndI W0 (E2 ++ (x.f.blocks.take j).flatMap fun b => endOf now b.lab) T (.cells x.cells 45 (0, 0)) wr ∧ ((x.f.blocks.take j).flatMap fun b => endOf now b.lab).length ≤ j) (fun i _ => x.f.blocks.length - (intOf i).toNat)
        case atStart => exact ⟨0, Nat.zero_le _, rfl, by simpa using HI2.out, Nat.zero_le _⟩
        case round =>
          obtain ⟨j, hj, rfl, hI3, hEj⟩ := hrel
          obtain ⟨wi, rfl⟩ : ∃ wi, wi = wr := ⟨_, rfl⟩
          by_cases hlj : j < x.f.blocks.length
          · obtain rfl := HBA.out (by omega)
            have hBW : Below W0.heap.size W0 wi := by obtain ⟨_, _, _, h, _⟩ := hI3; exact h
            obtain ⟨_, lo, lc, hints, c9⟩ := (HBL.out j hlj).nine (HS.out.bel hBW)
            obtain ⟨c0, c1, c2, c3, c4, c5, c6, c7, c8⟩ := c9
            have HST : Hid ((x.f.blocks.take (j + 1)).flatMap (fun b => endOf now b.lab) = (x.f.blocks.take j).flatMap (fun b => endOf now b.lab) ++ endOf now x.f.blocks[j].lab) := Lib.hid (by rw [List.take_succ_eq_append_getElem hlj, List.flatMap_append]; simp)
            have HI3 := Lib.hid hI3
            generalize x.f.blocks[j] = y at *
            obtain ⟨id, kind, text, story, ref, ⟨till, after, appr, denied⟩⟩ := y
            dsimp only at *
            have HCA := Lib.hid (add_any (HI3.out.bel ((Below.refl _ wi).alloc (Nat.le_refl _) (.cells #[.int .i64 id, .int .i64 kind, .string text, .int .i64 story, .int .i64 ref, .int .i64 till, .slice lo after.length lc, .int .i64 appr, .int .i64 denied] 56))) hnow.out (by rw [List.length_append]; omega) ⟨till, after, appr, denied⟩ (.slice lo after.length lc))
            generalize ((x.f.blocks.take j).flatMap fun b => endOf now b.lab) = EJ at *
            have hEl1 := endOf_len now ⟨till, after, appr, denied⟩
            clear hI3 hBW hints
            go_wp2_with fail
            refine HCA.out.mono ?_
            rintro e w3 ⟨rfl, hI4⟩
            have HI4 := Lib.hid hI4
            clear hI4 c0 c1 c2 c3 c4 c5 c6 c7 c8
            go_wp2_with fail
            go_roundw
            case rel => exact ⟨j + 1, by omega, by go_num, by rw [HST.out, ← List.append_assoc]; exact HI4.out, by rw [HST.out, List.length_append]; omega⟩
            case measure => simp [intOf]; omega
          · obtain rfl : j = x.f.blocks.length := by omega
            rw [List.take_length] at hI3
            have HHH : Hid (EndH W0 (endsF now ((gs.take (k + 1)).map FctE.f)) wi) := Lib.hid (by rw [HSN.out, HEE.out, ← List.append_assoc, ← HE2.out]; exact hI3.head)
            clear hI3 hEj
            go_wp2_with fail
            go_roundw
            case rel => exact ⟨k + 1, by omega, by go_num, HHH.out⟩
            case measure => simp [intOf]; omega
      · have b3 : (x.f.kind == 3) = false := by simpa using h3
        by_cases h1 : x.f.kind = 1
        · have HKD := Lib.hid h1
          have HCA : Hid (Calls Tryz.prog 64 #[.agg #[.int .i64 x.f.lab.till, x.av, .int .i64 x.f.lab.appr, .int .i64 x.f.lab.denied], .pointer (some ⟨w.heap.size, 0, none⟩), .pointer (some ⟨W0.heap.size, 0, none⟩)] W1 fun e w' => e = .returned (.tuple #[]) ∧ EndI W0 (E ++ endOf now x.f.lab) T (.cells x.cells 45 (0, 0)) w') := Lib.hid (add_any HI.out hnow.out (by omega) x.f.lab x.av)
          rw [h1] at k2
          clear h1
          go_wp2_with fail
          refine HCA.out.mono ?_
          rintro e W2 ⟨rfl, hI2⟩
          have HI2 := Lib.hid hI2
          have hTT : W2.heap[T]? = some (.cells x.cells 45 (0, 0)) := by obtain ⟨_, _, _, _, h, _⟩ := hI2; exact h
          clear k2 k10 k11 k12 k13 k14 hI2
          have k10 : W2.cell? ⟨T, 10, none⟩ = some (.slice vba x.f.blocks.length x.bc) := by rw [HVBA.out]; exact blk_cell hTT 10
          clear hTT
          go_wp2_with fail
          clear k10
          have HEE : Hid (endsAt now x.f = endOf now x.f.lab ++ x.f.blocks.flatMap fun b => endOf now b.lab) := Lib.hid (by rw [HEA.out, if_pos (by rw [HKD.out]; decide)])
          obtain ⟨E2, hE2⟩ : ∃ E2, E2 = E ++ endOf now x.f.lab := ⟨_, rfl⟩
          have hE2l : E2.length ≤ 25 * k + 1 := by rw [hE2, List.length_append]; have := endOf_len now x.f.lab; omega
          rw [← hE2] at HI2
          have HE2 := Lib.hid hE2
          clear hE2
          go_loopw [36] (fun i wr => ∃ j : Nat, j ≤ x.f.blocks.length ∧ i = .int .i64 j ∧ EndI W0 (E2 ++ (x.f.blocks.take j).flatMap fun b => endOf now b.lab) T (.cells x.cells 45 (0, 0)) wr ∧ ((x.f.blocks.take j).flatMap fun b => endOf now b.lab).length ≤ j) (fun i _ => x.f.blocks.length - (intOf i).toNat)
          case atStart => exact ⟨0, Nat.zero_le _, rfl, by simpa using HI2.out, Nat.zero_le _⟩
          case round =>
            obtain ⟨j, hj, rfl, hI3, hEj⟩ := hrel
            obtain ⟨wi, rfl⟩ : ∃ wi, wi = wr := ⟨_, rfl⟩
            by_cases hlj : j < x.f.blocks.length
            · obtain rfl := HBA.out (by omega)
              have hBW : Below W0.heap.size W0 wi := by obtain ⟨_, _, _, h, _⟩ := hI3; exact h
              obtain ⟨_, lo, lc, hints, c9⟩ := (HBL.out j hlj).nine (HS.out.bel hBW)
              obtain ⟨c0, c1, c2, c3, c4, c5, c6, c7, c8⟩ := c9
              have HST : Hid ((x.f.blocks.take (j + 1)).flatMap (fun b => endOf now b.lab) = (x.f.blocks.take j).flatMap (fun b => endOf now b.lab) ++ endOf now x.f.blocks[j].lab) := Lib.hid (by rw [List.take_succ_eq_append_getElem hlj, List.flatMap_append]; simp)
              have HI3 := Lib.hid hI3
              generalize x.f.blocks[j] = y at *
              obtain ⟨id, kind, text, story, ref, ⟨till, after, appr, denied⟩⟩ := y
              dsimp only at *
              have HCA := Lib.hid (add_any (HI3.out.bel ((Below.refl _ wi).alloc (Nat.le_refl _) (.cells #[.int .i64 id, .int .i64 kind, .string text, .int .i64 story, .int .i64 ref, .int .i64 till, .slice lo after.length lc, .int .i64 appr, .int .i64 denied] 56))) hnow.out (by rw [List.length_append]; omega) ⟨till, after, appr, denied⟩ (.slice lo after.length lc))
              generalize ((x.f.blocks.take j).flatMap fun b => endOf now b.lab) = EJ at *
              have hEl1 := endOf_len now ⟨till, after, appr, denied⟩
              clear hI3 hBW hints
              go_wp2_with fail
              refine HCA.out.mono ?_
              rintro e w3 ⟨rfl, hI4⟩
              have HI4 := Lib.hid hI4
              clear hI4 c0 c1 c2 c3 c4 c5 c6 c7 c8
              go_wp2_with fail
              go_roundw
              case rel => exact ⟨j + 1, by omega, by go_num, by rw [HST.out, ← List.append_assoc]; exact HI4.out, by rw [HST.out, List.length_append]; omega⟩
              case measure => simp [intOf]; omega
            · obtain rfl : j = x.f.blocks.length := by omega
              rw [List.take_length] at hI3
              have HHH : Hid (EndH W0 (endsF now ((gs.take (k + 1)).map FctE.f)) wi) := Lib.hid (by rw [HSN.out, HEE.out, ← List.append_assoc, ← HE2.out]; exact hI3.head)
              clear hI3 hEj
              go_wp2_with fail
              go_roundw
              case rel => exact ⟨k + 1, by omega, by go_num, HHH.out⟩
              case measure => simp [intOf]; omega
        · have b1 : (x.f.kind == 1) = false := by simpa using h1
          have HKD := Lib.hid (And.intro h3 h1)
          have HI2 : Hid (EndI W0 (E ++ []) T (.cells x.cells 45 (0, 0)) W1) := Lib.hid (by rw [List.append_nil]; exact HI.out)
          clear h3 h1
          go_wp2_with fail
          clear k2 k10 k11 k12 k13 k14
          have HEE : Hid (endsAt now x.f = ([] : List Int) ++ x.f.blocks.flatMap fun b => endOf now b.lab) := Lib.hid (by rw [HEA.out, if_neg (by intro h; rcases h with h | h; exact HKD.out.1 h; exact HKD.out.2 h)])
          obtain ⟨E2, hE2⟩ : ∃ E2, E2 = E ++ ([] : List Int) := ⟨_, rfl⟩
          have hE2l : E2.length ≤ 25 * k + 1 := by rw [hE2, List.length_append]; have := hEl; simp; omega
          rw [← hE2] at HI2
          have HE2 := Lib.hid hE2
          clear hE2
          go_loopw [36] (fun i wr => ∃ j : Nat, j ≤ x.f.blocks.length ∧ i = .int .i64 j ∧ EndI W0 (E2 ++ (x.f.blocks.take j).flatMap fun b => endOf now b.lab) T (.cells x.cells 45 (0, 0)) wr ∧ ((x.f.blocks.take j).flatMap fun b => endOf now b.lab).length ≤ j) (fun i _ => x.f.blocks.length - (intOf i).toNat)
          case atStart => exact ⟨0, Nat.zero_le _, rfl, by simpa using HI2.out, Nat.zero_le _⟩
          case round =>
            obtain ⟨j, hj, rfl, hI3, hEj⟩ := hrel
            obtain ⟨wi, rfl⟩ : ∃ wi, wi = wr := ⟨_, rfl⟩
            by_cases hlj : j < x.f.blocks.length
            · obtain rfl := HBA.out (by omega)
              have hBW : Below W0.heap.size W0 wi := by obtain ⟨_, _, _, h, _⟩ := hI3; exact h
              obtain ⟨_, lo, lc, hints, c9⟩ := (HBL.out j hlj).nine (HS.out.bel hBW)
              obtain ⟨c0, c1, c2, c3, c4, c5, c6, c7, c8⟩ := c9
              have HST : Hid ((x.f.blocks.take (j + 1)).flatMap (fun b => endOf now b.lab) = (x.f.blocks.take j).flatMap (fun b => endOf now b.lab) ++ endOf now x.f.blocks[j].lab) := Lib.hid (by rw [List.take_succ_eq_append_getElem hlj, List.flatMap_append]; simp)
              have HI3 := Lib.hid hI3
              generalize x.f.blocks[j] = y at *
              obtain ⟨id, kind, text, story, ref, ⟨till, after, appr, denied⟩⟩ := y
              dsimp only at *
              have HCA := Lib.hid (add_any (HI3.out.bel ((Below.refl _ wi).alloc (Nat.le_refl _) (.cells #[.int .i64 id, .int .i64 kind, .string text, .int .i64 story, .int .i64 ref, .int .i64 till, .slice lo after.length lc, .int .i64 appr, .int .i64 denied] 56))) hnow.out (by rw [List.length_append]; omega) ⟨till, after, appr, denied⟩ (.slice lo after.length lc))
              generalize ((x.f.blocks.take j).flatMap fun b => endOf now b.lab) = EJ at *
              have hEl1 := endOf_len now ⟨till, after, appr, denied⟩
              clear hI3 hBW hints
              go_wp2_with fail
              refine HCA.out.mono ?_
              rintro e w3 ⟨rfl, hI4⟩
              have HI4 := Lib.hid hI4
              clear hI4 c0 c1 c2 c3 c4 c5 c6 c7 c8
              go_wp2_with fail
              go_roundw
              case rel => exact ⟨j + 1, by omega, by go_num, by rw [HST.out, ← List.append_assoc]; exact HI4.out, by rw [HST.out, List.length_append]; omega⟩
              case measure => simp [intOf]; omega
            · obtain rfl : j = x.f.blocks.length := by omega
              rw [List.take_length] at hI3
              have HHH : Hid (EndH W0 (endsF now ((gs.take (k + 1)).map FctE.f)) wi) := Lib.hid (by rw [HSN.out, HEE.out, ← List.append_assoc, ← HE2.out]; exact hI3.head)
              clear hI3 hEj
              go_wp2_with fail
              go_roundw
              case rel => exact ⟨k + 1, by omega, by go_num, HHH.out⟩
              case measure => simp [intOf]; omega
    · obtain rfl : k = gs.length := by omega
      rw [List.take_length] at hH
      have hEl : (endsF now (gs.map FctE.f)).length ≤ 25 * gs.length := by
        have := endsF_len now (gs.map FctE.f) (fun f hf => by obtain ⟨e, he, rfl⟩ := List.mem_map.1 hf; exact (HOK.out e he).2)
        rwa [List.length_map] at this
      obtain ⟨v, hx, hr, hb⟩ := hH
      obtain ⟨va, vc, rfl⟩ := hr.shape
      generalize hEE : endsF now (gs.map FctE.f) = E at *
      have HEE := Lib.hid hEE
      clear hEE
      have HX := Lib.hid hx
      have HR := Lib.hid hr
      have HB := Lib.hid hb
      have kv := blk_cell hx 0
      simp only [List.getElem?_toArray, List.getElem?_cons_zero] at kv
      clear hx hr hb
      go_wp2_with fail
      refine (sort_row HR.out (by omega)).mono ?_
      rintro e w2 ⟨rfl, hr2, hg2⟩
      have hx2 := (hg2.block W0.heap.size (Go.Proofs.YtgbihmafmmeicaaGreatDoor.hlt HX.out) (fun e => by have := HR.out.ge _ e.symm; omega)).trans HX.out
      have hge := HR.out.ge
      have HB2 : Hid (Below W0.heap.size W0 w2) := Lib.hid (HB.out.trans ((Below.refl _ wo).grown hg2 HB.out.size (fun k e => by have := hge k e; omega)))
      have hl2 : (sortL E).length = E.length := List.length_mergeSort _
      have HR2 : Hid (IRow w2 (W0.heap.size + 1) (.slice va E.length vc) (sortL E)) := Lib.hid hr2
      have HX2 := Lib.hid hx2
      clear kv hr2 hg2 hx2 hge
      have kv := blk_cell HX2.out 0
      simp only [List.getElem?_toArray, List.getElem?_cons_zero] at kv
      go_wp2_with fail
      refine (compact_row HR2.out (by omega)).mono ?_
      rintro e w3 ⟨v3, rfl, hr3, hg3, hv3⟩
      obtain ⟨a3, n3, c3, rfl⟩ := hr3.sl
      have hge := HR2.out.ge
      have HP : Hid (TimesPost (gs.map FctE.f) now w (.returned (.slice a3 n3 c3)) w3) := Lib.hid ⟨_, rfl, by rw [HEE.out]; exact ⟨hr3.1, hr3.2.imp id (fun ⟨g, cp, cur, h1, h2, h3⟩ => ⟨g, cp, cur, h1, by have := hN.out; omega, h3⟩)⟩, hB0.out.trans ((HB2.out.trans ((Below.refl _ w2).grown hg3 HB2.out.size (fun k e => by have := hge k e; omega))).mono hB0.out.size)⟩
      clear kv hr3 hg3 hv3 hge
      go_wp2_with fail
      go_ret
      exact HP.out
end Go.Proofs.YtgbihmafmmeicaaGreatDoor
namespace Go.Proofs.YtgbihmafmmeicaaGreatDoor
open Go.RowKit Mg Go.Shelf Go.Maps Go.Sort

theorem half_cast (lo hi : Nat) : (((lo + hi) / 2 : Nat) : Int) = ((lo : Int) + (hi : Int)) / 2 := by omega
def SearchPost (n : Nat) (R : Nat → Bool → Prop) (W : World) (e : Ending) (w' : World) : Prop := ∃ r : Nat, e = .returned (.int .i64 r) ∧ r ≤ n ∧ (r < n → R r true) ∧ (0 < r → R (r - 1) false) ∧ Below W.heap.size W w'
def RetB (R : Bool → Prop) (W : World) (e : Ending) (w' : World) : Prop := ∃ b, e = .returned (.bool b) ∧ R b ∧ Below W.heap.size W w'
set_option maxRecDepth 100000 in
set_option maxHeartbeats 2000000 in
theorem search_any (p1 p2 p3 p4 : Value) (n : Nat) (R : Nat → Bool → Prop) (W : World) (hn : n ≤ 100000)
    (hf : ∀ (W' : World) (i : Nat), i < n → Below W.heap.size W W' → Calls Tryz.prog 48 #[.int .i64 i, p1, p2, p3, p4] W' (RetB (R i) W')) :
    Calls Tryz.prog 47 #[.int .i64 n, .func (.func 48) #[] #[p1, p2, p3, p4]] W (SearchPost n R W) := by
  have HF := Lib.hid hf
  clear hf
  go_enter Tryz.func47, Tryz.ntmps47
  go_wp2_with fail
  go_loopw [5, 6] (fun s5 s6 wr => ∃ lo hi : Nat, s5 = .int .i64 lo ∧ s6 = .int .i64 hi ∧ lo ≤ hi ∧ hi ≤ n ∧ (hi < n → R hi true) ∧ (0 < lo → R (lo - 1) false) ∧ Below W.heap.size W wr) (fun s5 s6 _ => (intOf s6).toNat - (intOf s5).toNat)
  case atStart => exact ⟨0, n, rfl, rfl, Nat.zero_le _, Nat.le_refl _, fun h => by omega, fun h => by omega, Below.refl _ _⟩
  case round =>
    obtain ⟨lo, hi, rfl, rfl, hlh, hin, h1, h2, hb⟩ := hrel
    obtain ⟨wo, rfl⟩ : ∃ wo, wo = wr := ⟨_, rfl⟩
    have HB := Lib.hid hb
    have H1 := Lib.hid h1
    have H2 := Lib.hid h2
    clear hb h1 h2
    by_cases hlt : lo < hi
    · have hc := HF.out wo ((lo + hi) / 2) (by omega) HB.out
      rw [half_cast] at hc
      have HC := Lib.hid hc
      clear hc
      go_wp2_with fail
      refine HC.out.mono ?_
      rintro e w3 ⟨b, rfl, hR, hb3⟩
      have HR := Lib.hid hR
      have HB3 := Lib.hid (HB.out.trans (hb3.mono HB.out.size))
      clear hR hb3
      cases b
      · go_wp2_with fail
        refine ⟨⟨(lo + hi) / 2 + 1, hi, by rw [← half_cast]; rfl, rfl, by omega, hin, H1.out, fun _ => by simpa using HR.out, HB3.out⟩, ?_⟩
        simp [intOf]; omega
      · go_wp2_with fail
        refine ⟨⟨lo, (lo + hi) / 2, rfl, by rw [← half_cast], by omega, by omega, fun _ => HR.out, H2.out, HB3.out⟩, ?_⟩
        simp [intOf]; omega
    · obtain rfl : lo = hi := by omega
      go_wp2_with fail
      go_ret
      exact ⟨lo, rfl, hin, H1.out, H2.out, HB.out⟩
end Go.Proofs.YtgbihmafmmeicaaGreatDoor
namespace Go.Proofs.YtgbihmafmmeicaaGreatDoor
open Go.RowKit Mg Go.Shelf Go.Maps Go.Sort

def FSame : Prop := ∀ (mem : Addr → Option Value) (e1 e2 : FctE) (w : World), Sees mem w → e1.ok mem → e2.ok mem → Calls Tryz.prog 67 #[.agg e1.cells, .agg e2.cells] w (RetB (fun _ => True) w)
theorem EsM.open_ {mem : Addr → Option Value} {v : Value} {es : List FctE} (h : EsM mem v es) : ∃ ao cap b o, v = .slice ao es.length cap ∧ es.length ≤ maxLen ∧ (0 < es.length → ao = some ⟨b, o, none⟩) ∧ ∀ j (h : j < es.length), es[j].ok mem ∧ es[j].at mem b (o + j * 23) := by
  obtain ⟨b, o, ⟨_, ao, cap, h1, h2, h3, h4⟩, h5⟩ := h
  exact ⟨ao, cap, b, o, h1, by omega, h4, h5⟩
set_option maxRecDepth 100000 in
set_option maxHeartbeats 2000000 in
theorem eqFacts_any {mem : Addr → Option Value} (v1 v2 : Value) (es1 es2 : List FctE) (h1 : EsM mem v1 es1) (h2 : EsM mem v2 es2) (w : World) (hs : Sees mem w) (hS : es1.length = es2.length → FSame) :
    Calls Tryz.prog 66 #[v1, v2, .func (.func 67) #[] #[]] w (RetB (fun b => b = true → es1.length = es2.length) w) := by
  obtain ⟨a1, c1, b1, o1, rfl, hm1, ha1, he1⟩ := h1.open_
  obtain ⟨a2, c2, b2, o2, rfl, hm2, ha2, he2⟩ := h2.open_
  unfold maxLen at hm1 hm2
  have HS := Lib.hid hs
  have HF := Lib.hid hS
  have HA1 := Lib.hid ha1
  have HA2 := Lib.hid ha2
  have HE1 := Lib.hid he1
  have HE2 := Lib.hid he2
  have hl1 : (es1.length : Int) ≤ 9223372036854775807 := by omega
  have hl2 : (es2.length : Int) ≤ 9223372036854775807 := by omega
  clear hs hS ha1 ha2 he1 he2 h1 h2 hm1 hm2
  by_cases hne : es1.length = es2.length
  · have HNE := Lib.hid hne
    have HC := Lib.hid (HF.out hne)
    obtain ⟨n2, hn2⟩ : ∃ n2, n2 = es2.length := ⟨_, rfl⟩
    have HN2' := Lib.hid hn2
    rw [show (Value.slice a2 es2.length c2) = .slice a2 es1.length c2 by rw [hne]]
    clear hn2
    clear hne
    go_enter Tryz.func66, Tryz.ntmps66
    go_wp2_with fail
    go_loopw [17] (fun i wr => ∃ k : Nat, k ≤ es1.length ∧ i = .int .i64 k ∧ Below w.heap.size w wr) (fun i _ => es1.length - (intOf i).toNat)
    case atStart => exact ⟨0, Nat.zero_le _, rfl, Below.refl _ _⟩
    case round =>
      obtain ⟨k, hk, rfl, hb⟩ := hrel
      obtain ⟨wo, rfl⟩ : ∃ wo, wo = wr := ⟨_, rfl⟩
      by_cases hlt : k < es1.length
      · obtain rfl := HA1.out (by omega)
        obtain rfl := HA2.out (by have := HNE.out; omega)
        have hlt2 : k < es2.length := by have := HNE.out; omega
        obtain ⟨hok1, hat1⟩ := HE1.out k hlt
        obtain ⟨hok2, hat2⟩ := HE2.out k hlt2
        have hsw := HS.out.bel hb
        have HAT1 : Hid (es1[k].at (fun p => wo.cell? p) b1 (o1 + k * 23)) := Lib.hid (fun j u hj => hsw _ _ (hat1 j u hj))
        have HAT2 : Hid (es2[k].at (fun p => (wo.alloc (.cells es1[k].cells 45)).cell? p) b2 (o2 + k * 23)) := Lib.hid (fun j u hj => ((Below.refl _ wo).alloc (Nat.le_refl _) _).cell (World.block_lt_of_cell? _ _ (hsw _ _ (hat2 j u hj))) |>.trans (hsw _ _ (hat2 j u hj)))
        have HB := Lib.hid hb
        have HCA := Lib.hid (fun W (h : Below w.heap.size w W) => HC.out mem es1[k] es2[k] W (HS.out.bel h) hok1 hok2)
        have hsz1 : Hid (es1[k].cells.size = 23) := Lib.hid rfl
        have hone1 := Lib.hid (es1[k].one)
        have hsz2 : Hid (es2[k].cells.size = 23) := Lib.hid rfl
        have hone2 := Lib.hid (es2[k].one)
        clear hok1 hat1 hok2 hat2 hsw hb
        generalize es1[k] = x at *
        generalize es2[k] = y at *
        clear hlt2
        have HB2 : Hid (Below w.heap.size w ((wo.alloc (.cells x.cells 45)).alloc (.cells y.cells 45))) := Lib.hid ((HB.out.alloc HB.out.size _).alloc (by have := HB.out.size; simp; omega) _)
        have HN1 := Lib.hid (heap_new1 wo (.cells x.cells 45) (.cells y.cells 45))
        have HN2 := Lib.hid (heap_new2 wo (.cells x.cells 45) (.cells y.cells 45))
        go_upto_region 7 with (first
          | ((with_reducible refine at_fload (.tmp 20) rfl ?_); go_must (refine wpList_fct_mid rfl _ rfl (by simp [Act.eval]) HAT1.out ?_))
          | ((with_reducible refine at_fload (.tmp 24) rfl ?_); go_must (refine wpList_fct_mid rfl _ rfl (by simp [Act.eval]) HAT2.out ?_))
          | ((with_reducible refine at_fstore (.tmp 8) _ rfl ?_); go_must (refine wpList_fct_new rfl _ _ rfl rfl _ _ _ (by simp [Act.eval]) (by simp [Act.eval]) (by rfl) hsz1.out hone1.out ?_))
          | ((with_reducible refine at_fstore (.tmp 9) _ rfl ?_); go_must (refine wpList_fct_new rfl _ _ rfl rfl _ _ _ (by simp [Act.eval]) (by simp [Act.eval]) (by rfl) hsz2.out hone2.out ?_)))
        generalize hW2 : (wo.alloc (.cells x.cells 45)).alloc (.cells y.cells 45) = W2 at *
        generalize hG : wo.heap.size = G at *
        clear hW2
        go_wp2_with (first
          | ((with_reducible refine at_fload (.tmp 8) rfl ?_); go_must (refine wpList_fct_load rfl _ rfl G (by first | (simp [Act.eval]; done) | simp [Act.eval, Act.put]) _ HN1.out hsz1.out ?_))
          | ((with_reducible refine at_fload (.tmp 9) rfl ?_); go_must (refine wpList_fct_load rfl _ rfl (G + 1) (by first | (simp [Act.eval]; done) | simp [Act.eval, Act.put]) _ HN2.out hsz2.out ?_)))
        refine (HCA.out _ HB2.out).mono ?_
        rintro e w3 ⟨b, rfl, _, hb3⟩
        have HB3 := Lib.hid (HB2.out.trans (hb3.mono HB2.out.size))
        clear hb3
        cases b
        · go_wp2_with fail
          go_ret
          exact ⟨false, rfl, (fun h => by cases h), HB3.out⟩
        · go_wp2_with fail
          go_roundw
          case rel => exact ⟨k + 1, by omega, by go_num, HB3.out⟩
          case measure => simp [intOf]; omega
      · obtain rfl : k = es1.length := by omega
        have HB := Lib.hid hb
        clear hb
        go_wp2_with fail
        go_ret
        exact ⟨true, rfl, fun _ => HNE.out, HB.out⟩
  · have hne2 : ((es1.length : Int) != (es2.length : Int)) = true := by simpa using (fun h => hne (by omega))
    have HNE := Lib.hid hne
    clear hne
    go_enter Tryz.func66, Tryz.ntmps66
    go_wp2_with fail
    all_goals first
      | (go_ret
         exact ⟨false, rfl, (fun h => by cases h), Below.refl _ _⟩)
      | (exfalso; have h := HNE.out; simp_all; done)
set_option maxRecDepth 100000 in
theorem sameFacts_any {mem : Addr → Option Value} (v1 v2 : Value) (es1 es2 : List FctE) (h1 : EsM mem v1 es1) (h2 : EsM mem v2 es2) (w : World) (hs : Sees mem w) (hS : es1.length = es2.length → FSame) :
    Calls Tryz.prog 49 #[v1, v2] w (RetB (fun b => b = true → es1.length = es2.length) w) := by
  have HC := Lib.hid (eqFacts_any v1 v2 es1 es2 h1 h2 w hs hS)
  obtain ⟨a1, c1, b1, o1, rfl, _⟩ := h1.open_
  obtain ⟨a2, c2, b2, o2, rfl, _⟩ := h2.open_
  clear h1 h2 hs hS
  go_enter Tryz.func49, Tryz.ntmps49
  go_wp2_with fail
  refine HC.out.mono ?_
  rintro e w3 ⟨b, rfl, hR, hb⟩
  have HR := Lib.hid hR
  have HB := Lib.hid hb
  clear hR hb
  go_wp2_with fail
  go_ret
  exact ⟨b, rfl, HR.out, HB.out⟩
end Go.Proofs.YtgbihmafmmeicaaGreatDoor

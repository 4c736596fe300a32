/-
  WHAT IS PROVED HERE: 19 texts joined, each with its own head: what the walks of the program give. Conditions: each at its place.
-/
import Derived.Test.YtdkkhmjlamkgdaaGreatDoorBq4
import Derived.Laws.StructEq
namespace Go.Proofs.YtdkkhmjlamkgdaaGreatDoor
open Go.RowKit Mg Go.Shelf Go.Maps
theorem wpStill_value {P:Program} {ops:Array Oper} {w:World} {Q:Act->Prop} {a:Act} {o:Oper} {rest:List Oper} (hg:o.guard=none) (v:Value) (hr:(execOp a.eval o).run P w=.ok (.value v) w) (h:wpStill P ops w Q rest (a.put o.dst v)):wpStill P ops w Q (o::rest) a:=by
 refine wpStill_step fun K hK=>?_
 rw[if_pos (by simp[Region.wanted,hg])]
 unfold Oper.still
 rw[hr,Oper.stillUpon_value]
 exact hK _ h
theorem S_tpl:StructT Tryz.prog 52 2:=⟨⟨_,Tryz.underlying52⟩,by kernel_rfl,by decide⟩
theorem toList_iff {a b:ByteArray}:(a.toList=b.toList)↔a=b:=⟨fun h=>str_ext (by rw[<-ByteArray.toList_eq,<-ByteArray.toList_eq];exact h),fun h=>by rw[h]⟩
theorem corrCells_neq (x y:Corr) (W:World):(binOp .neq 69 (.agg (corrCells x)) (.agg (corrCells y))).run Tryz.prog W=.ok (.bool (!decide (x=y))) W:=by
 obtain⟨a0,a1,a2,a3,a4⟩:=x
 obtain⟨b0,b1,b2,b3,b4⟩:=y
 rw[run_neq_struct,run_equalIn_agg _ _ _ _ _ (by kernel_rfl) (by kernel_rfl)]
 simp only[Program.fieldsOf,Tryz.underlying69]
 go_simp
 simp only[toList_iff]
 by_cases h0:a0=b0 <;> by_cases h1:a1=b1 <;> by_cases h2:a2=b2 <;> by_cases h3:a3=b3 <;> by_cases h4:a4=b4 <;> simp[h0,h1,h2,h3,h4]
set_option maxRecDepth 10000 in
set_option maxHeartbeats 1000000 in
theorem eqCorrs_any {mem:Addr->Option Value} {v u:Value} {l m:List Corr} (h1:CorrsM mem v l) (h2:CorrsM mem u m) (w:World) (hs:Sees mem w):
 Calls Tryz.prog 90 #[v,u] w fun e w'=>e=.returned (.bool (decide (l=m)))/\Below w.heap.size w w':=by
 obtain⟨ao,cap,b,o,rfl,hcap,hm,hao,hcells⟩:=SlM.open_ h1
 obtain⟨ao2,cap2,b2,o2,rfl,hcap2,hm2,hao2,hcells2⟩:=SlM.open_ h2
 have HS:=Lib.hid hs
 have HA:=Lib.hid hao
 have HA2:=Lib.hid hao2
 have HC:=Lib.hid hcells
 have HC2:=Lib.hid hcells2
 have hlen:(l.length:Int)<=9223372036854775807:=by unfold maxLen at hm;omega
 have hlen2:(m.length:Int)<=9223372036854775807:=by unfold maxLen at hm2;omega
 clear hao hao2 hcells hcells2 hs h1 h2 hcap hcap2 hm hm2
 by_cases hl:l.length=m.length
 ·have HL:=Lib.hid hl
  rw[<-hl]
  clear hl
  go_enter Tryz.func90,Tryz.ntmps90
  go_wp2_with fail
  go_loopw [13] (fun i wr=>∃ k:Nat,k<=l.length/\i=.int .i64 k/\Below w.heap.size w wr/\Hid (l.take k=m.take k)) (fun i _=>l.length - (intOf i).toNat)
  case atStart=>exact⟨0,Nat.zero_le _,rfl,Below.refl _ _,Lib.hid rfl⟩
  case round=>
   obtain⟨k,hk,rfl,hb,ht⟩:=hrel
   by_cases hlt:k<l.length
   ·have hlt2:k<m.length:=by rw[<-HL.out];exact hlt
    have g1:=cells_see (sz:=5) (HS.out.bel hb) (HC.out k hlt).2 rfl
    have g2:=cells_see (sz:=5) (HS.out.bel hb) (HC2.out k hlt2).2 rfl
    obtain rfl:=HA.out (by omega)
    obtain rfl:=HA2.out (by omega)
    have HE:Hid (l[k]=m[k]->l.take (k+1)=m.take (k+1)):=Lib.hid (take_step hlt hlt2 ht.out)
    have HN:Hid (l[k]≠m[k]->l≠m):=Lib.hid (ne_of_get hlt hlt2)
    generalize l[k]=x at *
    generalize m[k]=y at *
    have G1:=Lib.hid g1
    have G2:=Lib.hid g2
    clear g1 g2
    have hqr:∀ W:World,(binOp .neq 69 (.agg (corrCells x)) (.agg (corrCells y))).run Tryz.prog W=.ok (.bool (!decide (x=y))) W:=fun W=>corrCells_neq x y W
    have hk0:(0:Int)<=k:=by omega
    have hk1:(k:Int)<l.length:=by omega
    clear ht hlt2
    by_cases hxy:x=y
    ·have HE2:=Lib.hid (HE.out hxy)
     have hxd:decide (x=y)=true:=decide_eq_true hxy
     rw[hxd]at hqr
     clear hxy
     clear HE
     go_wp2_with fail
     refine wp_tail 8 (by kernel_rfl) (by kernel_rfl) ?_
     simp only[List.take_succ_cons,List.take_zero,List.drop_succ_cons,List.drop_zero]
     still_step
     still_step
     still_step
     refine wpStill_value rfl _ (exec_smid S_corr _ rfl (by simp[Act.eval]) (corrCells x) rfl G1.out) ?_
     simp only[Act.put,List.setIfInBounds_toArray,List.set_cons_zero,List.set_cons_succ]
     still_step
     still_step
     still_step
     refine wpStill_value rfl _ (exec_smid S_corr _ rfl (by simp[Act.eval]) (corrCells y) rfl G2.out) ?_
     simp only[Act.put,List.setIfInBounds_toArray,List.set_cons_zero,List.set_cons_succ]
     refine wpStill_nil ?_
     go_wp2_with fail
     go_roundw
     case rel=>exact⟨k+1,by omega,by go_num,hb.drew,HE2⟩
     case measure=>simp[intOf];omega
    ·have hxd:decide (x=y)=false:=decide_eq_false hxy
     rw[hxd]at hqr
     have HNE:=Lib.hid hxy
     clear hxy
     go_wp2_with fail
     refine wp_tail 8 (by kernel_rfl) (by kernel_rfl) ?_
     simp only[List.take_succ_cons,List.take_zero,List.drop_succ_cons,List.drop_zero]
     still_step
     still_step
     still_step
     refine wpStill_value rfl _ (exec_smid S_corr _ rfl (by simp[Act.eval]) (corrCells x) rfl G1.out) ?_
     simp only[Act.put,List.setIfInBounds_toArray,List.set_cons_zero,List.set_cons_succ]
     still_step
     still_step
     still_step
     refine wpStill_value rfl _ (exec_smid S_corr _ rfl (by simp[Act.eval]) (corrCells y) rfl G2.out) ?_
     simp only[Act.put,List.setIfInBounds_toArray,List.set_cons_zero,List.set_cons_succ]
     refine wpStill_nil ?_
     go_wp2_with fail
     go_ret
     exact⟨ret_bool (by symm;exact decide_eq_false (HN.out HNE.out)),hb.drew⟩
   ·have e:k=l.length:=by omega
    subst e
    have HF:Hid (l=m):=Lib.hid (eq_full HL.out ht.out)
    go_wp2_with fail
    go_ret
    exact⟨ret_bool (by symm;exact decide_eq_true HF.out),hb⟩
 ·have hne:decide (l.length=m.length)=false:=decide_eq_false hl
  have HNE:Hid (l≠m):=Lib.hid (fun e=>hl (by rw[e]))
  go_enter Tryz.func90,Tryz.ntmps90
  go_wp2_with fail
  all_goals first
   |(go_ret
     exact⟨ret_bool (by symm;exact decide_eq_false HNE.out),Below.refl _ _⟩)
   |(exfalso;simp_all;done)
set_option maxRecDepth 10000 in
set_option maxHeartbeats 4000000 in
theorem sameStory_any {mem:Addr->Option Value} {v u:Value} {x y:StyF} (h1:StyV mem v x) (h2:StyV mem u y) (w:World) (hs:Sees mem w):
 Calls Tryz.prog 59 #[v,u] w fun e w'=>e=.returned (.bool (decide (x=y)))/\Below w.heap.size w w':=by
 obtain⟨_,tv,ev,cv,rfl,ht1,he1,hc1⟩:=h1
 obtain⟨_,tv2,ev2,cv2,rfl,ht2,he2,hc2⟩:=h2
 obtain⟨id,author,topics,eds,pub,corr,retr,taken⟩:=x
 obtain⟨id2,author2,topics2,eds2,pub2,corr2,retr2,taken2⟩:=y
 have HT:=Lib.hid (fun W hW=>eqStrs_any ht1 ht2 W hW)
 have HE:=Lib.hid (fun W hW=>eqEdns_any he1 he2 W hW)
 have HC:=Lib.hid (fun W hW=>eqCorrs_any hc1 hc2 W hW)
 obtain⟨ta,tc,rfl⟩:=ht1.slice
 obtain⟨ta2,tc2,rfl⟩:=ht2.slice
 obtain⟨ea,ec,rfl⟩:=SlM.slice he1
 obtain⟨ea2,ec2,rfl⟩:=SlM.slice he2
 obtain⟨ca,cc,rfl⟩:=SlM.slice hc1
 obtain⟨ca2,cc2,rfl⟩:=SlM.slice hc2
 have HR:=Lib.hid (sty_dec id author topics eds pub corr retr taken id2 author2 topics2 eds2 pub2 corr2 retr2 taken2)
 have HS:=Lib.hid hs
 dsimp only at HT HE HC ⊢
 clear ht1 ht2 he1 he2 hc1 hc2 hs
 generalize hn1:topics.length=n1 at *
 generalize hn2:topics2.length=n2 at *
 generalize hn3:eds.length=n3 at *
 generalize hn4:eds2.length=n4 at *
 generalize hn5:corr.length=n5 at *
 generalize hn6:corr2.length=n6 at *
 clear hn1 hn2 hn3 hn4 hn5 hn6
 obtain⟨W2,hW2⟩:∃ W2,W2=(w.alloc (.cells #[.int .i64 id,.string author,.slice ta n1 tc,.slice ea n3 ec,.int .i64 pub,.slice ca n5 cc,.bool retr,.bool taken] 34)).alloc (.cells #[.int .i64 id2,.string author2,.slice ta2 n2 tc2,.slice ea2 n4 ec2,.int .i64 pub2,.slice ca2 n6 cc2,.bool retr2,.bool taken2] 34):=⟨_,rfl⟩
 have hB2:Below w.heap.size w W2:=by rw[hW2];exact(bel1 w _).alloc (by simp) _
 have HN1:Hid (W2.heap[w.heap.size]?=some (.cells #[.int .i64 id,.string author,.slice ta n1 tc,.slice ea n3 ec,.int .i64 pub,.slice ca n5 cc,.bool retr,.bool taken] 34 (0,0))):=Lib.hid (by rw[hW2];exact heap_new1 w _ _)
 have HN2:Hid (W2.heap[w.heap.size+1]?=some (.cells #[.int .i64 id2,.string author2,.slice ta2 n2 tc2,.slice ea2 n4 ec2,.int .i64 pub2,.slice ca2 n6 cc2,.bool retr2,.bool taken2] 34 (0,0))):=Lib.hid (by
  rw[hW2]
  have:=World.alloc_heap_new (w.alloc (.cells #[.int .i64 id,.string author,.slice ta n1 tc,.slice ea n3 ec,.int .i64 pub,.slice ca n5 cc,.bool retr,.bool taken] 34)) (.cells #[.int .i64 id2,.string author2,.slice ta2 n2 tc2,.slice ea2 n4 ec2,.int .i64 pub2,.slice ca2 n6 cc2,.bool retr2,.bool taken2] 34)
  simpa using this)
 have HB2:=Lib.hid hB2
 have HW2:=Lib.hid hW2
 have HS2:=Lib.hid (HS.out.bel hB2)
 clear hB2 hW2
 go_enter Tryz.func59,Tryz.ntmps59
 go_upto_region 1 with fail
 rw[<-HW2.out]
 have HB:=HB2
 have HSW:=HS2
 have HH1:=HN1
 have HH2:=HN2
 clear HB2 HS2 HN1 HN2 HW2
 have p0:W2.cell? ⟨w.heap.size,0,none⟩=some (.int .i64 id):=rowcell HH1.out
 have q0:W2.cell? ⟨w.heap.size+1,0,none⟩=some (.int .i64 id2):=rowcell HH2.out
 have p1:W2.cell? ⟨w.heap.size,1,none⟩=some (.string author):=rowcell HH1.out
 have q1:W2.cell? ⟨w.heap.size+1,1,none⟩=some (.string author2):=rowcell HH2.out
 have p2:W2.cell? ⟨w.heap.size,2,none⟩=some (.slice ta n1 tc):=rowcell HH1.out
 have q2:W2.cell? ⟨w.heap.size+1,2,none⟩=some (.slice ta2 n2 tc2):=rowcell HH2.out
 have p3:W2.cell? ⟨w.heap.size,3,none⟩=some (.slice ea n3 ec):=rowcell HH1.out
 have q3:W2.cell? ⟨w.heap.size+1,3,none⟩=some (.slice ea2 n4 ec2):=rowcell HH2.out
 have p4:W2.cell? ⟨w.heap.size,4,none⟩=some (.int .i64 pub):=rowcell HH1.out
 have q4:W2.cell? ⟨w.heap.size+1,4,none⟩=some (.int .i64 pub2):=rowcell HH2.out
 have p5:W2.cell? ⟨w.heap.size,5,none⟩=some (.slice ca n5 cc):=rowcell HH1.out
 have q5:W2.cell? ⟨w.heap.size+1,5,none⟩=some (.slice ca2 n6 cc2):=rowcell HH2.out
 have p6:W2.cell? ⟨w.heap.size,6,none⟩=some (.bool retr):=rowcell HH1.out
 have q6:W2.cell? ⟨w.heap.size+1,6,none⟩=some (.bool retr2):=rowcell HH2.out
 have p7:W2.cell? ⟨w.heap.size,7,none⟩=some (.bool taken):=rowcell HH1.out
 have q7:W2.cell? ⟨w.heap.size+1,7,none⟩=some (.bool taken2):=rowcell HH2.out
 by_cases e0:id=id2
 ·subst e0
  by_cases e1:author=author2
  ·subst e1
   go_wp2_with fail
   refine(HT.out _ HSW.out).mono ?_
   rintro e w12 ⟨rfl,hb⟩
   have HB:=Lib.hid (HB.out.trans (hb.mono HB.out.size))
   have HSW:=Lib.hid (HSW.out.bel hb)
   have HH1:=Lib.hid ((hb.block _ (hlt HH1.out)).trans HH1.out)
   have HH2:=Lib.hid ((hb.block _ (hlt HH2.out)).trans HH2.out)
   clear hb p0 q0 p1 q1 p2 q2 p3 q3 p4 q4 p5 q5 p6 q6 p7 q7
   have p0:w12.cell? ⟨w.heap.size,0,none⟩=some (.int .i64 id):=rowcell HH1.out
   have q0:w12.cell? ⟨w.heap.size+1,0,none⟩=some (.int .i64 id):=rowcell HH2.out
   have p1:w12.cell? ⟨w.heap.size,1,none⟩=some (.string author):=rowcell HH1.out
   have q1:w12.cell? ⟨w.heap.size+1,1,none⟩=some (.string author):=rowcell HH2.out
   have p2:w12.cell? ⟨w.heap.size,2,none⟩=some (.slice ta n1 tc):=rowcell HH1.out
   have q2:w12.cell? ⟨w.heap.size+1,2,none⟩=some (.slice ta2 n2 tc2):=rowcell HH2.out
   have p3:w12.cell? ⟨w.heap.size,3,none⟩=some (.slice ea n3 ec):=rowcell HH1.out
   have q3:w12.cell? ⟨w.heap.size+1,3,none⟩=some (.slice ea2 n4 ec2):=rowcell HH2.out
   have p4:w12.cell? ⟨w.heap.size,4,none⟩=some (.int .i64 pub):=rowcell HH1.out
   have q4:w12.cell? ⟨w.heap.size+1,4,none⟩=some (.int .i64 pub2):=rowcell HH2.out
   have p5:w12.cell? ⟨w.heap.size,5,none⟩=some (.slice ca n5 cc):=rowcell HH1.out
   have q5:w12.cell? ⟨w.heap.size+1,5,none⟩=some (.slice ca2 n6 cc2):=rowcell HH2.out
   have p6:w12.cell? ⟨w.heap.size,6,none⟩=some (.bool retr):=rowcell HH1.out
   have q6:w12.cell? ⟨w.heap.size+1,6,none⟩=some (.bool retr2):=rowcell HH2.out
   have p7:w12.cell? ⟨w.heap.size,7,none⟩=some (.bool taken):=rowcell HH1.out
   have q7:w12.cell? ⟨w.heap.size+1,7,none⟩=some (.bool taken2):=rowcell HH2.out
   have EN:Hid (decide (topics=topics2)=false->decide (topics=topics2)=false):=Lib.hid (fun h=>h)
   have EY:Hid (decide (topics=topics2)=true->topics=topics2):=Lib.hid of_decide_eq_true
   generalize hq:decide (topics=topics2)=q at *
   cases q with
   |false=>
    clear hq EY EN
    have EN:=Lib.hid (Eq.refl false)
    go_wp2_with fail
    go_ret
    exact⟨ret_false (by first|(rw[HR.out];simp;done) | (simp[EN.out];done)),HB.out⟩
   |true=>
    clear hq EY EN
    go_wp2_with fail
    refine(HE.out _ HSW.out).mono ?_
    rintro e w13 ⟨rfl,hb⟩
    have HB:=Lib.hid (HB.out.trans (hb.mono HB.out.size))
    have HSW:=Lib.hid (HSW.out.bel hb)
    have HH1:=Lib.hid ((hb.block _ (hlt HH1.out)).trans HH1.out)
    have HH2:=Lib.hid ((hb.block _ (hlt HH2.out)).trans HH2.out)
    clear hb p0 q0 p1 q1 p2 q2 p3 q3 p4 q4 p5 q5 p6 q6 p7 q7
    have p0:w13.cell? ⟨w.heap.size,0,none⟩=some (.int .i64 id):=rowcell HH1.out
    have q0:w13.cell? ⟨w.heap.size+1,0,none⟩=some (.int .i64 id):=rowcell HH2.out
    have p1:w13.cell? ⟨w.heap.size,1,none⟩=some (.string author):=rowcell HH1.out
    have q1:w13.cell? ⟨w.heap.size+1,1,none⟩=some (.string author):=rowcell HH2.out
    have p2:w13.cell? ⟨w.heap.size,2,none⟩=some (.slice ta n1 tc):=rowcell HH1.out
    have q2:w13.cell? ⟨w.heap.size+1,2,none⟩=some (.slice ta2 n2 tc2):=rowcell HH2.out
    have p3:w13.cell? ⟨w.heap.size,3,none⟩=some (.slice ea n3 ec):=rowcell HH1.out
    have q3:w13.cell? ⟨w.heap.size+1,3,none⟩=some (.slice ea2 n4 ec2):=rowcell HH2.out
    have p4:w13.cell? ⟨w.heap.size,4,none⟩=some (.int .i64 pub):=rowcell HH1.out
    have q4:w13.cell? ⟨w.heap.size+1,4,none⟩=some (.int .i64 pub2):=rowcell HH2.out
    have p5:w13.cell? ⟨w.heap.size,5,none⟩=some (.slice ca n5 cc):=rowcell HH1.out
    have q5:w13.cell? ⟨w.heap.size+1,5,none⟩=some (.slice ca2 n6 cc2):=rowcell HH2.out
    have p6:w13.cell? ⟨w.heap.size,6,none⟩=some (.bool retr):=rowcell HH1.out
    have q6:w13.cell? ⟨w.heap.size+1,6,none⟩=some (.bool retr2):=rowcell HH2.out
    have p7:w13.cell? ⟨w.heap.size,7,none⟩=some (.bool taken):=rowcell HH1.out
    have q7:w13.cell? ⟨w.heap.size+1,7,none⟩=some (.bool taken2):=rowcell HH2.out
    have EN:Hid (decide (eds=eds2)=false->decide (eds=eds2)=false):=Lib.hid (fun h=>h)
    have EY:Hid (decide (eds=eds2)=true->eds=eds2):=Lib.hid of_decide_eq_true
    generalize hq:decide (eds=eds2)=q at *
    cases q with
    |false=>
     clear hq EY EN
     have EN:=Lib.hid (Eq.refl false)
     go_wp2_with fail
     go_ret
     exact⟨ret_false (by first|(rw[HR.out];simp;done) | (simp[EN.out];done)),HB.out⟩
    |true=>
     clear hq EY EN
     by_cases e4:pub=pub2
     ·subst e4
      go_wp2_with fail
      refine(HC.out _ HSW.out).mono ?_
      rintro e w15 ⟨rfl,hb⟩
      have HB:=Lib.hid (HB.out.trans (hb.mono HB.out.size))
      have HSW:=Lib.hid (HSW.out.bel hb)
      have HH1:=Lib.hid ((hb.block _ (hlt HH1.out)).trans HH1.out)
      have HH2:=Lib.hid ((hb.block _ (hlt HH2.out)).trans HH2.out)
      clear hb p0 q0 p1 q1 p2 q2 p3 q3 p4 q4 p5 q5 p6 q6 p7 q7
      have p0:w15.cell? ⟨w.heap.size,0,none⟩=some (.int .i64 id):=rowcell HH1.out
      have q0:w15.cell? ⟨w.heap.size+1,0,none⟩=some (.int .i64 id):=rowcell HH2.out
      have p1:w15.cell? ⟨w.heap.size,1,none⟩=some (.string author):=rowcell HH1.out
      have q1:w15.cell? ⟨w.heap.size+1,1,none⟩=some (.string author):=rowcell HH2.out
      have p2:w15.cell? ⟨w.heap.size,2,none⟩=some (.slice ta n1 tc):=rowcell HH1.out
      have q2:w15.cell? ⟨w.heap.size+1,2,none⟩=some (.slice ta2 n2 tc2):=rowcell HH2.out
      have p3:w15.cell? ⟨w.heap.size,3,none⟩=some (.slice ea n3 ec):=rowcell HH1.out
      have q3:w15.cell? ⟨w.heap.size+1,3,none⟩=some (.slice ea2 n4 ec2):=rowcell HH2.out
      have p4:w15.cell? ⟨w.heap.size,4,none⟩=some (.int .i64 pub):=rowcell HH1.out
      have q4:w15.cell? ⟨w.heap.size+1,4,none⟩=some (.int .i64 pub):=rowcell HH2.out
      have p5:w15.cell? ⟨w.heap.size,5,none⟩=some (.slice ca n5 cc):=rowcell HH1.out
      have q5:w15.cell? ⟨w.heap.size+1,5,none⟩=some (.slice ca2 n6 cc2):=rowcell HH2.out
      have p6:w15.cell? ⟨w.heap.size,6,none⟩=some (.bool retr):=rowcell HH1.out
      have q6:w15.cell? ⟨w.heap.size+1,6,none⟩=some (.bool retr2):=rowcell HH2.out
      have p7:w15.cell? ⟨w.heap.size,7,none⟩=some (.bool taken):=rowcell HH1.out
      have q7:w15.cell? ⟨w.heap.size+1,7,none⟩=some (.bool taken2):=rowcell HH2.out
      have EN:Hid (decide (corr=corr2)=false->decide (corr=corr2)=false):=Lib.hid (fun h=>h)
      have EY:Hid (decide (corr=corr2)=true->corr=corr2):=Lib.hid of_decide_eq_true
      generalize hq:decide (corr=corr2)=q at *
      cases q with
      |false=>
       clear hq EY EN
       have EN:=Lib.hid (Eq.refl false)
       go_wp2_with fail
       go_ret
       exact⟨ret_false (by first|(rw[HR.out];simp;done) | (simp[EN.out];done)),HB.out⟩
      |true=>
       clear hq EY EN
       by_cases e6:retr=retr2
       ·subst e6
        by_cases e7:taken=taken2
        ·subst e7
         go_wp2_with fail
         go_ret
         exact⟨ret_true (by first|(rw[HR.out];simp;done) | (simp;done)),HB.out⟩
        ·have ne:(taken == taken2)=false:=by simpa using e7
         have EN:=Lib.hid (decide_eq_false e7)
         clear e7
         go_wp2_with fail
         go_ret
         exact⟨ret_false (by first|(rw[HR.out];simp[EN.out];done) | (simp[EN.out];done)),HB.out⟩
       ·have ne:(retr == retr2)=false:=by simpa using e6
        have EN:=Lib.hid (decide_eq_false e6)
        clear e6
        go_wp2_with fail
        go_ret
        exact⟨ret_false (by first|(rw[HR.out];simp[EN.out];done) | (simp[EN.out];done)),HB.out⟩
     ·have ne:(pub == pub2)=false:=by simpa using e4
      have EN:=Lib.hid (decide_eq_false e4)
      clear e4
      go_wp2_with fail
      go_ret
      exact⟨ret_false (by first|(rw[HR.out];simp[EN.out];done) | (simp[EN.out];done)),HB.out⟩
  ·have ne:(author.toList == author2.toList)=false:=str_ne e1
   have EN:=Lib.hid (decide_eq_false e1)
   clear e1
   go_wp2_with fail
   go_ret
   exact⟨ret_false (by first|(rw[HR.out];simp[EN.out];done) | (simp[EN.out];done)),HB.out⟩
 ·have ne:(id == id2)=false:=by simpa using e0
  have EN:=Lib.hid (decide_eq_false e0)
  clear e0
  go_wp2_with fail
  go_ret
  exact⟨ret_false (by first|(rw[HR.out];simp[EN.out];done) | (simp[EN.out];done)),HB.out⟩
set_option maxRecDepth 10000 in
set_option maxHeartbeats 4000000 in
theorem eqStys_any {mem:Addr->Option Value} {v u:Value} {l m:List StyF} (h1:StysM mem v l) (h2:StysM mem u m) (w:World) (hs:Sees mem w):
 Calls Tryz.prog 58 #[v,u,.func (.func 59) #[] #[]] w fun e w'=>e=.returned (.bool (decide (l=m)))/\Below w.heap.size w w':=by
 obtain⟨ao,cap,b,o,rfl,hcap,hm,hao,hblks⟩:=SlM.open_ h1
 obtain⟨ao2,cap2,b2,o2,rfl,hcap2,hm2,hao2,hblks2⟩:=SlM.open_ h2
 have HA:=Lib.hid hao
 have HA2:=Lib.hid hao2
 have HB:=Lib.hid hblks
 have HB2:=Lib.hid hblks2
 have HS:=Lib.hid hs
 have hlen:(l.length:Int)<=9223372036854775807:=by unfold maxLen at hm;omega
 have hlen2:(m.length:Int)<=9223372036854775807:=by unfold maxLen at hm2;omega
 clear h1 h2 hao hao2 hblks hblks2 hs hcap hcap2 hm hm2
 by_cases hl:l.length=m.length
 ·have HL:=Lib.hid hl
  rw[<-hl]
  clear hl
  go_enter Tryz.func58,Tryz.ntmps58
  go_wp2_with fail
  go_loopw [17] (fun i wr=>∃ k:Nat,k<=l.length/\i=.int .i64 k/\Below w.heap.size w wr/\Hid (l.take k=m.take k)) (fun i _=>l.length - (intOf i).toNat)
  case atStart=>exact⟨0,Nat.zero_le _,rfl,Below.refl _ _,Lib.hid rfl⟩
  case round=>
   obtain⟨k,hk,rfl,hb,ht⟩:=hrel
   by_cases hlt:k<l.length
   ·have hlt2:k<m.length:=by rw[<-HL.out];exact hlt
    obtain rfl:=HA.out (by omega)
    obtain rfl:=HA2.out (by omega)
    obtain⟨hok,tv,ev,cv,hcells,hP⟩:=HB.out k hlt
    obtain⟨hok2,tv2,ev2,cv2,hcells2,hP2⟩:=HB2.out k hlt2
    have HV1:Hid (StyV mem (.agg (styCells l[k] tv ev cv)) l[k]):=Lib.hid ⟨hok,_,_,_,rfl,hP⟩
    have HV2:Hid (StyV mem (.agg (styCells m[k] tv2 ev2 cv2)) m[k]):=Lib.hid ⟨hok2,_,_,_,rfl,hP2⟩
    have HD1:=Lib.hid (cells_see (sz:=8) (HS.out.bel hb) hcells rfl)
    have HD2:=Lib.hid (cells_see (sz:=8) (HS.out.bel hb) hcells2 rfl)
    obtain⟨t1,t2,e1,e2,c1,c2,rfl,rfl,rfl⟩:=hP.shape
    obtain⟨t3,t4,e3,e4,c3,c4,rfl,rfl,rfl⟩:=hP2.shape
    generalize l[k].topics.length=n1 at *
    generalize l[k].eds.length=n2 at *
    generalize l[k].corr.length=n3 at *
    generalize m[k].topics.length=n4 at *
    generalize m[k].eds.length=n5 at *
    generalize m[k].corr.length=n6 at *
    clear hok hok2 hcells hcells2 hP hP2
    have HE:Hid (l[k]=m[k]->l.take (k+1)=m.take (k+1)):=Lib.hid (take_step hlt hlt2 ht.out)
    have HN:Hid (l[k]≠m[k]->decide (l=m)=false):=Lib.hid (fun e=>decide_eq_false (ne_of_get hlt hlt2 e))
    have hk0:(0:Int)<=k:=by omega
    have hk1:(k:Int)<l.length:=by omega
    generalize l[k]=x at *
    generalize m[k]=y at *
    have HC:Hid (∀ W,Sees mem W->Calls Tryz.prog 59 #[.agg (styCells x (.slice t1 n1 t2) (.slice e1 n2 e2) (.slice c1 n3 c2)),.agg (styCells y (.slice t3 n4 t4) (.slice e3 n5 e4) (.slice c3 n6 c4))] W fun e w'=>e=.returned (.bool (decide (x=y)))/\Below W.heap.size W w'):=
     Lib.hid (fun W hW=>sameStory_any HV1.out HV2.out W hW)
    have HC9:Hid (decide (x=y)=true->x=y):=Lib.hid of_decide_eq_true
    have HC8:Hid (decide (x=y)=false->x≠y):=Lib.hid of_decide_eq_false
    generalize hq:decide (x=y)=q at *
    have HB0:=Lib.hid hb
    clear hq ht hb
    go_upto_region 6 with (first
     |((with_reducible refine at_sload 34 _ rfl ?_);go_must (refine wpList_smid rfl S_sty _ rfl (by simp[Act.eval]) (styCells x (.slice t1 n1 t2) (.slice e1 n2 e2) (.slice c1 n3 c2)) rfl HD1.out ?_))
     |((with_reducible refine at_sstore 34 _ _ rfl ?_);go_must (refine wpList_snew rfl S_sty _ _ rfl rfl _ _ (styCells x (.slice t1 n1 t2) (.slice e1 n2 e2) (.slice c1 n3 c2)) (by simp[Act.eval]) (by simp[Act.eval]) rfl rfl (by simp[Value.oneCell']) ?_)))
    obtain⟨W4,hW4⟩:∃ W4,W4=wr.alloc (.cells (styCells x (.slice t1 n1 t2) (.slice e1 n2 e2) (.slice c1 n3 c2)) 34):=⟨_,rfl⟩
    rw[<-hW4]
    have hb4:Below wr.heap.size wr W4:=by rw[hW4];exact bel1 _ _
    have HN4:Hid (W4.heap[wr.heap.size]?=some (.cells (styCells x (.slice t1 n1 t2) (.slice e1 n2 e2) (.slice c1 n3 c2)) 34 (0,0))):=Lib.hid (by rw[hW4];exact World.alloc_heap_new _ _)
    have HD3:=Lib.hid (cells_in HD2.out hb4)
    have HB4:=Lib.hid hb4
    clear hW4 hb4
    go_upto_region 7 with (first
     |((with_reducible refine at_sload 34 _ rfl ?_);go_must (refine wpList_smid rfl S_sty _ rfl (by simp[Act.eval]) (styCells y (.slice t3 n4 t4) (.slice e3 n5 e4) (.slice c3 n6 c4)) rfl HD3.out ?_))
     |((with_reducible refine at_sstore 34 _ _ rfl ?_);go_must (refine wpList_snew rfl S_sty _ _ rfl rfl _ _ (styCells y (.slice t3 n4 t4) (.slice e3 n5 e4) (.slice c3 n6 c4)) (by simp[Act.eval]) (by simp[Act.eval]) rfl rfl (by simp[Value.oneCell']) ?_)))
    obtain⟨W5,hW5⟩:∃ W5,W5=W4.alloc (.cells (styCells y (.slice t3 n4 t4) (.slice e3 n5 e4) (.slice c3 n6 c4)) 34):=⟨_,rfl⟩
    rw[<-hW5]
    have hb5:Below W4.heap.size W4 W5:=by rw[hW5];exact bel1 _ _
    have HN6:Hid (W5.heap[W4.heap.size]?=some (.cells (styCells y (.slice t3 n4 t4) (.slice e3 n5 e4) (.slice c3 n6 c4)) 34 (0,0))):=Lib.hid (by rw[hW5];exact World.alloc_heap_new _ _)
    have HN5:=Lib.hid ((hb5.block _ (qh HN4.out)).trans HN4.out)
    have HB5:Hid (Below w.heap.size w W5):=Lib.hid ((HB0.out.trans (HB4.out.mono HB0.out.size)).trans (hb5.mono (Nat.le_trans HB0.out.size HB4.out.size)))
    have HS5:=Lib.hid (HS.out.bel HB5.out)
    clear hW5 hb5
    go_wp2_with (first
     |((with_reducible refine at_sload 34 (.tmp 8) rfl ?_);go_must (refine wpList_sload rfl S_sty _ rfl (by simp[Act.eval]) (styCells x (.slice t1 n1 t2) (.slice e1 n2 e2) (.slice c1 n3 c2)) rfl HN5.out ?_))
     |((with_reducible refine at_sload 34 (.tmp 9) rfl ?_);go_must (refine wpList_sload rfl S_sty _ rfl (by simp[Act.eval,Act.put]) (styCells y (.slice t3 n4 t4) (.slice e3 n5 e4) (.slice c3 n6 c4)) rfl HN6.out ?_)))
    refine(HC.out _ HS5.out).mono ?_
    rintro e w3 ⟨rfl,hb3⟩
    have hB3:Below w.heap.size w w3:=HB5.out.trans (hb3.mono HB5.out.size)
    clear hb3 HB0
    cases q with
    |true=>
     have HE2:=Lib.hid (HE.out (HC9.out rfl))
     clear HE HN HC9 HC8
     go_wp2_with fail
     go_roundw
     case rel=>exact⟨k+1,by omega,by go_num,hB3,HE2⟩
     case measure=>simp[intOf];omega
    |false=>
     have HN2:=Lib.hid (HN.out (HC8.out rfl))
     clear HE HN HC9 HC8
     go_wp2_with fail
     go_ret
     exact⟨ret_false HN2.out,hB3⟩
   ·have e:k=l.length:=by omega
    subst e
    have HF:Hid (decide (l=m)=true):=Lib.hid (decide_eq_true (eq_full HL.out ht.out))
    go_wp2_with fail
    go_ret
    exact⟨ret_true HF.out,hb⟩
 ·have HNE:Hid (decide (l=m)=false):=Lib.hid (decide_eq_false (fun e=>hl (by rw[e])))
  have hne:decide (l.length=m.length)=false:=decide_eq_false hl
  go_enter Tryz.func58,Tryz.ntmps58
  go_wp2_with fail
  all_goals first
   |(go_ret
     exact⟨ret_false HNE.out,Below.refl _ _⟩)
   |(exfalso;simp_all;done)
end Go.Proofs.YtdkkhmjlamkgdaaGreatDoor
namespace Go.Proofs.YtdkkhmjlamkgdaaGreatDoor.Mg
end Go.Proofs.YtdkkhmjlamkgdaaGreatDoor.Mg
namespace Go.Proofs.YtdkkhmjlamkgdaaGreatDoor.Mg
theorem stepG_pub_eq (g:StG) (f:Fct):(stepG g f).pub=if f.kind=3 then some (g.pub.getD f.n) else g.pub:=by
 unfold stepG
 by_cases h1:f.kind=1
 ·rw[if_pos h1,if_neg (by omega)]
 by_cases h3:f.kind=3
 ·rw[if_neg h1,if_pos h3,if_pos h3]
  cases hg:g.pub with
  |none=>rfl
  |some n=>simp[hg]
 ·rw[if_neg h1,if_neg h3,if_neg h3]
  split
  ·rfl
  split
  ·rfl
  split <;> rfl
theorem foldl_pub_some:∀ (l:List Fct) (g:StG),(l.foldl stepG g).pub.isSome=true↔g.pub.isSome=true\/∃ f∈l,f.kind=3
 |[],g=>by simp
 |f::l,g=>by
  rw[List.foldl_cons,foldl_pub_some l,stepG_pub_eq]
  by_cases h:f.kind=3
  ·rw[if_pos h];simp[h]
  ·rw[if_neg h];simp[h]
theorem foldG_pub_some (l:List Fct) (id:Int):(foldG l id).pub.isSome=true↔∃ f∈l,f.kind=3/\f.story=id:=by
 unfold foldG
 rw[foldl_pub_some]
 constructor
 ·rintro (h | ⟨f,hf,hk⟩)
  ·cases h
  ·obtain⟨h1,h2⟩:=List.mem_filter.1 hf
   exact⟨f,h1,hk,by simpa using h2⟩
 ·rintro ⟨f,hf,hk,hs⟩
  exact .inr ⟨f,List.mem_filter.2 ⟨hf,by simpa using hs⟩,hk⟩
def edO (l:List EdG) (lang:ByteArray):Option EdG:=l.find? fun e=>decide (e.lang=lang)
def stepE (lang:ByteArray) (o:Option EdG) (f:Fct):Option EdG:=
 if f.lang=lang then (if f.kind=1 then some (match o with | some e=>reEd f e | none=>newEd f) else if f.kind=4 then o.map (fun e=>{ e with changed:=f.n }) else o) else o
theorem edO_upEd (f:Fct) (lang:ByteArray):∀ l:List EdG,edO (upEd f l) lang=if f.lang=lang then some (match edO l lang with | some e=>reEd f e | none=>newEd f) else edO l lang
 |[]=>by
  unfold upEd edO
  by_cases h:f.lang=lang
  ·rw[if_pos h,List.find?_cons_of_pos (by rw[decide_eq_true_eq];exact h)];rfl
  ·rw[if_neg h,List.find?_cons_of_neg (by rw[decide_eq_true_eq];exact h)]
 |e::r=>by
  have ih:=edO_upEd f lang r
  unfold upEd
  by_cases h1:e.lang=f.lang
  ·rw[if_pos h1]
   unfold edO at ih ⊢
   by_cases h:f.lang=lang
   ·rw[if_pos h,List.find?_cons_of_pos (by rw[decide_eq_true_eq];exact h1.trans h),List.find?_cons_of_pos (by simpa using h1.trans h)]
   ·rw[if_neg h,List.find?_cons_of_neg (by rw[decide_eq_true_eq];exact fun q=>h (h1.symm.trans q)),List.find?_cons_of_neg (by simpa using fun q=>h (h1.symm.trans q))]
  ·rw[if_neg h1]
   unfold edO at ih ⊢
   by_cases h2:e.lang=lang
   ·rw[List.find?_cons_of_pos (by simpa using h2),List.find?_cons_of_pos (by simpa using h2),if_neg (fun q=>h1 (h2.trans q.symm))]
   ·rw[List.find?_cons_of_neg (by simpa using h2),List.find?_cons_of_neg (by simpa using h2)]
    exact ih
theorem edO_touch (f:Fct) (lang:ByteArray):∀ l:List EdG,edO (touchEd f l) lang=if f.lang=lang then (edO l lang).map (fun e=>{ e with changed:=f.n }) else edO l lang
 |[]=>by unfold touchEd edO;simp
 |e::r=>by
  have ih:=edO_touch f lang r
  unfold touchEd edO at ih ⊢
  rw[List.map_cons]
  have hl:(if e.lang=f.lang then { e with changed:=f.n } else e).lang=e.lang:=by split <;> rfl
  by_cases h2:e.lang=lang
  ·rw[List.find?_cons_of_pos (by rw[hl];simpa using h2),List.find?_cons_of_pos (by simpa using h2)]
   by_cases h:f.lang=lang
   ·rw[if_pos h,if_pos (h2.trans h.symm)];rfl
   ·rw[if_neg h,if_neg (fun q=>h (q.symm.trans h2))]
  ·rw[List.find?_cons_of_neg (by rw[hl];simpa using h2),List.find?_cons_of_neg (by simpa using h2)]
   exact ih
theorem stepG_eds (g:StG) (f:Fct):(stepG g f).eds=if f.kind=1 then upEd f g.eds else if f.kind=4 then touchEd f g.eds else g.eds:=by
 unfold stepG
 by_cases h1:f.kind=1
 ·rw[if_pos h1,if_pos h1]
 rw[if_neg h1,if_neg h1]
 by_cases h3:f.kind=3
 ·rw[if_pos h3,if_neg (by omega)]
  split <;> rfl
 rw[if_neg h3]
 by_cases h4:f.kind=4
 ·rw[if_pos h4,if_pos h4]
 rw[if_neg h4,if_neg h4]
 split
 ·rfl
 split <;> rfl
theorem edO_step (g:StG) (f:Fct) (lang:ByteArray):edO (stepG g f).eds lang=stepE lang (edO g.eds lang) f:=by
 rw[stepG_eds]
 unfold stepE
 by_cases h1:f.kind=1
 ·rw[if_pos h1,edO_upEd]
  by_cases h:f.lang=lang
  ·rw[if_pos h,if_pos h,if_pos h1]
  ·rw[if_neg h,if_neg h]
 rw[if_neg h1]
 by_cases h4:f.kind=4
 ·rw[if_pos h4,edO_touch]
  by_cases h:f.lang=lang
  ·rw[if_pos h,if_pos h,if_neg h1,if_pos h4]
  ·rw[if_neg h,if_neg h]
 rw[if_neg h4]
 by_cases h:f.lang=lang
 ·rw[if_pos h,if_neg h1,if_neg h4]
 ·rw[if_neg h]
theorem edO_some {l:List EdG} {lang:ByteArray} (h:lang∈l.map EdG.lang):edO l lang=some (edAt l lang):=by
 unfold edAt edO
 cases hf:l.find? (fun e=>decide (e.lang=lang)) with
 |none=>
  obtain⟨e,he,hl⟩:=List.mem_map.1 h
  exact absurd hl (by simpa using List.find?_eq_none.1 hf e he)
 |some e=>rfl
theorem edO_fold (lang:ByteArray):∀ (l:List Fct) (g:StG),edO (l.foldl stepG g).eds lang=l.foldl (stepE lang) (edO g.eds lang)
 |[],_=>rfl
 |f::l,g=>by rw[List.foldl_cons,List.foldl_cons,edO_fold lang l,edO_step]
def revsO:Option EdG->List Fct
 |none=>[]
 |some e=>e.revs
theorem stepE_not {lang:ByteArray} {f:Fct} (h:f.lang≠lang\/(f.kind≠1/\f.kind≠4)) (o:Option EdG):stepE lang o f=o:=by
 unfold stepE
 by_cases h1:f.lang=lang
 ·rw[if_pos h1]
  rcases h with h | h
  ·exact absurd h1 h
  ·rw[if_neg h.1,if_neg h.2]
 ·rw[if_neg h1]
theorem stepE_corr {lang:ByteArray} {f:Fct} (h:f.lang=lang) (hk:f.kind=4) (o:Option EdG):stepE lang o f=o.map (fun e=>{ e with changed:=f.n }):=by
 unfold stepE
 rw[if_pos h,if_neg (by omega),if_pos hk]
theorem stepE_rev {lang:ByteArray} {f:Fct} (h:f.lang=lang) (hk:f.kind=1) (o:Option EdG):stepE lang o f=some (match o with | some e=>reEd f e | none=>newEd f):=by
 unfold stepE
 rw[if_pos h,if_pos hk]
 all_goals (cases o <;> rfl)
structure EdI (lang:ByteArray) (o:Option EdG) (revs:List Fct) (rev:Int) (title:ByteArray) (blocks:List Blk) (changed:Int):Prop where
 rv:revs=revsO o
 blks:blocks=blksOf revs
 val:∀ e,o=some e->e.lang=lang/\rev=e.rev/\title=e.title/\changed=e.changed/\e.revs≠[]
 non:o=none->revs=[]
theorem EdI.start (lang:ByteArray):EdI lang none [] 0 str0 [] 0:=⟨rfl,rfl,(fun e h=>by cases h),fun _=>rfl⟩
section
variable {lang:ByteArray} {o:Option EdG} {revs:List Fct} {rev:Int} {title:ByteArray} {blocks:List Blk} {changed:Int} {f:Fct}
theorem EdI.skip (h:EdI lang o revs rev title blocks changed) (hn:f.lang≠lang\/(f.kind≠1/\f.kind≠4)):EdI lang (stepE lang o f) revs rev title blocks changed:=by
 rw[stepE_not hn];exact h
theorem EdI.corr (h:EdI lang o revs rev title blocks changed) (hl:f.lang=lang) (hk:f.kind=4):EdI lang (stepE lang o f) revs rev title blocks f.n:=by
 rw[stepE_corr hl hk]
 cases o with
 |none=>exact⟨h.rv,h.blks,(fun e q=>by cases q),fun _=>h.non rfl⟩
 |some e=>
  obtain⟨v1,v2,v3,v4,v5⟩:=h.val e rfl
  refine⟨h.rv,h.blks,fun e' q=>?_,fun q=>by cases q⟩
  injection q with q
  subst q
  exact⟨v1,v2,v3,rfl,v5⟩
theorem EdI.rev_ (h:EdI lang o revs rev title blocks changed) (hl:f.lang=lang) (hk:f.kind=1):EdI lang (stepE lang o f) (revs++[f]) (if revs=[]\/rev<f.rev then f.rev else rev) f.title (revised revs blocks f) f.n:=by
 rw[stepE_rev hl hk]
 have hb:revised revs blocks f=blksOf (revs++[f]):=by rw[blksOf_snoc,h.blks]
 cases o with
 |none=>
  have hr:=h.non rfl
  subst hr
  refine⟨rfl,hb,fun e q=>?_,fun q=>by cases q⟩
  injection q with q
  subst q
  exact⟨hl,by rw[if_pos (.inl rfl)];rfl,rfl,rfl,by simp[newEd]⟩
 |some e=>
  obtain⟨v1,v2,v3,v4,v5⟩:=h.val e rfl
  have hr:revs=e.revs:=h.rv
  refine⟨by rw[hr];rfl,hb,fun e' q=>?_,fun q=>by cases q⟩
  injection q with q
  subst q
  refine⟨v1,?_,rfl,rfl,by simp[reEd]⟩
  show _=max e.rev f.rev
  by_cases q:rev<f.rev
  ·rw[if_pos (.inr q)];omega
  ·rw[if_neg (fun x=>by
    rcases x with x | x
    ·exact v5 (hr ▸ x)
    ·exact q x)];omega
theorem EdI.fin {e:EdG} (h:EdI lang (some e) revs rev title blocks changed) (corr:List Corr):edFin corr e=⟨lang,rev,title,(corrLang lang corr).foldl applyF blocks,changed⟩:=by
 obtain⟨v1,v2,v3,v4,v5⟩:=h.val e rfl
 unfold edFin
 have hr:revs=e.revs:=h.rv
 rw[v1,<-v2,<-v3,<-v4,h.blks,hr]
end
def posF {α:Type} (p:α->Bool):List α->Nat
 |[]=>0
 |x::r=>if p x then posF p r+1 else 0
theorem posF_le {α:Type} (p:α->Bool):∀ l:List α,posF p l<=l.length
 |[]=>Nat.le_refl _
 |x::r=>by
  unfold posF
  split
  ·have:=posF_le p r;rw[List.length_cons];omega
  ·exact Nat.zero_le _
theorem posF_below {α:Type} (p:α->Bool):∀ (l:List α) (j:Nat) (h:j<l.length),j<posF p l->p l[j]=true
 |[],_,h,_=>absurd h (by simp)
 |x::r,0,_,hj=>by
  unfold posF at hj
  split at hj
  ·assumption
  ·omega
 |x::r,j+1,h,hj=>by
  unfold posF at hj
  split at hj
  ·exact posF_below p r j (by simpa using h) (by omega)
  ·omega
theorem posF_at {α:Type} (p:α->Bool):∀ (l:List α) (h:posF p l<l.length),p l[posF p l]=false
 |[],h=>absurd h (by simp)
 |x::r,h=>by
  by_cases hx:p x=true
  ·have e:posF p (x::r)=posF p r+1:=by
    conv=>lhs;unfold posF
    rw[if_pos hx]
   have h2:posF p r<r.length:=by rw[e,List.length_cons]at h;omega
   have:=posF_at p r h2
   simp only[e,List.getElem_cons_succ]
   exact this
  ·have e:posF p (x::r)=0:=by
    conv=>lhs;unfold posF
    rw[if_neg hx]
   simp only[e,List.getElem_cons_zero]
   simpa using hx
theorem posF_eq {α:Type} {p:α->Bool} {l:List α} {k:Nat} (hk:k<=l.length) (h1:∀ j (h:j<l.length),j<k->p l[j]=true) (h2:∀ h:k<l.length,p l[k]=false):posF p l=k:=by
 rcases Nat.lt_trichotomy (posF p l) k with q | q | q
 ·have:=posF_at p l (by omega)
  rw[h1 _ (by omega) q]at this;cases this
 ·exact q
 ·have hkl:k<l.length:=by have:=posF_le p l;omega
  have:=posF_below p l k hkl q
  rw[h2 hkl]at this;cases this
def putAt {α:Type} (p:α->Bool) (l:List α) (y:α):List α:=l.take (posF p l)++y::l.drop (posF p l)
theorem putAt_len {α:Type} (p:α->Bool) (l:List α) (y:α):(putAt p l y).length=l.length+1:=by
 have:=posF_le p l
 unfold putAt
 rw[List.length_append,List.length_take,List.length_cons,List.length_drop];omega
theorem putAt_mem {α:Type} (p:α->Bool) (l:List α) (y x:α):x∈putAt p l y↔x=y\/x∈l:=by
 unfold putAt
 rw[List.mem_append,List.mem_cons]
 conv=>rhs;rw[<-List.take_append_drop (posF p l) l,List.mem_append]
 constructor
 ·rintro (h | h | h)
  ·exact .inr (.inl h)
  ·exact .inl h
  ·exact .inr (.inr h)
 ·rintro (h | h | h)
  ·exact .inr (.inl h)
  ·exact .inl h
  ·exact .inr (.inr h)
theorem putAt_map {α β:Type} (k:α->β) (p:β->Bool) (l:List α) (y:α):(putAt (fun x=>p (k x)) l y).map k=putAt p (l.map k) (k y):=by
 have e:∀ l:List α,posF (fun x=>p (k x)) l=posF p (l.map k):=fun l=>by
  induction l with
  |nil=>rfl
  |cons x r ih=>
   rw[List.map_cons]
   conv=>lhs;unfold posF
   conv=>rhs;unfold posF
   rw[ih]
 unfold putAt
 rw[List.map_append,List.map_cons,List.map_take,List.map_drop,e]
theorem putAt_sorted {α:Type} {r:α->α->Prop} {p:α->Bool} {y:α} (tr:∀ a b c,r a b->r b c->r a c) (h1:∀ x,p x=true->r x y) {l:List α} (h2:∀ x∈l,p x=false->r y x) (hl:l.Pairwise r):(putAt p l y).Pairwise r:=by
 unfold putAt
 have hl2:=hl
 rw[<-List.take_append_drop (posF p l) l]at hl2
 obtain⟨q1,q2,q3⟩:=List.pairwise_append.1 hl2
 have low:∀ x∈l.take (posF p l),r x y:=fun x hx=>by
  obtain⟨j,hj,rfl⟩:=List.getElem_of_mem hx
  rw[List.length_take]at hj
  rw[List.getElem_take]
  exact h1 _ (posF_below p l j (by omega) (by omega))
 have high:∀ x∈l.drop (posF p l),r y x:=fun x hx=>by
  obtain⟨j,hj,rfl⟩:=List.getElem_of_mem hx
  rw[List.length_drop]at hj
  rw[List.getElem_drop]
  have h0:posF p l<l.length:=by omega
  have hy:=h2 _ (List.getElem_mem h0) (posF_at p l h0)
  by_cases hj0:j=0
  ·subst hj0;exact hy
  ·exact tr _ _ _ hy (List.pairwise_iff_getElem.1 hl _ _ h0 (by omega) (by omega))
 refine List.pairwise_append.2 ⟨q1,List.pairwise_cons.2 ⟨high,q2⟩,fun a ha b hb=>?_⟩
 rcases List.mem_cons.1 hb with rfl | hb
 ·exact low a ha
 ·exact q3 a ha b hb
def langIns (l:List ByteArray) (y:ByteArray):List ByteArray:=if posF (fun x=>Op.bytesLess x.toList y.toList) l<l.length/\l[posF (fun x=>Op.bytesLess x.toList y.toList) l]?=some y then l else putAt (fun x=>Op.bytesLess x.toList y.toList) l y
theorem langIns_is (l:List ByteArray) (y:ByteArray) (hl:l.Pairwise ltB):(langIns l y).Pairwise ltB/\∀ x,x∈langIns l y↔x=y\/x∈l:=by
 unfold langIns
 split
 ·next h=>
  refine⟨hl,fun x=>⟨.inr,fun q=>?_⟩⟩
  rcases q with rfl | q
  ·exact List.mem_of_getElem? h.2
  ·exact q
 ·next h=>
  have hne:∀ x∈l,Op.bytesLess x.toList y.toList=false->x≠y:=fun x hx hf e=>by
   subst e
   obtain⟨j,hj,rfl⟩:=List.getElem_of_mem hx
   refine h ?_
   have:posF (fun z=>Op.bytesLess z.toList l[j].toList) l=j:=posF_eq (by omega) (fun i hi hij=>List.pairwise_iff_getElem.1 hl i j hi hj hij) (fun _=>hf)
   rw[this]
   exact⟨hj,List.getElem?_eq_getElem hj⟩
  refine⟨putAt_sorted (r:=ltB) (p:=fun x=>Op.bytesLess x.toList y.toList) (fun a b c=>ltB_trans) (fun x hx=>hx) (fun x hx hf=>?_) hl,fun x=>putAt_mem _ _ _ _⟩
  rcases ltB_total (hne x hx hf) with q | q
  ·unfold ltB at q;rw[hf]at q;cases q
  ·exact q
def withGo (t:TplF):Bool->List TplF->List TplF
 |put,[]=>if put then [] else [t]
 |put,x::r=>(if !put && !Op.bytesLess x.name.toList t.name.toList then [t] else [])++(if x.name=t.name then [] else [x])++withGo t (put || !Op.bytesLess x.name.toList t.name.toList) r
theorem withGo_true (t:TplF):∀ l:List TplF,withGo t true l=l.filter fun x=>!decide (x.name=t.name)
 |[]=>rfl
 |x::r=>by
  unfold withGo
  rw[Bool.true_or,withGo_true t r]
  by_cases h:x.name=t.name
  ·rw[if_pos h,List.filter_cons_of_neg (by simp[h])];rfl
  ·rw[if_neg h,List.filter_cons_of_pos (by simp[h])];rfl
theorem withGo_mem (t:TplF):∀ (l:List TplF) (y:TplF),y∈withGo t false l↔y=t\/(y∈l/\y.name≠t.name)
 |[],y=>by unfold withGo;simp
 |x::r,y=>by
  unfold withGo
  rw[Bool.not_false,Bool.true_and,Bool.false_or]
  cases hb:Op.bytesLess x.name.toList t.name.toList with
  |true=>
   rw[Bool.not_true,if_neg (by simp),List.nil_append,List.mem_append,withGo_mem t r]
   have hne:x.name≠t.name:=fun e=>ltB_irr t.name (by unfold ltB;rw[<-e]at hb ⊢;exact hb)
   rw[if_neg hne,List.mem_singleton,List.mem_cons]
   constructor
   ·rintro (rfl | h | ⟨h1,h2⟩)
    ·exact .inr ⟨.inl rfl,hne⟩
    ·exact .inl h
    ·exact .inr ⟨.inr h1,h2⟩
   ·rintro (h | ⟨h1 | h1,h2⟩)
    ·exact .inr (.inl h)
    ·exact .inl h1
    ·exact .inr (.inr ⟨h1,h2⟩)
  |false=>
   rw[Bool.not_false,if_pos rfl,withGo_true]
   rw[List.mem_append,List.mem_append,List.mem_singleton,List.mem_filter,List.mem_cons]
   constructor
   ·rintro ((h | h) | ⟨h1,h2⟩)
    ·exact .inl h
    ·split at h
     ·cases h
     ·next q=>rw[List.mem_singleton.1 h];exact .inr ⟨.inl rfl,q⟩
    ·exact .inr ⟨.inr h1,by simpa using h2⟩
   ·rintro (h | ⟨h1 | h1,h2⟩)
    ·exact .inl (.inl h)
    ·subst h1;exact .inl (.inr (by rw[if_neg h2];exact List.mem_singleton.2 rfl))
    ·exact .inr ⟨h1,by simpa using h2⟩
theorem withGo_sorted (t:TplF):∀ (l:List TplF),(l.map TplF.name).Pairwise ltB->((withGo t false l).map TplF.name).Pairwise ltB
 |[],_=>by unfold withGo;simp
 |x::r,h=>by
  rw[List.map_cons]at h
  obtain⟨h1,h2⟩:=List.pairwise_cons.1 h
  have ih:=withGo_sorted t r h2
  unfold withGo
  rw[Bool.not_false,Bool.true_and,Bool.false_or]
  cases hb:Op.bytesLess x.name.toList t.name.toList with
  |true=>
   have hne:x.name≠t.name:=fun e=>ltB_irr t.name (by unfold ltB;rw[<-e]at hb ⊢;exact hb)
   rw[Bool.not_true,if_neg (by simp),List.nil_append,if_neg hne,List.map_append,List.map_singleton,List.singleton_append]
   refine List.pairwise_cons.2 ⟨fun y hy=>?_,ih⟩
   obtain⟨z,hz,rfl⟩:=List.mem_map.1 hy
   rcases (withGo_mem t r z).1 hz with rfl | ⟨q,_⟩
   ·exact hb
   ·exact h1 _ (List.mem_map_of_mem q)
  |false=>
   rw[Bool.not_false,if_pos rfl,withGo_true,List.map_append,List.map_append,List.map_singleton]
   have hx:x.name≠t.name->ltB t.name x.name:=fun hne=>by
    rcases ltB_total hne with q | q
    ·unfold ltB at q;rw[hb]at q;cases q
    ·exact q
   have hr:∀ y∈r,ltB t.name y.name:=fun y hy=>by
    have h3:=h1 _ (List.mem_map_of_mem hy)
    by_cases hne:x.name=t.name
    ·rw[<-hne];exact h3
    ·exact ltB_trans (hx hne) h3
   have hf:((r.filter fun x=>!decide (x.name=t.name)).map TplF.name).Pairwise ltB:=List.Pairwise.sublist (List.Sublist.map _ List.filter_sublist) h2
   have hfr:∀ y∈(r.filter fun x=>!decide (x.name=t.name)).map TplF.name,y∈r.map TplF.name:=fun y hy=>by
    obtain⟨z,hz,rfl⟩:=List.mem_map.1 hy
    exact List.mem_map_of_mem (List.mem_filter.1 hz).1
   by_cases hne:x.name=t.name
   ·rw[if_pos hne,List.map_nil,List.append_nil,List.singleton_append]
    refine List.pairwise_cons.2 ⟨fun y hy=>?_,hf⟩
    rw[<-hne];exact h1 y (hfr y hy)
   ·rw[if_neg hne,List.map_singleton,List.append_assoc,List.singleton_append,List.singleton_append]
    refine List.pairwise_cons.2 ⟨fun y hy=>?_,List.pairwise_cons.2 ⟨fun y hy=>h1 y (hfr y hy),hf⟩⟩
    rcases List.mem_cons.1 hy with rfl | hy
    ·exact hx hne
    ·obtain⟨z,hz,rfl⟩:=List.mem_map.1 hy
     exact hr z (List.mem_filter.1 hz).1
structure RefI (l:List Fct) (p:List Fct) (s:StF):Prop where
 ids:(s.stories.map StyF.id).Pairwise (·<·)
 mem:∀ id,id∈s.stories.map StyF.id↔∃ f∈p,f.kind=3/\f.story=id
 val:∀ x∈s.stories,StyIs x.id (foldG l x.id) x
 names:(s.tpls.map TplF.name).Pairwise ltB
 tpl:∀ t,t∈s.tpls↔lastTpl p t.name=some t.text
theorem RefI.start (l:List Fct):RefI l [] ⟨[],[]⟩:=⟨List.Pairwise.nil,(fun id=>by simp),(fun x h=>by cases h),List.Pairwise.nil,fun t=>by simp[lastTpl]⟩
theorem RefI.fin {l:List Fct} {s:StF} (h:RefI l l s):FoldIs l s:=⟨h.ids,fun id=>by rw[h.mem,foldG_pub_some],h.val,h.names,h.tpl⟩
def styIns (s:StF) (x:StyF):StF:={ s with stories:=putAt (fun y=>decide (y.id<x.id)) s.stories x }
def tplIns (s:StF) (t:TplF):StF:={ s with tpls:=withGo t false s.tpls }
theorem findS_mem (s:StF) (id:Int):(findS s id).isSome=true↔id∈s.stories.map StyF.id:=by
 unfold findS
 rw[List.find?_isSome,List.mem_map]
 simp
theorem RefI.known {l p:List Fct} {s:StF} (h:RefI l p s) {f:Fct} (hf:f.kind≠7) (hk:f.kind≠3\/(findS s f.story).isSome=true):RefI l (p++[f]) s:=by
 refine⟨h.ids,fun id=>?_,h.val,h.names,fun t=>by rw[lastTpl_snoc,if_neg (fun q=>hf q.1)];exact h.tpl t⟩
 rw[h.mem]
 constructor
 ·rintro ⟨x,hx,h1,h2⟩;exact⟨x,List.mem_append_left _ hx,h1,h2⟩
 ·rintro ⟨x,hx,h1,h2⟩
  rcases List.mem_append.1 hx with hx | hx
  ·exact⟨x,hx,h1,h2⟩
  ·obtain rfl:=List.mem_singleton.1 hx
   rcases hk with hk | hk
   ·exact absurd h1 hk
   ·rw[findS_mem,h.mem]at hk
    rw[<-h2];exact hk
theorem RefI.pub {l p:List Fct} {s:StF} (h:RefI l p s) {f:Fct} (hk:f.kind=3) (hn:(findS s f.story).isSome=false) {x:StyF} (hx:x.id=f.story) (hv:StyIs f.story (foldG l f.story) x):RefI l (p++[f]) (styIns s x):=by
 have hni:f.story∉s.stories.map StyF.id:=fun q=>by rw[<-findS_mem,hn]at q;cases q
 refine⟨?_,fun id=>?_,fun y hy=>?_,h.names,fun t=>by rw[lastTpl_snoc,if_neg (fun q=>by omega)];exact h.tpl t⟩
 ·show ((putAt (fun y=>decide (y.id<x.id)) s.stories x).map StyF.id).Pairwise _
  rw[putAt_map StyF.id (fun i=>decide (i<x.id))]
  refine putAt_sorted (fun a b c h1 h2=>by omega) (fun i hi=>by simpa using hi) (fun i hi hf=>?_) h.ids
  have:i≠x.id:=fun e=>hni (by rw[<-hx,<-e];exact hi)
  simp only[decide_eq_false_iff_not]at hf
  omega
 ·show id∈(putAt (fun y=>decide (y.id<x.id)) s.stories x).map StyF.id↔_
  rw[putAt_map StyF.id (fun i=>decide (i<x.id)),putAt_mem,h.mem]
  constructor
  ·rintro (rfl | ⟨y,hy,h1,h2⟩)
   ·exact⟨f,List.mem_append_right _ (List.mem_singleton.2 rfl),hk,hx.symm⟩
   ·exact⟨y,List.mem_append_left _ hy,h1,h2⟩
  ·rintro ⟨y,hy,h1,h2⟩
   rcases List.mem_append.1 hy with hy | hy
   ·exact .inr ⟨y,hy,h1,h2⟩
   ·obtain rfl:=List.mem_singleton.1 hy
    exact .inl (by rw[hx,h2])
 ·rcases (putAt_mem _ _ _ _).1 hy with rfl | hy
  ·rw[hx];exact hv
  ·exact h.val y hy
theorem RefI.tpl_ {l p:List Fct} {s:StF} (h:RefI l p s) {f:Fct} (hk:f.kind=7):RefI l (p++[f]) (tplIns s ⟨f.name,f.text⟩):=by
 refine⟨h.ids,fun id=>?_,h.val,withGo_sorted _ _ h.names,fun t=>?_⟩
 ·show id∈s.stories.map StyF.id↔_
  rw[h.mem]
  constructor
  ·rintro ⟨x,hx,h1,h2⟩;exact⟨x,List.mem_append_left _ hx,h1,h2⟩
  ·rintro ⟨x,hx,h1,h2⟩
   rcases List.mem_append.1 hx with hx | hx
   ·exact⟨x,hx,h1,h2⟩
   ·obtain rfl:=List.mem_singleton.1 hx
    omega
 ·show t∈withGo ⟨f.name,f.text⟩ false s.tpls↔_
  rw[withGo_mem,lastTpl_snoc,h.tpl]
  by_cases hn:f.name=t.name
  ·rw[if_pos ⟨hk,hn⟩]
   constructor
   ·rintro (rfl | ⟨_,q⟩)
    ·rfl
    ·exact absurd hn.symm q
   ·intro e
    injection e with e
    left
    cases t
    simp only at hn e
    rw[hn,e]
  ·rw[if_neg (fun q=>hn q.2)]
   constructor
   ·rintro (rfl | ⟨q,_⟩)
    ·exact absurd rfl hn
    ·exact q
   ·intro e
    exact .inr ⟨e,fun q=>hn q.symm⟩
end Go.Proofs.YtdkkhmjlamkgdaaGreatDoor.Mg
namespace Go.Proofs.YtdkkhmjlamkgdaaGreatDoor
open Go.RowKit Mg Go.Shelf Go.Maps
theorem tpl_one (t:TplF):OneC (tplCells t):=by intro u hu;simp at hu;rcases hu with rfl | rfl <;> rfl
theorem str_three (a b:ByteArray):(Op.bytesLess a.toList b.toList=true/\Op.bytesLess b.toList a.toList=false/\(a.toList == b.toList)=false/\a≠b)\/(Op.bytesLess a.toList b.toList=false/\Op.bytesLess b.toList a.toList=false/\(a.toList == b.toList)=true/\a=b)\/(Op.bytesLess a.toList b.toList=false/\Op.bytesLess b.toList a.toList=true/\(a.toList == b.toList)=false/\a≠b):=by
 by_cases h:a=b
 ·subst h
  have:Op.bytesLess a.toList a.toList=false:=by
   cases hb:Op.bytesLess a.toList a.toList with
   |false=>rfl
   |true=>exact absurd hb (ltB_irr a)
  exact .inr (.inl ⟨this,this,by simp,rfl⟩)
 ·have he:(a.toList == b.toList)=false:=(str_dec a b).trans (decide_eq_false h)
  rcases ltB_total h with q | q
  ·refine .inl ⟨q,?_,he,h⟩
   cases hb:Op.bytesLess b.toList a.toList with
   |false=>rfl
   |true=>exact absurd hb (ltB_asym q)
  ·refine .inr (.inr ⟨?_,q,he,h⟩)
   cases hb:Op.bytesLess a.toList b.toList with
   |false=>rfl
   |true=>exact absurd hb (ltB_asym q)
structure WithI (l:List TplF) (t:TplF) (k:Nat) (put:Bool) (acc:List TplF):Prop where
 eq:withGo t false l=acc++withGo t put (l.drop k)
 len:acc.length<=2 * k
theorem WithI.start (l:List TplF) (t:TplF):WithI l t 0 false []:=⟨by rw[List.drop_zero];rfl,Nat.zero_le _⟩
section
variable {l:List TplF} {t:TplF} {k:Nat} {put:Bool} {acc:List TplF}
theorem WithI.next (h:WithI l t k put acc) (hk:k<l.length) (A:List TplF) (put':Bool) (hA:A.length<=2)
 (he:withGo t put (l[k]::l.drop (k+1))=A++withGo t put' (l.drop (k+1))):WithI l t (k+1) put' (acc++A):=by
 refine⟨?_,by rw[List.length_append];have:=h.len;omega⟩
 rw[h.eq,List.drop_eq_getElem_cons hk,he,List.append_assoc]
theorem with_put (x:TplF) (r:List TplF):withGo t true (x::r)=(if x.name=t.name then [] else [x])++withGo t true r:=by
 conv=>lhs;unfold withGo
 rfl
theorem with_less (x:TplF) (r:List TplF) (h:Op.bytesLess x.name.toList t.name.toList=true) (hn:x.name≠t.name):withGo t false (x::r)=[x]++withGo t false r:=by
 conv=>lhs;unfold withGo
 rw[h,if_neg hn];rfl
theorem with_here (x:TplF) (r:List TplF) (h:Op.bytesLess x.name.toList t.name.toList=false):withGo t false (x::r)=(t::(if x.name=t.name then [] else [x]))++withGo t true r:=by
 conv=>lhs;unfold withGo
 rw[h];rfl
end
set_option maxRecDepth 100000 in
set_option maxHeartbeats 4000000 in
theorem with_any {mem:Addr->Option Value} {v:Value} {l:List TplF} {t:TplF} (h:TplsM mem v l) (hl:l.length<=40000) (w:World) (hs:Sees mem w):
 Calls Tryz.prog 36 #[v,.agg (tplCells t)] w (fun e w'=>∃ v',e=.returned v'/\GRow w' w.heap.size 52 2 v' ((withGo t false l).map tplCells)/\Below w.heap.size w w'):=by
 obtain⟨ao,cap,b,o,rfl,hcap,hm,hao,hat⟩:=SlM.open_ h
 have HA:=Lib.hid hao
 have HAT:=Lib.hid hat
 have HS:=Lib.hid hs
 obtain⟨W1,hW1⟩:∃ W1,W1=w.alloc (.cells (tplCells t) 52):=⟨_,rfl⟩
 have hb1:Below w.heap.size w W1:=by rw[hW1];exact bel1 w _
 have HX1:Hid (W1.heap[w.heap.size]?=some (.cells (tplCells t) 52 (0,0))):=Lib.hid (by rw[hW1];exact World.alloc_heap_new _ _)
 have HB1:=Lib.hid hb1
 have HW1:=Lib.hid hW1
 have HI0:=Lib.hid (WithI.start l t)
 clear h hs hao hat hb1 hW1
 go_enter Tryz.func36,Tryz.ntmps36
 go_upto_region 1 with fail
 rw[<-HW1.out]
 clear HW1
 go_wp2_with fail
 go_loopw [7,6,5] (fun i p r wr=>∃ (k:Nat) (put:Bool) (acc:List TplF) (ra:Option Addr) (rc:Nat),k<=l.length/\i=.int .i64 k/\p=.bool put/\r=.slice ra (acc.map tplCells).length rc/\Hid (WithI l t k put acc)/\Hid (GRow wr W1.heap.size 52 2 (.slice ra (acc.map tplCells).length rc) (acc.map tplCells))/\Hid (Below W1.heap.size W1 wr)) (fun i _ _ _=>l.length - (intOf i).toNat)
 case atStart=>exact⟨0,false,[],none,0,Nat.zero_le _,rfl,rfl,rfl,HI0,Lib.hid (GRow.nil _ _ _ _),Lib.hid (Below.refl _ _)⟩
 case round=>
  obtain⟨k,put,acc,ra,rc,hk,rfl,rfl,rfl,HI,HR,HB⟩:=hrel
  have HX:=Lib.hid ((HB.out.block _ (qh HX1.out)).trans HX1.out)
  have hz:=HB.out.size
  by_cases hlt:k<l.length
  ·obtain rfl:=HA.out (by omega)
   have HTA:=Lib.hid (HAT.out k hlt).2
   have HC:=Lib.hid (cells_see (sz:=2) (HS.out.bel (HB1.out.trans (HB.out.mono HB1.out.size))) HTA.out rfl)
   have HNX:=Lib.hid (fun A put' hA he=>HI.out.next hlt A put' hA he)
   have hal:acc.length<=2 * k:=HI.out.len
   generalize l.drop (k+1)=R at *
   generalize l[k]=x at *
   have hk0:(0:Int)<=k:=by omega
   have hk1:(k:Int)<l.length:=by omega
   generalize hN:acc.map tplCells=N at *
   have hNl:N.length=acc.length:=by rw[<-hN,List.length_map]
   have HXwr:=HX
   have HBwr:=HB
   have HRwr:=HR
   have HCwr:=HC
   clear HX HB HR HC HI
   cases put with
   |true=>
    by_cases hn:x.name=t.name
    ·have HNN:Hid (WithI l t (k+1) true acc):=Lib.hid (by have:=HNX.out [] true (by simp) (by rw[with_put,if_pos hn]);rwa [List.append_nil]at this)
     have he:(x.name.toList == t.name.toList)=true:=(str_dec _ _).trans (decide_eq_true hn)
     clear hn
     have c0:wr.cell? ⟨b,o+k * 2,none⟩=some (.string x.name):=HCwr.out 0 (by omega)
     have t0:wr.cell? ⟨w.heap.size,0,none⟩=some (.string t.name):=rowcell HXwr.out
     go_upto_region 6 with fail
     go_quiet (fail)
     clear c0 t0
     have HBw6:Hid (Below W1.heap.size W1 (wr.drewN nq)):=Lib.hid (below_drewN HBwr.out _)
     have HRw6:Hid (GRow (wr.drewN nq) W1.heap.size 52 2 (.slice ra N.length rc) (N)):=Lib.hid HRwr.out
     have HCw6:Hid (∀ j,j<2->(wr.drewN nq).cell? ⟨b,o+k * 2+j,none⟩=(tplCells x)[j]?):=Lib.hid HCwr.out
     have HXw6:Hid ((wr.drewN nq).heap[w.heap.size]?=some (.cells (tplCells t) 52 (0,0))):=Lib.hid HXwr.out
     generalize wr.drewN nq=w6 at *
     have hzw6:=HBw6.out.size
     have c0:w6.cell? ⟨b,o+k * 2,none⟩=some (.string x.name):=HCw6.out 0 (by omega)
     have t0:w6.cell? ⟨w.heap.size,0,none⟩=some (.string t.name):=rowcell HXw6.out
     go_upto_region 9 with fail
     go_quiet (fail)
     clear c0 t0
     have HBw9:Hid (Below W1.heap.size W1 (w6.drewN nq)):=Lib.hid (below_drewN HBw6.out _)
     have HRw9:Hid (GRow (w6.drewN nq) W1.heap.size 52 2 (.slice ra N.length rc) (N)):=Lib.hid HRw6.out
     have HCw9:Hid (∀ j,j<2->(w6.drewN nq).cell? ⟨b,o+k * 2+j,none⟩=(tplCells x)[j]?):=Lib.hid HCw6.out
     have HXw9:Hid ((w6.drewN nq).heap[w.heap.size]?=some (.cells (tplCells t) 52 (0,0))):=Lib.hid HXw6.out
     generalize w6.drewN nq=w9 at *
     have hzw9:=HBw9.out.size
     go_wp2_with fail
     go_roundw
     case rel=>exact⟨k+1,true,acc,ra,rc,by omega,by go_num,rfl,by simp[hNl],HNN,by rw[hN];simp only[hNl];simpa [hNl] using HRw9,HBw9⟩
     case measure=>(try simp only[intOf]);omega
    ·have HNN:Hid (WithI l t (k+1) true (acc++[x])):=Lib.hid (HNX.out [x] true (by simp) (by rw[with_put,if_neg hn]))
     have he:(x.name.toList == t.name.toList)=false:=(str_dec _ _).trans (decide_eq_false hn)
     clear hn
     have c0:wr.cell? ⟨b,o+k * 2,none⟩=some (.string x.name):=HCwr.out 0 (by omega)
     have t0:wr.cell? ⟨w.heap.size,0,none⟩=some (.string t.name):=rowcell HXwr.out
     go_upto_region 6 with fail
     go_quiet (fail)
     clear c0 t0
     have HBw6:Hid (Below W1.heap.size W1 (wr.drewN nq)):=Lib.hid (below_drewN HBwr.out _)
     have HRw6:Hid (GRow (wr.drewN nq) W1.heap.size 52 2 (.slice ra N.length rc) (N)):=Lib.hid HRwr.out
     have HCw6:Hid (∀ j,j<2->(wr.drewN nq).cell? ⟨b,o+k * 2+j,none⟩=(tplCells x)[j]?):=Lib.hid HCwr.out
     have HXw6:Hid ((wr.drewN nq).heap[w.heap.size]?=some (.cells (tplCells t) 52 (0,0))):=Lib.hid HXwr.out
     generalize wr.drewN nq=w6 at *
     have hzw6:=HBw6.out.size
     have c0:w6.cell? ⟨b,o+k * 2,none⟩=some (.string x.name):=HCw6.out 0 (by omega)
     have t0:w6.cell? ⟨w.heap.size,0,none⟩=some (.string t.name):=rowcell HXw6.out
     go_upto_region 9 with fail
     go_quiet (fail)
     clear c0 t0
     have HBw9:Hid (Below W1.heap.size W1 (w6.drewN nq)):=Lib.hid (below_drewN HBw6.out _)
     have HRw9:Hid (GRow (w6.drewN nq) W1.heap.size 52 2 (.slice ra N.length rc) (N)):=Lib.hid HRw6.out
     have HCw9:Hid (∀ j,j<2->(w6.drewN nq).cell? ⟨b,o+k * 2+j,none⟩=(tplCells x)[j]?):=Lib.hid HCw6.out
     have HXw9:Hid ((w6.drewN nq).heap[w.heap.size]?=some (.cells (tplCells t) 52 (0,0))):=Lib.hid HXw6.out
     generalize w6.drewN nq=w9 at *
     have hzw9:=HBw9.out.size
     go_wp2_with (first
      |((with_reducible refine at_sload 52 _ rfl ?_);go_must (refine wpList_smid rfl S_tpl _ rfl (by simp[Act.eval]) (tplCells x) rfl HCw9.out ?_))
      |((with_reducible refine at_sslice 25 _ _ rfl ?_);go_must (refine wpList_one_slice rfl E_tpl _ rfl (.agg (tplCells x)) rfl (by simp[Act.eval,Act.put]) ?_))
      |((with_reducible refine at_sappend _ _ 25 rfl ?_);go_must (refine wpList_app_one rfl E_tpl _ _ rfl (by simp[Act.eval,Act.put,hNl]) (HRw9.out.alloc _) (tplCells x) rfl (tpl_one _) w9.heap.size 1 (by simp[Act.eval,Act.put]) (World.alloc_heap_new _ _) (by first|omega | (simp only[List.length_append,List.length_singleton];omega)) (by rw[World.size_alloc];omega) ?_);intro va wA hra hga _;obtain⟨rbwA,rcwA,hva⟩:=hra.shape;subst hva;have hbA:Below w9.heap.size w9 (w9.alloc (.cells (tplCells x) 52)):=bel1 _ _;have HBwA:=Lib.hid ((HBw9.out.trans (hbA.mono HBw9.out.size)).grown hga (by rw[World.size_alloc];omega) (fun j hj=>(HRw9.out.ge j hj).1));have HRwA:=Lib.hid hra;have HGwA:=Lib.hid hga;clear hra hga hbA))
     have hMM:(acc++[x]).map tplCells=N++[tplCells x]:=by rw[List.map_append,hN];rfl
     rw[<-hMM]at HRwA
     skip
     go_roundw
     case rel=>exact⟨k+1,true,acc++[x],_,_,by omega,by go_num,rfl,by simp,HNN,HRwA,HBwA⟩
     case measure=>(try simp only[intOf]);omega
   |false=>
    rcases str_three x.name t.name with ⟨l1,l2,l3,l4⟩ | ⟨l1,l2,l3,l4⟩ | ⟨l1,l2,l3,l4⟩
    ·have HNN:Hid (WithI l t (k+1) false (acc++[x])):=Lib.hid (HNX.out [x] false (by simp) (with_less x _ l1 l4))
     clear l4
     have c0:wr.cell? ⟨b,o+k * 2,none⟩=some (.string x.name):=HCwr.out 0 (by omega)
     have t0:wr.cell? ⟨w.heap.size,0,none⟩=some (.string t.name):=rowcell HXwr.out
     go_upto_region 6 with fail
     go_quiet (fail)
     clear c0 t0
     have HBw6:Hid (Below W1.heap.size W1 (wr.drewN nq)):=Lib.hid (below_drewN HBwr.out _)
     have HRw6:Hid (GRow (wr.drewN nq) W1.heap.size 52 2 (.slice ra N.length rc) (N)):=Lib.hid HRwr.out
     have HCw6:Hid (∀ j,j<2->(wr.drewN nq).cell? ⟨b,o+k * 2+j,none⟩=(tplCells x)[j]?):=Lib.hid HCwr.out
     have HXw6:Hid ((wr.drewN nq).heap[w.heap.size]?=some (.cells (tplCells t) 52 (0,0))):=Lib.hid HXwr.out
     generalize wr.drewN nq=w6 at *
     have hzw6:=HBw6.out.size
     have c0:w6.cell? ⟨b,o+k * 2,none⟩=some (.string x.name):=HCw6.out 0 (by omega)
     have t0:w6.cell? ⟨w.heap.size,0,none⟩=some (.string t.name):=rowcell HXw6.out
     go_upto_region 9 with fail
     go_quiet (fail)
     clear c0 t0
     have HBw9:Hid (Below W1.heap.size W1 (w6.drewN nq)):=Lib.hid (below_drewN HBw6.out _)
     have HRw9:Hid (GRow (w6.drewN nq) W1.heap.size 52 2 (.slice ra N.length rc) (N)):=Lib.hid HRw6.out
     have HCw9:Hid (∀ j,j<2->(w6.drewN nq).cell? ⟨b,o+k * 2+j,none⟩=(tplCells x)[j]?):=Lib.hid HCw6.out
     have HXw9:Hid ((w6.drewN nq).heap[w.heap.size]?=some (.cells (tplCells t) 52 (0,0))):=Lib.hid HXw6.out
     generalize w6.drewN nq=w9 at *
     have hzw9:=HBw9.out.size
     go_wp2_with (first
      |((with_reducible refine at_sload 52 _ rfl ?_);go_must (refine wpList_smid rfl S_tpl _ rfl (by simp[Act.eval]) (tplCells x) rfl HCw9.out ?_))
      |((with_reducible refine at_sslice 25 _ _ rfl ?_);go_must (refine wpList_one_slice rfl E_tpl _ rfl (.agg (tplCells x)) rfl (by simp[Act.eval,Act.put]) ?_))
      |((with_reducible refine at_sappend _ _ 25 rfl ?_);go_must (refine wpList_app_one rfl E_tpl _ _ rfl (by simp[Act.eval,Act.put,hNl]) (HRw9.out.alloc _) (tplCells x) rfl (tpl_one _) w9.heap.size 1 (by simp[Act.eval,Act.put]) (World.alloc_heap_new _ _) (by first|omega | (simp only[List.length_append,List.length_singleton];omega)) (by rw[World.size_alloc];omega) ?_);intro va wA hra hga _;obtain⟨rbwA,rcwA,hva⟩:=hra.shape;subst hva;have hbA:Below w9.heap.size w9 (w9.alloc (.cells (tplCells x) 52)):=bel1 _ _;have HBwA:=Lib.hid ((HBw9.out.trans (hbA.mono HBw9.out.size)).grown hga (by rw[World.size_alloc];omega) (fun j hj=>(HRw9.out.ge j hj).1));have HRwA:=Lib.hid hra;have HGwA:=Lib.hid hga;clear hra hga hbA))
     have hMM:(acc++[x]).map tplCells=N++[tplCells x]:=by rw[List.map_append,hN];rfl
     rw[<-hMM]at HRwA
     skip
     go_roundw
     case rel=>exact⟨k+1,false,acc++[x],_,_,by omega,by go_num,rfl,by simp,HNN,HRwA,HBwA⟩
     case measure=>(try simp only[intOf]);omega
    ·have HNN:Hid (WithI l t (k+1) true (acc++[t])):=Lib.hid (HNX.out [t] true (by simp) (by rw[with_here x _ l1,if_pos l4]))
     clear l4
     have c0:wr.cell? ⟨b,o+k * 2,none⟩=some (.string x.name):=HCwr.out 0 (by omega)
     have t0:wr.cell? ⟨w.heap.size,0,none⟩=some (.string t.name):=rowcell HXwr.out
     go_upto_region 6 with fail
     go_quiet (fail)
     clear c0 t0
     have HBw6:Hid (Below W1.heap.size W1 (wr.drewN nq)):=Lib.hid (below_drewN HBwr.out _)
     have HRw6:Hid (GRow (wr.drewN nq) W1.heap.size 52 2 (.slice ra N.length rc) (N)):=Lib.hid HRwr.out
     have HCw6:Hid (∀ j,j<2->(wr.drewN nq).cell? ⟨b,o+k * 2+j,none⟩=(tplCells x)[j]?):=Lib.hid HCwr.out
     have HXw6:Hid ((wr.drewN nq).heap[w.heap.size]?=some (.cells (tplCells t) 52 (0,0))):=Lib.hid HXwr.out
     generalize wr.drewN nq=w6 at *
     have hzw6:=HBw6.out.size
     go_upto_region 9 with (first
      |((with_reducible refine at_sload 52 _ rfl ?_);go_must (refine wpList_sload rfl S_tpl _ rfl (by simp[Act.eval]) (tplCells t) rfl HXw6.out ?_))
      |((with_reducible refine at_sslice 25 _ _ rfl ?_);go_must (refine wpList_one_slice rfl E_tpl _ rfl (.agg (tplCells t)) rfl (by simp[Act.eval,Act.put]) ?_))
      |((with_reducible refine at_sappend _ _ 25 rfl ?_);go_must (refine wpList_app_one rfl E_tpl _ _ rfl (by simp[Act.eval,Act.put,hNl]) (HRw6.out.alloc _) (tplCells t) rfl (tpl_one _) w6.heap.size 1 (by simp[Act.eval,Act.put]) (World.alloc_heap_new _ _) (by first|omega | (simp only[List.length_append,List.length_singleton];omega)) (by rw[World.size_alloc];omega) ?_);intro va wT hra hga _;obtain⟨rbwT,rcwT,hva⟩:=hra.shape;subst hva;have hbA:Below w6.heap.size w6 (w6.alloc (.cells (tplCells t) 52)):=bel1 _ _;have HBwT:=Lib.hid ((HBw6.out.trans (hbA.mono HBw6.out.size)).grown hga (by rw[World.size_alloc];omega) (fun j hj=>(HRw6.out.ge j hj).1));have HRwT:=Lib.hid hra;have HGwT:=Lib.hid hga;clear hra hga hbA))
     have HCwT:Hid (∀ j,j<2->wT.cell? ⟨b,o+k * 2+j,none⟩=(tplCells x)[j]?):=Lib.hid (cells_see (sz:=2) (HS.out.bel (HB1.out.trans (HBwT.out.mono HB1.out.size))) HTA.out rfl)
     have HXwT:=Lib.hid ((HBwT.out.block _ (qh HX1.out)).trans HX1.out)
     have hzwT:=HBwT.out.size
     have c0:wT.cell? ⟨b,o+k * 2,none⟩=some (.string x.name):=HCwT.out 0 (by omega)
     have t0:wT.cell? ⟨w.heap.size,0,none⟩=some (.string t.name):=rowcell HXwT.out
     try go_upto_region 9 with fail
     go_quiet (fail)
     clear c0 t0
     have HBw9:Hid (Below W1.heap.size W1 (wT.drewN nq)):=Lib.hid (below_drewN HBwT.out _)
     have HRw9:Hid (GRow (wT.drewN nq) W1.heap.size 52 2 (.slice rbwT (N++[tplCells t]).length rcwT) (N++[tplCells t])):=Lib.hid HRwT.out
     have HCw9:Hid (∀ j,j<2->(wT.drewN nq).cell? ⟨b,o+k * 2+j,none⟩=(tplCells x)[j]?):=Lib.hid HCwT.out
     have HXw9:Hid ((wT.drewN nq).heap[w.heap.size]?=some (.cells (tplCells t) 52 (0,0))):=Lib.hid HXwT.out
     generalize wT.drewN nq=w9 at *
     have hzw9:=HBw9.out.size
     have hMM:(acc++[t]).map tplCells=N++[tplCells t]:=by rw[List.map_append,hN];rfl
     rw[<-hMM]at HRw9
     go_wp2_with fail
     go_roundw
     case rel=>exact⟨k+1,true,acc++[t],_,_,by omega,by go_num,rfl,by simp,HNN,HRw9,HBw9⟩
     case measure=>(try simp only[intOf]);omega
    ·have HNN:Hid (WithI l t (k+1) true (acc++[t,x])):=Lib.hid (HNX.out [t,x] true (by simp) (by rw[with_here x _ l1,if_neg l4]))
     clear l4
     have c0:wr.cell? ⟨b,o+k * 2,none⟩=some (.string x.name):=HCwr.out 0 (by omega)
     have t0:wr.cell? ⟨w.heap.size,0,none⟩=some (.string t.name):=rowcell HXwr.out
     go_upto_region 6 with fail
     go_quiet (fail)
     clear c0 t0
     have HBw6:Hid (Below W1.heap.size W1 (wr.drewN nq)):=Lib.hid (below_drewN HBwr.out _)
     have HRw6:Hid (GRow (wr.drewN nq) W1.heap.size 52 2 (.slice ra N.length rc) (N)):=Lib.hid HRwr.out
     have HCw6:Hid (∀ j,j<2->(wr.drewN nq).cell? ⟨b,o+k * 2+j,none⟩=(tplCells x)[j]?):=Lib.hid HCwr.out
     have HXw6:Hid ((wr.drewN nq).heap[w.heap.size]?=some (.cells (tplCells t) 52 (0,0))):=Lib.hid HXwr.out
     generalize wr.drewN nq=w6 at *
     have hzw6:=HBw6.out.size
     go_upto_region 9 with (first
      |((with_reducible refine at_sload 52 _ rfl ?_);go_must (refine wpList_sload rfl S_tpl _ rfl (by simp[Act.eval]) (tplCells t) rfl HXw6.out ?_))
      |((with_reducible refine at_sslice 25 _ _ rfl ?_);go_must (refine wpList_one_slice rfl E_tpl _ rfl (.agg (tplCells t)) rfl (by simp[Act.eval,Act.put]) ?_))
      |((with_reducible refine at_sappend _ _ 25 rfl ?_);go_must (refine wpList_app_one rfl E_tpl _ _ rfl (by simp[Act.eval,Act.put,hNl]) (HRw6.out.alloc _) (tplCells t) rfl (tpl_one _) w6.heap.size 1 (by simp[Act.eval,Act.put]) (World.alloc_heap_new _ _) (by first|omega | (simp only[List.length_append,List.length_singleton];omega)) (by rw[World.size_alloc];omega) ?_);intro va wT hra hga _;obtain⟨rbwT,rcwT,hva⟩:=hra.shape;subst hva;have hbA:Below w6.heap.size w6 (w6.alloc (.cells (tplCells t) 52)):=bel1 _ _;have HBwT:=Lib.hid ((HBw6.out.trans (hbA.mono HBw6.out.size)).grown hga (by rw[World.size_alloc];omega) (fun j hj=>(HRw6.out.ge j hj).1));have HRwT:=Lib.hid hra;have HGwT:=Lib.hid hga;clear hra hga hbA))
     have HCwT:Hid (∀ j,j<2->wT.cell? ⟨b,o+k * 2+j,none⟩=(tplCells x)[j]?):=Lib.hid (cells_see (sz:=2) (HS.out.bel (HB1.out.trans (HBwT.out.mono HB1.out.size))) HTA.out rfl)
     have HXwT:=Lib.hid ((HBwT.out.block _ (qh HX1.out)).trans HX1.out)
     have hzwT:=HBwT.out.size
     have c0:wT.cell? ⟨b,o+k * 2,none⟩=some (.string x.name):=HCwT.out 0 (by omega)
     have t0:wT.cell? ⟨w.heap.size,0,none⟩=some (.string t.name):=rowcell HXwT.out
     try go_upto_region 9 with fail
     go_quiet (fail)
     clear c0 t0
     have HBw9:Hid (Below W1.heap.size W1 (wT.drewN nq)):=Lib.hid (below_drewN HBwT.out _)
     have HRw9:Hid (GRow (wT.drewN nq) W1.heap.size 52 2 (.slice rbwT (N++[tplCells t]).length rcwT) (N++[tplCells t])):=Lib.hid HRwT.out
     have HCw9:Hid (∀ j,j<2->(wT.drewN nq).cell? ⟨b,o+k * 2+j,none⟩=(tplCells x)[j]?):=Lib.hid HCwT.out
     have HXw9:Hid ((wT.drewN nq).heap[w.heap.size]?=some (.cells (tplCells t) 52 (0,0))):=Lib.hid HXwT.out
     generalize wT.drewN nq=w9 at *
     have hzw9:=HBw9.out.size
     go_wp2_with (first
      |((with_reducible refine at_sload 52 _ rfl ?_);go_must (refine wpList_smid rfl S_tpl _ rfl (by simp[Act.eval]) (tplCells x) rfl HCw9.out ?_))
      |((with_reducible refine at_sslice 25 _ _ rfl ?_);go_must (refine wpList_one_slice rfl E_tpl _ rfl (.agg (tplCells x)) rfl (by simp[Act.eval,Act.put]) ?_))
      |((with_reducible refine at_sappend _ _ 25 rfl ?_);go_must (refine wpList_app_one rfl E_tpl _ _ rfl (by simp[Act.eval,Act.put,hNl]) (HRw9.out.alloc _) (tplCells x) rfl (tpl_one _) w9.heap.size 1 (by simp[Act.eval,Act.put]) (World.alloc_heap_new _ _) (by first|omega | (simp only[List.length_append,List.length_singleton];omega)) (by rw[World.size_alloc];omega) ?_);intro va wA hra hga _;obtain⟨rbwA,rcwA,hva⟩:=hra.shape;subst hva;have hbA:Below w9.heap.size w9 (w9.alloc (.cells (tplCells x) 52)):=bel1 _ _;have HBwA:=Lib.hid ((HBw9.out.trans (hbA.mono HBw9.out.size)).grown hga (by rw[World.size_alloc];omega) (fun j hj=>(HRw9.out.ge j hj).1));have HRwA:=Lib.hid hra;have HGwA:=Lib.hid hga;clear hra hga hbA))
     have hMM:(acc++[t,x]).map tplCells=N++[tplCells t]++[tplCells x]:=by rw[List.map_append,hN,List.append_assoc];rfl
     rw[<-hMM]at HRwA
     skip
     go_roundw
     case rel=>exact⟨k+1,true,acc++[t,x],_,_,by omega,by go_num,rfl,by simp,HNN,HRwA,HBwA⟩
     case measure=>(try simp only[intOf]);omega
  ·obtain rfl:k=l.length:=by omega
   have hal:acc.length<=2 * l.length:=HI.out.len
   have HEQ:Hid (withGo t false l=acc++withGo t put []):=Lib.hid (by have:=HI.out.eq;rwa [List.drop_length]at this)
   generalize hN:acc.map tplCells=N at *
   have hNl:N.length=acc.length:=by rw[<-hN,List.length_map]
   have HXwr:=HX
   have HBwr:=HB
   have HRwr:=HR
   have hzwr:=hz
   clear HI HX HB HR
   cases put with
   |true=>
    have HRES:Hid (∃ v',(Value.slice ra acc.length rc)=v'/\GRow wr w.heap.size 52 2 v' ((withGo t false l).map tplCells)/\Below w.heap.size w wr):=Lib.hid ⟨_,rfl,by rw[HEQ.out];show GRow _ _ _ _ _ ((acc++[]).map tplCells);rw[List.append_nil,hN,<-hNl];exact HRwr.out.weaken HB1.out.size,HB1.out.trans (HBwr.out.mono HB1.out.size)⟩
    go_wp2_with fail
    go_ret
    obtain⟨v',e1,e2,e3⟩:=HRES.out
    rw[<-e1]at e2
    first|exact⟨_,rfl,e2,e3⟩ | (rw[<-hNl]at e2;exact⟨_,rfl,e2,e3⟩)
   |false=>
    go_upto_region 13 with (first
     |((with_reducible refine at_sload 52 _ rfl ?_);go_must (refine wpList_sload rfl S_tpl _ rfl (by simp[Act.eval]) (tplCells t) rfl HXwr.out ?_))
     |((with_reducible refine at_sslice 25 _ _ rfl ?_);go_must (refine wpList_one_slice rfl E_tpl _ rfl (.agg (tplCells t)) rfl (by simp[Act.eval,Act.put]) ?_))
     |((with_reducible refine at_sappend _ _ 25 rfl ?_);go_must (refine wpList_app_one rfl E_tpl _ _ rfl (by simp[Act.eval,Act.put,hNl]) (HRwr.out.alloc _) (tplCells t) rfl (tpl_one _) wr.heap.size 1 (by simp[Act.eval,Act.put]) (World.alloc_heap_new _ _) (by first|omega | (simp only[List.length_append,List.length_singleton];omega)) (by rw[World.size_alloc];omega) ?_);intro va wA hra hga _;obtain⟨rbwA,rcwA,hva⟩:=hra.shape;subst hva;have hbA:Below wr.heap.size wr (wr.alloc (.cells (tplCells t) 52)):=bel1 _ _;have HBwA:=Lib.hid ((HBwr.out.trans (hbA.mono HBwr.out.size)).grown hga (by rw[World.size_alloc];omega) (fun j hj=>(HRwr.out.ge j hj).1));have HRwA:=Lib.hid hra;have HGwA:=Lib.hid hga;clear hra hga hbA))
    have HRES:Hid (∃ v',(Value.slice rbwA (acc.length+1) rcwA)=v'/\GRow wA w.heap.size 52 2 v' ((withGo t false l).map tplCells)/\Below w.heap.size w wA):=Lib.hid ⟨_,rfl,by rw[HEQ.out];show GRow _ _ _ _ _ ((acc++[t]).map tplCells);rw[List.map_append,hN,show acc.length+1=(N++[tplCells t]).length by simp[hNl]];exact HRwA.out.weaken HB1.out.size,HB1.out.trans (HBwA.out.mono HB1.out.size)⟩
    go_wp2_with fail
    go_ret
    obtain⟨v',e1,e2,e3⟩:=HRES.out
    rw[<-e1]at e2
    first|exact⟨_,rfl,e2,e3⟩ | (rw[<-hNl]at e2;exact⟨_,rfl,e2,e3⟩)
def restS (a:Option Addr) (cap k:Nat):Option Addr:=if cap=k then a else a.map (·.add k)
theorem StrsM.drop {mem:Addr->Option Value} {ao:Option Addr} {cap:Nat} {l:List ByteArray} (h:StrsM mem (.slice ao l.length cap) l) (k:Nat) (hk:k<=l.length):StrsM mem (.slice (restS ao cap k) (l.drop k).length (cap - k)) (l.drop k):=by
 obtain⟨b,o,⟨h1,ao',cap',e,h2,h3,h4⟩,h5,h6⟩:=h
 injection e with e1 _ e3
 subst e1 e3
 have hl:(l.drop k).length=l.length - k:=List.length_drop
 refine⟨b,o+k,⟨by omega,restS ao cap k,cap - k,rfl,by omega,by omega,fun hp=>?_⟩,fun s hs=>h5 s (List.mem_of_mem_drop hs),fun j hj=>?_⟩
 ·unfold restS
  rw[if_neg (by omega),h4 (by omega)]
  show some ((⟨b,o,none⟩:Addr).add k)=_
  unfold Addr.add
  by_cases h0:k=0
  ·rw[if_pos h0,h0,Nat.add_zero]
  ·rw[if_neg h0]
 ·rw[List.getElem_drop]
  have:=h6 (k+j) (by omega)
  rw[show o+k+j=o+(k+j) by omega]
  exact this
theorem lrow_one {w:World} {B:Nat} (hB:B<=w.heap.size) (y:ByteArray):GRow (w.alloc (.cells #[.string y] 9)) B 9 1 (.slice (some ⟨w.heap.size,0,none⟩) 1 1) [#[.string y]]:=
 ⟨⟨rfl,.inr ⟨w.heap.size,1,#[.string y],rfl,hB,World.alloc_heap_new _ _,Nat.le_refl _,ml 1 (by omega),rfl,rfl⟩⟩,fun c hc=>by
   rw[List.mem_singleton]at hc
   subst hc
   exact⟨rfl,fun u hu=>by simp at hu;subst hu;rfl⟩⟩
theorem strs_sh {mem:Addr->Option Value} {w w':World} {v:Value} {l:List ByteArray} (h:LRow w' w.heap.size v l) (hl:∀ s∈l,s.size<=maxLen):StrsM (memSh mem w.heap.size w' (fun _=>False)) v l:=by
 have h1:=lrow_strs (F:=fun k=>k<w.heap.size) h hl (fun k hk=>by have:=(GRow.ge h k hk).1;omega)
 refine h1.mono fun a u hu=>?_
 unfold memFr at hu
 split at hu
 ·cases hu
 ·rename_i hq
  have h2:¬ a.block<w.heap.size:=fun q=>hq (.inl q)
  refine memSh_new ?_ (by omega)
  unfold memNo
  rw[if_neg (fun q=>q)]
  exact hu
theorem strs_old {mem:Addr->Option Value} {w w':World} {v:Value} {l:List ByteArray} (h:StrsM mem v l) (hs:Sees mem w):StrsM (memSh mem w.heap.size w' (fun _=>False)) v l:=
 h.mono fun _ _ hu=>memSh_low hu (World.block_lt_of_cell? w _ (hs _ _ hu))
theorem langIns_here {l:List ByteArray} {y:ByteArray} {k:Nat} (hk:k<l.length) (hb:∀ j (h:j<l.length),j<k->Op.bytesLess (l[j]).toList y.toList=true) (hn:Op.bytesLess (l[k]).toList y.toList=false) (he:l[k]=y):langIns l y=l:=by
 have e:=posF_eq (p:=fun x=>Op.bytesLess x.toList y.toList) (Nat.le_of_lt hk) hb (fun _=>hn)
 unfold langIns
 rw[if_pos (by rw[e];exact⟨hk,by rw[List.getElem?_eq_getElem hk,he]⟩)]
theorem langIns_put {l:List ByteArray} {y:ByteArray} {k:Nat} (hk:k<=l.length) (hb:∀ j (h:j<l.length),j<k->Op.bytesLess (l[j]).toList y.toList=true) (hn:∀ h:k<l.length,Op.bytesLess (l[k]).toList y.toList=false/\l[k]≠y):langIns l y=l.take k++y::l.drop k:=by
 have e:=posF_eq (p:=fun x=>Op.bytesLess x.toList y.toList) hk hb (fun h=>(hn h).1)
 unfold langIns putAt
 rw[e,if_neg (fun q=>(hn q.1).2 (by have:=q.2;rw[List.getElem?_eq_getElem q.1]at this;exact Option.some.inj this))]
theorem map_str_len (l:List ByteArray):(l.map fun x=>(#[.string x]:Array Value)).length=l.length:=List.length_map _
theorem strs_1 (l:List ByteArray):∀ c∈(l.map fun x=>(#[.string x]:Array Value)),c.size=1/\OneC c:=fun c hc=>by
 obtain⟨x,_,rfl⟩:=List.mem_map.1 hc
 exact⟨rfl,fun u hu=>by simp at hu;subst hu;rfl⟩
theorem own_le {g n c j:Nat} (e:Value.ownBlock (.slice (some ⟨g,0,none⟩) n c)=some j):g<=j:=by simp[Value.ownBlock]at e;omega
theorem reads_drop {mem:Addr->Option Value} {w:World} {b o cap:Nat} {l:List ByteArray} (h:StrsM mem (.slice (some ⟨b,o,none⟩) l.length cap) l) (k:Nat) (hk:k<l.length) (hc:l.length<=cap) (hs:Sees mem w):Reads w w.heap.size 1 (some ⟨b,o+k,none⟩) ((l.drop k).map fun x=>(#[.string x]:Array Value)).length (((l.drop k).map fun x=>(#[.string x]:Array Value)).flatMap Array.toList):=by
 have h1:=reads_topics (h.drop k (Nat.le_of_lt hk)) hs
 have h2:restS (some ⟨b,o,none⟩) cap k=some ⟨b,o+k,none⟩:=by
  unfold restS
  rw[if_neg (by omega)]
  show some ((⟨b,o,none⟩:Addr).add k)=_
  unfold Addr.add
  by_cases h0:k=0
  ·rw[if_pos h0,h0,Nat.add_zero]
  ·rw[if_neg h0]
 rwa [h2]at h1
theorem reads_take {mem:Addr->Option Value} {w:World} {ao:Option Addr} {cap:Nat} {l:List ByteArray} (h:StrsM mem (.slice ao l.length cap) l) (k:Nat) (hk:k<=l.length) (hs:Sees mem w):Reads w w.heap.size 1 ao ((l.take k).map fun x=>(#[.string x]:Array Value)).length (((l.take k).map fun x=>(#[.string x]:Array Value)).flatMap Array.toList):=by
 have h1:=h.take k hk
 have hl:(l.take k).length=k:=by rw[List.length_take];omega
 exact reads_topics (cap:=cap) (by rw[hl];exact h1) hs
set_option maxRecDepth 100000 in
set_option maxHeartbeats 4000000 in
theorem sortedR_any {mem:Addr->Option Value} {v:Value} {l:List ByteArray} {y:ByteArray} (h:StrsM mem v l) (hl:l.length<=40000) (hy:y.size<=maxLen) (w:World) (hs:Sees mem w):
 Calls Tryz.prog 61 #[v,.string y] w (fun e w'=>∃ v',e=.returned v'/\StrsM (memSh mem w.heap.size w' (fun _=>False)) v' (langIns l y)/\Below w.heap.size w w'):=by
 obtain⟨ao,cap,b,o,rfl,hcap,hm,hao,hsz,hat⟩:=h.open_ hs
 have H:=Lib.hid h
 have HA:=Lib.hid hao
 have HAT:=Lib.hid hat
 have HS:=Lib.hid hs
 have HSZ:=Lib.hid hsz
 have hc63:cap<=9223372036854775807:=by unfold maxLen at hm;exact hm
 clear h hs hao hat hsz hm
 go_enter Tryz.func61,Tryz.ntmps61
 go_wp2_with fail
 go_loopw [5] (fun i wr=>∃ k:Nat,k<=l.length/\i=.int .i64 k/\Hid (∀ j (h:j<l.length),j<k->Op.bytesLess (l[j]).toList y.toList=true)/\Hid (Below w.heap.size w wr)) (fun i _=>l.length - (intOf i).toNat)
 case atStart=>exact⟨0,Nat.zero_le _,rfl,Lib.hid (fun j _ h=>absurd h (by omega)),Lib.hid (Below.refl _ _)⟩
 case round=>
  obtain⟨k,hk,rfl,HK,HB⟩:=hrel
  have HRES:Hid (∀ W',Below wr.heap.size wr W'->∀ v' ,LRow W' w.heap.size v' (langIns l y)->∃ v2,(Ending.returned v')=.returned v2/\StrsM (memSh mem w.heap.size W' (fun _=>False)) v2 (langIns l y)/\Below w.heap.size w W'):=Lib.hid (fun W' hb v' hr=>⟨v',rfl,strs_sh hr (fun s hs=>by
   unfold langIns putAt at hs
   split at hs
   ·exact HSZ.out s hs
   ·rcases List.mem_append.1 hs with q | q
    ·exact HSZ.out s (List.mem_of_mem_take q)
    ·rcases List.mem_cons.1 q with q | q
     ·subst q;exact hy
     ·exact HSZ.out s (List.mem_of_mem_drop q)),HB.out.trans (hb.mono HB.out.size)⟩)
  by_cases hlt:k<l.length
  ·obtain rfl:=HA.out (by omega)
   have hk1:(k:Int)<l.length:=by omega
   have c0:wr.cell? ⟨b,o+k,none⟩=some (.string l[k]):=sees_bel HB.out _ _ (HAT.out k hlt)
   rcases str_three l[k] y with ⟨e1,e2,e3,e4⟩ | ⟨e1,e2,e3,e4⟩ | ⟨e1,e2,e3,e4⟩
   ·have HK2:Hid (∀ j (h:j<l.length),j<k+1->Op.bytesLess (l[j]).toList y.toList=true):=Lib.hid (fun j hj hjk=>by
     by_cases ej:j=k
     ·subst ej;exact e1
     ·exact HK.out j hj (by omega))
    generalize l[k]=x at *
    go_wp2_with fail
    go_roundw
    case rel=>exact⟨k+1,by omega,by go_num,HK2,HB⟩
    case measure=>(try simp only[intOf]);omega
   ·have HF:=Lib.hid (langIns_here hlt HK.out e1 e4)
    generalize l[k]=x at *
    clear e4
    go_wp2_with fail
    go_ret
    refine⟨_,rfl,?_,HB.out⟩
    rw[HF.out]
    exact strs_old H.out HS.out
   ·have HF:=Lib.hid (langIns_put (y:=y) hk HK.out (fun _=>⟨e1,e4⟩))
    have HRD:=Lib.hid (fun W (hb:Below w.heap.size w W)=>reads_drop (w:=W) H.out k hlt hcap (HS.out.bel hb))
    have HRT:=Lib.hid (fun W (hb:Below w.heap.size w W)=>reads_take (w:=W) H.out k hk (HS.out.bel hb))
    have hDl:(l.drop k).length=l.length - k:=List.length_drop
    have hUl:(l.take k).length=k:=by rw[List.length_take];omega
    generalize l[k]=x at *
    generalize l.drop k=D at *
    generalize l.take k=U at *
    clear e4
    go_upto_region 7 with ((with_reducible refine at_sappend _ _ 30 rfl ?_);go_must (refine wpList_app_row (w:=wr.alloc (.cells #[.string y] 9)) rfl E_str _ _ rfl (by simp[Act.eval]) (lrow_one HB.out.size y) (some ⟨b,o+k,none⟩) (cap - k) (D.map fun x=>#[.string x]) (strs_1 D) ?h1 ?h2 ?h3 ?h4 ?_);go_must (case h1=>(show Value.slice _ _ _=_;rw[map_str_len,hDl]));go_must (case h2=>exact(HRD.out _ (HB.out.trans ((bel1 wr _).mono HB.out.size)))); go_must (case h3=>(rw[map_str_len,List.length_singleton];omega));go_must (case h4=>(rw[World.size_alloc];have:=HB.out.size;omega)); go_must (intro v6 w6 hr6 hg6 ho6;have hr6':LRow w6 w.heap.size v6 (y::D):=hr6;obtain⟨a6,c6,rfl⟩:=lrow_shape hr6';have hb6:Below wr.heap.size wr w6:=(bel1 wr _).grown hg6 (by rw[World.size_alloc];omega) (fun _ e=>own_le e);have HR6:=Lib.hid hr6';have HB6:=Lib.hid hb6;clear hr6 hr6' hg6 ho6 hb6))
    go_wp2_with (first
     |((with_reducible refine at_sslice 30 _ _ rfl ?_);go_must (refine wpList_empty_slice rfl E_str _ rfl rfl ?_))
     |((with_reducible refine at_sappend _ _ 30 rfl ?_);(refine wpList_app_row rfl E_str _ _ rfl (by simp[Act.eval]) (GRow.empty w6 w6.heap.size (Nat.le_refl _) (by decide)) (some ⟨b,o,none⟩) cap (U.map fun x=>#[.string x]) (strs_1 U) ?h1 ?h2 ?h3 ?h4 ?_);go_must (case h1=>(show Value.slice _ _ _=_;rw[map_str_len,hUl]));go_must (case h2=>exact(HRT.out _ ((HB.out.trans (HB6.out.mono HB.out.size)).trans ((bel1 w6 _).mono (Nat.le_trans HB.out.size HB6.out.size)))));go_must (case h3=>(rw[map_str_len,List.length_nil];omega));go_must (case h4=>(rw[World.size_alloc];omega));go_must (intro v7 w7 hr7 hg7 ho7;have hr7':LRow w7 w6.heap.size v7 U:=hr7;obtain⟨a7,c7,rfl⟩:=lrow_shape hr7';have hb7:Below w6.heap.size w6 w7:=(bel1 w6 _).grown hg7 (by rw[World.size_alloc];omega) (fun _ e=>own_le e);have HR7:=Lib.hid hr7';have HB7:=Lib.hid hb7;clear hr7 hr7' hg7 ho7 hb7))
     |((with_reducible refine at_sappend _ _ 30 rfl ?_);go_must (refine wpList_app_row rfl E_str _ _ rfl ?h0 HR7.out a6 c6 ((y::D).map fun x=>#[.string x]) (strs_1 (y::D)) ?h1 ?h2 ?h3 ?h4 ?_);go_must (case h0=>simp[Act.eval,hUl]);go_must (case h1=>(rw[map_str_len];simp[Act.eval,hDl]));go_must (case h2=>exact GRow.reads (cap:=c6) (by rw[map_str_len];exact GRow.bel HR6.out HB7.out));go_must (case h3=>(rw[map_str_len,map_str_len,List.length_cons];omega));go_must (case h4=>(have:=HB7.out.size;omega));intro v8 w8 hr8 hg8 ho8))
    go_ret
    refine HRES.out w8 (HB6.out.trans ((HB7.out.grown hg8 HB7.out.size (fun _ e=>(lrow_blk HR7.out _ e).1)).mono HB6.out.size)) _ ?_
    rw[HF.out]
    have hr9:LRow w8 w6.heap.size v8 (U++y::D):=by
     have:=hr8
     rw[<-List.map_append]at this
     exact this
    exact GRow.weaken hr9 (Nat.le_trans HB.out.size HB6.out.size)
  ·have e:k=l.length:=by omega
   subst e
   have HF:=Lib.hid (langIns_put (y:=y) hk HK.out (fun h=>absurd h (by omega)))
   have HRT:=Lib.hid (fun W (hb:Below w.heap.size w W)=>reads_take (w:=W) H.out l.length hk (HS.out.bel hb))
   obtain⟨D,hD⟩:∃ D:List ByteArray,D=[]:=⟨_,rfl⟩
   have hD0:l.drop l.length=D:=by rw[hD];exact List.drop_length
   have HRD:Hid (∀ W A,Reads W W.heap.size 1 A (D.map fun x=>(#[.string x]:Array Value)).length ((D.map fun x=>(#[.string x]:Array Value)).flatMap Array.toList)):=Lib.hid (fun W A=>by rw[hD];exact Reads.none_)
   have hDl:D.length=0:=by rw[hD];rfl
   have hUl:(l.take l.length).length=l.length:=by rw[List.length_take];omega
   rw[hD0]at HF
   clear hD0 hD
   generalize l.take l.length=U at *
   go_upto_region 7 with ((with_reducible refine at_sappend _ _ 30 rfl ?_);go_must (refine wpList_app_row (w:=wr.alloc (.cells #[.string y] 9)) rfl E_str _ _ rfl (by simp[Act.eval]) (lrow_one HB.out.size y) (if cap=l.length then ao else Option.map (fun x=>x.add l.length) ao) (cap - l.length) (D.map fun x=>#[.string x]) (strs_1 D) ?h1 ?h2 ?h3 ?h4 ?_);go_must (case h1=>(show Value.slice _ _ _=_;rw[map_str_len,hDl]));go_must (case h2=>exact HRD.out _ _); go_must (case h3=>(rw[map_str_len,List.length_singleton];omega));go_must (case h4=>(rw[World.size_alloc];have:=HB.out.size;omega)); go_must (intro v6 w6 hr6 hg6 ho6;have hr6':LRow w6 w.heap.size v6 (y::D):=hr6;obtain⟨a6,c6,rfl⟩:=lrow_shape hr6';have hb6:Below wr.heap.size wr w6:=(bel1 wr _).grown hg6 (by rw[World.size_alloc];omega) (fun _ e=>own_le e);have HR6:=Lib.hid hr6';have HB6:=Lib.hid hb6;clear hr6 hr6' hg6 ho6 hb6))
   go_wp2_with (first
    |((with_reducible refine at_sslice 30 _ _ rfl ?_);go_must (refine wpList_empty_slice rfl E_str _ rfl rfl ?_))
    |((with_reducible refine at_sappend _ _ 30 rfl ?_);(refine wpList_app_row rfl E_str _ _ rfl (by simp[Act.eval]) (GRow.empty w6 w6.heap.size (Nat.le_refl _) (by decide)) ao cap (U.map fun x=>#[.string x]) (strs_1 U) ?h1 ?h2 ?h3 ?h4 ?_);go_must (case h1=>(show Value.slice _ _ _=_;rw[map_str_len,hUl]));go_must (case h2=>exact(HRT.out _ ((HB.out.trans (HB6.out.mono HB.out.size)).trans ((bel1 w6 _).mono (Nat.le_trans HB.out.size HB6.out.size)))));go_must (case h3=>(rw[map_str_len,List.length_nil];omega));go_must (case h4=>(rw[World.size_alloc];omega));go_must (intro v7 w7 hr7 hg7 ho7;have hr7':LRow w7 w6.heap.size v7 U:=hr7;obtain⟨a7,c7,rfl⟩:=lrow_shape hr7';have hb7:Below w6.heap.size w6 w7:=(bel1 w6 _).grown hg7 (by rw[World.size_alloc];omega) (fun _ e=>own_le e);have HR7:=Lib.hid hr7';have HB7:=Lib.hid hb7;clear hr7 hr7' hg7 ho7 hb7))
    |((with_reducible refine at_sappend _ _ 30 rfl ?_);go_must (refine wpList_app_row rfl E_str _ _ rfl ?h0 HR7.out a6 c6 ((y::D).map fun x=>#[.string x]) (strs_1 (y::D)) ?h1 ?h2 ?h3 ?h4 ?_);go_must (case h0=>simp[Act.eval,hUl]);go_must (case h1=>(rw[map_str_len];simp[Act.eval,hDl]));go_must (case h2=>exact GRow.reads (cap:=c6) (by rw[map_str_len];exact GRow.bel HR6.out HB7.out));go_must (case h3=>(rw[map_str_len,map_str_len,List.length_cons];omega));go_must (case h4=>(have:=HB7.out.size;omega));intro v8 w8 hr8 hg8 ho8))
   all_goals
    go_ret
    refine HRES.out w8 (HB6.out.trans ((HB7.out.grown hg8 HB7.out.size (fun _ e=>(lrow_blk HR7.out _ e).1)).mono HB6.out.size)) _ ?_
    rw[HF.out]
    have hr9:LRow w8 w6.heap.size v8 (U++y::D):=by
     have:=hr8
     rw[<-List.map_append]at this
     exact this
    exact GRow.weaken hr9 (Nat.le_trans HB.out.size HB6.out.size)
theorem bs_of' {t:ByteArray} {l:List UInt8} (h:t.data.toList=l):t=bs l:=by
 subst h
 rfl
set_option maxRecDepth 100000 in
set_option maxHeartbeats 4000000 in
theorem trimmed_any (s:ByteArray) (hs:s.size<=1099511627776) (w:World):
 Calls Tryz.prog 107 #[.string s] w fun e w'=>e=.returned (.string (bs (Lib.trimB s.data.toList 32)))/\w=w':=by
 go_enter Tryz.func107,Tryz.ntmps107
 go_wp2_with fail
 go_loopw [0] (fun v wr=>∃ t:ByteArray,v=.string t/\t.size<=s.size/\Hid (Lib.trimLeftB t.data.toList 32=Lib.trimLeftB s.data.toList 32)/\wr=w) (fun v _=>Lib.strSize v)
 case atStart=>exact⟨s,rfl,Nat.le_refl _,Lib.hid rfl,rfl⟩
 case round=>
  obtain⟨t,rfl,hts,HT,rfl⟩:=hrel
  by_cases hcc:t.size≠0/\bAt t 0=32
  ·obtain⟨h0,hc⟩:=hcc
   obtain⟨e1,e2⟩:=empty_not h0
   have hb:=bAt_get t 0 (by omega)
   have HC:=Lib.hid hc
   have hi:t[0].toNat=32:=by rw[<-hb];exact hc
   clear hb hc
   go_wp2_with fail
   refine⟨⟨_,rfl,?_,?_,trivial⟩,?_⟩
   ·rw[ByteArray.size_extract];omega
   ·exact Lib.hid ((trimL_cut HC.out).trans HT.out)
   ·show (t.extract 1 t.size).size<t.size
    rw[ByteArray.size_extract];omega
  ·have HE:Hid (Lib.trimLeftB s.data.toList 32=t.data.toList):=Lib.hid (by
    rw[<-HT.out]
    exact trimL_end (by
     by_cases q:t.size=0
     ·exact .inl q
     ·exact .inr (fun e=>hcc ⟨q,e⟩)))
   rcases Nat.eq_zero_or_pos t.size with h0 | h0
   case' inl=>obtain⟨e1,e2⟩:=empty_of h0
   case' inr=>
    obtain⟨e1,e2⟩:=empty_not (t:=t) (by omega)
    have hb:=bAt_get t 0 h0
    have hi:¬ t[0].toNat=32:=by rw[<-hb];exact fun e=>hcc ⟨by omega,e⟩
    clear hb
   all_goals
    go_wp2_with fail
    go_loopw [0] (fun v wz=>∃ u:ByteArray,v=.string u/\u.size<=t.size/\Hid (Lib.trimRightB u.data.toList 32=Lib.trimRightB t.data.toList 32)/\wz=wr) (fun v _=>Lib.strSize v)
    case atStart=>exact⟨t,rfl,Nat.le_refl _,Lib.hid rfl,rfl⟩
    case round=>
     clear e1 e2
     obtain⟨u,rfl,hut,HU,rfl⟩:=hrel
     have hus:u.size<=1099511627776:=by omega
     by_cases hcu:u.size≠0/\bAt u (u.size - 1)=32
     ·obtain⟨hu0,hc⟩:=hcu
      obtain⟨e1,e2⟩:=empty_not hu0
      obtain⟨m,hm⟩:∃ m,u.size=m+1:=⟨u.size - 1,by omega⟩
      have hb:=bAt_get u m (by omega)
      have hc2:bAt u m=32:=by rw[hm]at hc;exact hc
      have HC:=Lib.hid hc
      have hi:(u[m]'(by omega)).toNat=32:=by rw[<-hb];exact hc2
      clear hb hc hc2
      go_wp2_with fail
      all_goals
       refine⟨⟨_,rfl,?_,?_,trivial⟩,?_⟩
       ·rw[ByteArray.size_extract];omega
       ·have hcut:=trimR_cut (s:=u) (by omega) HC.out
        rw[show u.size - 1=m by omega]at hcut
        exact Lib.hid (hcut.trans HU.out)
       ·show (u.extract 0 m).size<u.size
        rw[ByteArray.size_extract];omega
     ·have HV:Hid (Lib.trimRightB t.data.toList 32=u.data.toList):=Lib.hid (by
       rw[<-HU.out]
       exact trimR_end (by
        by_cases q:u.size=0
        ·exact .inl q
        ·exact .inr (fun e=>hcu ⟨q,e⟩)))
      have HFIN:Hid (u=bs (Lib.trimB s.data.toList 32)):=Lib.hid (bs_of' (by rw[<-HV.out,<-HE.out,trim_comm]))
      rcases Nat.eq_zero_or_pos u.size with hu0 | hu0
      ·obtain⟨e1,e2⟩:=empty_of hu0
       go_wp2_with fail
       go_ret
       refine⟨?_,rfl⟩
       rw[<-HFIN.out];rfl
      ·obtain⟨e1,e2⟩:=empty_not (t:=u) (by omega)
       obtain⟨m,hm⟩:∃ m,u.size=m+1:=⟨u.size - 1,by omega⟩
       have hb:=bAt_get u m (by omega)
       have hi:¬ (u[m]'(by omega)).toNat=32:=by rw[<-hb];exact fun e=>hcu ⟨by omega,by rw[hm];exact e⟩
       clear hb
       go_wp2_with fail
       all_goals
        go_ret
        refine⟨?_,rfl⟩
        rw[<-HFIN.out];rfl
section
variable {ops:Array Oper} {rest:List Oper} {o:Oper} {a:Act} {Q:Exit->Act->World->Prop} {w:World} {B:Nat} {v:Value} {cs:List (Array Value)}
theorem wpList_app_str (hgd:o.guard=none) (s x:Operand) (ho:o.op=.call { callee:=.builtin .append,args:=#[s,x],argTypes:=#[30,30] })
 (hs:a.eval s=v) (h:GRow w B 9 1 v cs) (u:Value) (hu:u.oneCell'=true) (g cap:Nat) (hx:a.eval x=.slice (some ⟨g,0,none⟩) 1 cap) (hc:w.heap[g]?=some (.cells #[u] 9 (0,0))) (hlen:cs.length+1<=4398046511104) (hB:B<=w.heap.size)
 (hK:∀ v' w',GRow w' B 9 1 v' (cs++[#[u]])->w.grownBy w' v.ownBlock->(v'.ownBlock=v.ownBlock\/v'.ownBlock=some w.heap.size)->wpList Tryz.prog ops Q rest (a.put o.dst v') w'):wpList Tryz.prog ops Q (o::rest) a w:=
 wpList_plain hgd fun _ hK'=>by
  obtain⟨i0,hi0,hz0,hz1,hz2⟩:=info_parts E_str.inf
  have hr:Reads w w.heap.size 1 (some ⟨g,0,none⟩) 1 [u]:=reads_one hc rfl
  obtain⟨v',w',hr,g2,g3,g5⟩:=run_append_any (P:=Tryz.prog) w B 30 o.type 9 i0 (.string .empty) 1 16 E_str.und hi0 hz0 hz1 hz2 E_str.zs E_str.pos v cs.length (cs.flatMap Array.toList) h.1 w.heap.size (some ⟨g,0,none⟩) 1 cap [u] hr
   (fun y hy=>by rw[List.mem_singleton.1 hy];exact hu) (by unfold maxLen;omega) (by omega) hB
  unfold Oper.wp execOp
  simp only[ho,resolve,invoke,builtin,Sem.run_bind,Sem.run_pure,Result.andThen_ok,List.map_toArray,List.map_cons,List.map_nil,hs,hx,hr]
  refine hK' _ _ (hK v' w' ⟨?_,fun c hc=>?_⟩ g3 g5)
  ·rw[List.length_append,List.flatMap_append];exact g2
  ·rcases List.mem_append.1 hc with hc | hc
   ·exact h.2 c hc
   ·rw[List.mem_singleton.1 hc]
    exact⟨rfl,fun y hy=>by simp at hy;subst hy;exact hu⟩
end
abbrev encR (x:List UInt8):Array Value:=#[encStr x]
theorem flat_encR (l:List (List UInt8)):(l.map encR).flatMap Array.toList=l.map encStr:=by
 induction l with
 |nil=>rfl
 |cons a l ih=>rw[List.map_cons,List.flatMap_cons,ih];rfl
theorem srow_of {w:World} {B:Nat} {v:Value} {l:List (List UInt8)} (h:GRow w B 9 1 v (l.map encR)):SRow w B v l:=by
 have:=h.1
 rw[flat_encR,List.length_map]at this
 exact this
set_option maxRecDepth 100000 in
set_option maxHeartbeats 4000000 in
theorem SentencesR_any (s:ByteArray) (hs:s.size<=1099511627776) (w:World):Calls Tryz.prog 68 #[.string s] w (SentPost s w):=by
 go_enter Tryz.func68,Tryz.ntmps68
 go_wp2_with fail
 go_loopw [3,4,5] (fun ov st i wr=>∃ (k start:Nat) (pre:List (List UInt8)),k<=s.size/\start<=k/\(∃ oa oc,ov=.slice oa pre.length oc)/\st=.int .i64 start/\i=.int .i64 k/\pre.length<=k/\Hid (pre++sentGo s (s.size - k) start=sentF s)/\Hid (GRow wr w.heap.size 9 1 ov (pre.map encR))/\Hid (Below w.heap.size w wr)) (fun _ _ i _=>s.size - (intOf i).toNat)
 case atStart=>exact⟨0,0,[],by omega,by omega,⟨_,_,rfl⟩,rfl,rfl,by simp,Lib.hid rfl,Lib.hid (GRow.nil _ _ _ _),Lib.hid (Below.refl _ _)⟩
 case round=>
  obtain⟨k,start,pre,hk,hst,⟨oa,oc,rfl⟩,rfl,rfl,hpl,HP,HR,HB⟩:=hrel
  by_cases hlt:k<s.size
  ·have HS:=Lib.hid (sentGo_step s k start hlt)
   have HEN:=Lib.hid (fun W=>ends_any s k hlt hs W)
   obtain⟨pc,hpc⟩:∃ pc,pc=piece s start (k+1):=⟨_,rfl⟩
   have HTR:Hid (∀ W,Calls Tryz.prog 107 #[.string (s.extract start (k+1))] W fun e w'=>e=.returned (.string (bs pc))/\W=w'):=Lib.hid (fun W=>by rw[hpc];exact trimmed_any (s.extract start (k+1)) (by rw[ByteArray.size_extract];omega) W)
   cases hE:sEnds s k with
   |false=>
    have HN:Hid (pre++sentGo s (s.size - (k+1)) start=sentF s):=Lib.hid (by have:=HP.out;rw[HS.out,hE]at this;exact this)
    go_wp2_with fail
    refine(HEN.out _).mono ?_
    rintro e W2 ⟨rfl,rfl⟩
    rw[hE]
    clear hE
    go_wp2_with fail
    go_roundw
    case rel=>exact⟨k+1,start,pre,by omega,by omega,⟨_,_,rfl⟩,by go_num,by go_num,by omega,HN,HR,HB⟩
    case measure=>(try simp only[intOf]);omega
   |true=>
    have HY:Hid ((pre++[pc])++sentGo s (s.size - (k+1)) (k+1)=sentF s):=Lib.hid (by have:=HP.out;rw[HS.out,hE]at this;rw[List.append_assoc,hpc];exact this)
    go_wp2_with fail
    refine(HEN.out _).mono ?_
    rintro e W2 ⟨rfl,rfl⟩
    rw[hE]
    clear hE hpc
    go_wp2_with fail
    refine(HTR.out _).mono ?_
    rintro e W3 ⟨rfl,rfl⟩
    go_wp2_with ((with_reducible refine at_sappend _ _ 30 rfl ?_);go_must (refine wpList_app_str rfl _ _ rfl ?h0 (HR.out.alloc _) (.string (bs pc)) rfl wr.heap.size 1 ?h1 ?h2 ?h3 ?h4 ?_);go_must (case h0=>simp[Act.eval]);go_must (case h1=>simp[Act.eval]);go_must (case h2=>exact World.alloc_heap_new _ _);go_must (case h3=>(rw[List.length_map];omega));go_must (case h4=>(rw[World.size_alloc];have:=HB.out.size;omega));go_must (intro v3 w3 hr3 hg3 ho3;have hr3':GRow w3 w.heap.size 9 1 v3 ((pre++[pc]).map encR):=(by rw[List.map_append];exact hr3);obtain⟨a3,c3,hv3⟩:=hr3'.shape;rw[List.length_map,List.length_append,List.length_singleton]at hv3;subst hv3;have hb3:Below w.heap.size w w3:=(HB.out.trans ((bel1 wr _).mono HB.out.size)).grown hg3 (by rw[World.size_alloc];have:=HB.out.size;omega) (fun j e=>(HR.out.ge j e).1);have HR3:=Lib.hid hr3';have HB3:=Lib.hid hb3;clear hr3 hr3' hg3 ho3 hb3))
    go_roundw
    case rel=>exact⟨k+1,k+1,pre++[pc],by omega,by omega,⟨a3,c3,by rw[List.length_append,List.length_singleton]⟩,by go_num,by go_num,by rw[List.length_append,List.length_singleton];omega,HY,HR3,HB3⟩
    case measure=>(try simp only[intOf]);omega
  ·have e:k=s.size:=by omega
   subst e
   obtain⟨pc,hpc⟩:∃ pc,pc=piece s start s.size:=⟨_,rfl⟩
   have HTR:Hid (∀ W,Calls Tryz.prog 107 #[.string (s.extract start s.size)] W fun e w'=>e=.returned (.string (bs pc))/\W=w'):=Lib.hid (fun W=>by rw[hpc];exact trimmed_any (s.extract start s.size) (by rw[ByteArray.size_extract];omega) W)
   have HP2:Hid (pre++(if pc=[] then [] else [pc])=sentF s):=Lib.hid (by
    have:=HP.out
    rw[Nat.sub_self,sentGo_end,<-hpc]at this
    exact this)
   clear hpc
   go_wp2_with fail
   refine(HTR.out _).mono ?_
   rintro e W3 ⟨rfl,rfl⟩
   by_cases hz:pc=[]
   ·have HF:Hid (pre=sentF s):=Lib.hid (by have:=HP2.out;rwa [if_pos hz,List.append_nil]at this)
    obtain⟨e1,e2⟩:=empty_of (t:=bs pc) (by rw[hz];rfl)
    clear hz
    go_wp2_with fail
    go_ret
    exact⟨_,rfl,by rw[<-HF.out];exact srow_of HR.out,HB.out⟩
   ·have HF:Hid (pre++[pc]=sentF s):=Lib.hid (by have:=HP2.out;rwa [if_neg hz]at this)
    obtain⟨e1,e2⟩:=empty_not (t:=bs pc) (fun q=>hz (List.eq_nil_of_length_eq_zero (by
     have:(bs pc).data.toList.length=(bs pc).size:=Array.length_toList
     rw[q]at this;exact this)))
    clear hz
    go_wp2_with ((with_reducible refine at_sappend _ _ 30 rfl ?_);go_must (refine wpList_app_str rfl _ _ rfl ?h0 (HR.out.alloc _) (.string (bs pc)) rfl wr.heap.size 1 ?h1 ?h2 ?h3 ?h4 ?_);go_must (case h0=>simp[Act.eval]);go_must (case h1=>simp[Act.eval]);go_must (case h2=>exact World.alloc_heap_new _ _);go_must (case h3=>(rw[List.length_map];omega));go_must (case h4=>(rw[World.size_alloc];have:=HB.out.size;omega));go_must (intro v3 w3 hr3 hg3 ho3;have hr3':GRow w3 w.heap.size 9 1 v3 ((pre++[pc]).map encR):=(by rw[List.map_append];exact hr3);obtain⟨a3,c3,hv3⟩:=hr3'.shape;rw[List.length_map,List.length_append,List.length_singleton]at hv3;subst hv3;have hb3:Below w.heap.size w w3:=(HB.out.trans ((bel1 wr _).mono HB.out.size)).grown hg3 (by rw[World.size_alloc];have:=HB.out.size;omega) (fun j e=>(HR.out.ge j e).1);have HR3:=Lib.hid hr3';have HB3:=Lib.hid hb3;clear hr3 hr3' hg3 ho3 hb3))
    go_ret
    exact⟨_,rfl,by rw[<-HF.out];exact srow_of HR3.out,HB3.out⟩
theorem lenS_take:∀ (ps:List (List UInt8)) (k:Nat),lenS (ps.take k)<=lenS ps
 |[],k=>by rw[List.take_nil];exact Nat.le_refl _
 |p::r,0=>Nat.zero_le _
 |p::r,k+1=>by
  have:=lenS_take r k
  unfold lenS at this ⊢
  rw[List.take_succ_cons,List.map_cons,List.map_cons,List.sum_cons,List.sum_cons];omega
theorem lenS_get:∀ (ps:List (List UInt8)) (k:Nat) (h:k<ps.length),(ps[k]).length<=lenS ps
 |[],k,h=>absurd h (by simp)
 |p::r,0,_=>by unfold lenS;rw[List.map_cons,List.sum_cons];simp;omega
 |p::r,k+1,h=>by
  have:=lenS_get r k (by simpa using h)
  unfold lenS at this ⊢
  rw[List.map_cons,List.sum_cons]
  simp only[List.getElem_cons_succ];omega
theorem lenS_count:∀ ps:List (List UInt8),ps.length<=lenS ps
 |[]=>Nat.zero_le _
 |p::r=>by
  have:=lenS_count r
  unfold lenS at this ⊢
  rw[List.map_cons,List.sum_cons,List.length_cons];omega
theorem joinB_end:∀ (ps:List (List UInt8)) (p:List UInt8),joinB (ps++[p])=joinB ps++(if ps=[] then [] else [32])++p
 |[],p=>rfl
 |[a],p=>by
  show a++[32]++p=a++(if [a]=[] then [] else [32])++p
  rw[if_neg (by simp)]
 |a::b::r,p=>by
  show a++[32]++joinB ((b::r)++[p])=a++[32]++joinB (b::r)++_++p
  rw[joinB_end (b::r) p,if_neg (by simp),if_neg (by simp)]
  simp only[List.append_assoc]
theorem join_take (P:List (List UInt8)) (k:Nat) (h:k<P.length):joinB (P.take (k+1))=joinB (P.take k)++(if k=0 then [] else [32])++P[k]:=by
 rw[List.take_succ_eq_append_getElem h,joinB_end]
 by_cases e:k=0
 ·subst e;rfl
 ·rw[if_neg e,if_neg (fun q=>e (by
   have:=congrArg List.length q
   rw[List.length_take,List.length_nil]at this
   omega))]
structure JoinC (c:Corr) (S:List (List UInt8)) (m B N:Nat) (sa:Option Addr) (sc:Nat) (W:World):Prop where
 row:LRow W B (.slice sa S.length sc) (S.map bs)
 cor:W.heap[N]?=some (.cells (corrCells c) 69 (0,0))
 sen:c.sentence=(m:Int)
 len:lenS S<=1000000001
 txt:c.text.size<=1000000000
 big:m<1000000001
section
variable {c:Corr} {S:List (List UInt8)} {m B N:Nat} {sa:Option Addr} {sc:Nat} {W:World}
theorem JoinC.next (h:JoinC c S m B N sa sc W) (q:Nat) (hq:q<S.length) {T T':ByteArray} (e:T.data.toList=joinB ((S.set m c.text.data.toList).take q))
 (e':T'.data.toList=T.data.toList++(if q=0 then [] else [32])++(if q=m then c.text.data.toList else S[q])):T'.data.toList=joinB ((S.set m c.text.data.toList).take (q+1)):=by
 rw[e',e,join_take _ q (by rw[List.length_set];exact hq)]
 congr 1
 by_cases eq:q=m
 ·subst eq;rw[if_pos rfl,List.getElem_set_self]
 ·rw[if_neg eq,List.getElem_set_ne (fun q=>eq q.symm)]
theorem JoinC.size (h:JoinC c S m B N sa sc W) (q:Nat) {T:ByteArray} (e:T.data.toList=joinB ((S.set m c.text.data.toList).take q)):T.size<=2000000002:=by
 have h1:=joinB_len ((S.set m c.text.data.toList).take q)
 have h2:=lenS_take (S.set m c.text.data.toList) q
 have h3:=lenS_set S m c.text.data.toList
 have h4:c.text.data.toList.length=c.text.size:=Array.length_toList
 have h5:=h.len
 have h6:=h.txt
 rw[<-e]at h1
 have h7:T.data.toList.length=T.size:=Array.length_toList
 omega
end
def loopsCj:Code->List Code
 |.loop c=>c::loopsCj c
 |.seq a b=>loopsCj a++loopsCj b
 |.block _ c=>loopsCj c
 |.scope c=>loopsCj c
 |.cond _ a b=>loopsCj a++loopsCj b
 |_=>[]
noncomputable def cjBody:Code:=((Tryz.f93.body.map loopsCj).getD []).getD 1 .skip
set_option maxRecDepth 100000 in
set_option maxHeartbeats 4000000 in
theorem cj_round {c:Corr} {S:List (List UInt8)} {m B N:Nat} {sa:Option Addr} {sc:Nat} {W:World} (hJ:JoinC c S m B N sa sc W) (c0 c1 c2 c4 c5 c9 c10 c11 c12 c13 c14 c15 c16 c17 c18 c19 c20 c21 c22 c23 c24 c25 c26 c27 c28 c29 c30 c31 c32 c33 c34 c35 c36 c37 c38 c39 c40 c41 c42 c43 c44 c45 c46 c47 c48 c49 c50 c51 c52 c53 c54 c55 c56 c57 c58 c59 c60 c61 c62 c63 c88 c89 c90 c91 c92 c93 c94:Value) (u64 u65 u66 u67 u68 u69 u70 u71 u72 u73 u74 u75 u76 u77 u78 u79 u80 u81 u82 u83 u84 u85 u86 u87:Value) (T:ByteArray) (q:Nat) (hq:q<S.length) (hT:T.data.toList=joinB ((S.set m c.text.data.toList).take q)) (Q:Exit->Act->World->Prop)
 (hQ:∀ (u7 u8 u64 u65 u66 u67 u68 u69 u70 u71 u72 u73 u74 u75 u76 u77 u78 u79 u80 u81 u82 u83 u84 u85 u86 u87:Value) (T':ByteArray),u8=.int .i64 ((q+1:Nat):Int)->u7=.string T'->T'.data.toList=joinB ((S.set m c.text.data.toList).take (q+1))->Q .normal ⟨#[c0,c1,c2,.pointer (some ⟨N,0,none⟩),c4,c5,.slice sa S.length sc,u7,u8,c9,c10,c11,c12,c13,c14,c15,c16,c17,c18,c19,c20,c21,c22,c23,c24,c25,c26,c27,c28,c29,c30,c31,c32,c33,c34,c35,c36,c37,c38,c39,c40,c41,c42,c43,c44,c45,c46,c47,c48,c49,c50,c51,c52,c53,c54,c55,c56,c57,c58,c59,c60,c61,c62,c63,u64,u65,u66,u67,u68,u69,u70,u71,u72,u73,u74,u75,u76,u77,u78,u79,u80,u81,u82,u83,u84,u85,u86,u87,c88,c89,c90,c91,c92,c93,c94],[]⟩ W):
 cjBody.wp Tryz.prog Q ⟨#[c0,c1,c2,.pointer (some ⟨N,0,none⟩),c4,c5,.slice sa S.length sc,.string T,.int .i64 (q:Nat),c9,c10,c11,c12,c13,c14,c15,c16,c17,c18,c19,c20,c21,c22,c23,c24,c25,c26,c27,c28,c29,c30,c31,c32,c33,c34,c35,c36,c37,c38,c39,c40,c41,c42,c43,c44,c45,c46,c47,c48,c49,c50,c51,c52,c53,c54,c55,c56,c57,c58,c59,c60,c61,c62,c63,u64,u65,u66,u67,u68,u69,u70,u71,u72,u73,u74,u75,u76,u77,u78,u79,u80,u81,u82,u83,u84,u85,u86,u87,c88,c89,c90,c91,c92,c93,c94],[]⟩ W:=by
 have HQ:=Lib.hid hQ
 have HT:=Lib.hid hT
 have HJ:=Lib.hid hJ
 have hts:=hJ.size q hT
 have q2:W.cell? ⟨N,2,none⟩=some (.int .i64 m):=by rw[<-hJ.sen];exact rowcell hJ.cor
 have q3:W.cell? ⟨N,3,none⟩=some (.string c.text):=rowcell hJ.cor
 have hct:=hJ.txt
 have hmb:=hJ.big
 have hSl:S.length<=9223372036854775807:=by have:=lenS_count S;have:=hJ.len;omega
 obtain⟨lg,lcap,hlv,_,hlc,hl1,hl2⟩:=lrow_get hJ.row q (by rw[List.length_map];exact hq)
 injection hlv with hlv1 hlv2 hlv3
 subst hlv1 hlv3
 clear hlv2
 rw[List.length_map]at hl1
 have hl3:sc<=9223372036854775807:=by unfold maxLen at hl2;exact hl2
 rw[List.getElem_map]at hlc
 have hgl:(S[q]).length<=1000000001:=Nat.le_trans (lenS_get S q hq) hJ.len
 have HNX:Hid (∀ T':ByteArray,T'.data.toList=T.data.toList++(if q=0 then [] else [32])++(if q=m then c.text.data.toList else S[q])->T'.data.toList=joinB ((S.set m c.text.data.toList).take (q+1))):=Lib.hid (fun T' e=>hJ.next q hq hT e)
 generalize S[q]=pc at *
 have hbz:(bs pc).size<=1000000001:=by
  have:(bs pc).data.toList.length=(bs pc).size:=Array.length_toList
  have h2:(bs pc).data.toList=pc:=by simp[bs]
  rw[h2]at this
  omega
 have hqk:(q:Int)<S.length:=by omega
 clear hQ hT hJ hl2
 conv=>arg 2;whnf
 dsimp only
 have hq0:q=0\/0<q:=by omega
 have hqm:q=m\/((q:Int) == (m:Int))=false:=by
  by_cases e:q=m
  ·exact .inl e
  ·refine .inr ?_
   simp;omega
 rcases hq0 with hq0 | hq0
 ·subst hq0
  rcases hqm with hqm | hqm
  ·subst hqm
   go_wp2_with fail
   exact HQ.out _ _ _ _ _ _ _ _ _ _ _ _ _ _ _ _ _ _ _ _ _ _ _ _ _ _ (T++c.text) (by go_num) rfl (HNX.out _ (by simp))
  ·have HE:Hid (¬ 0=m):=Lib.hid (by intro e;subst e;simp at hqm)
   go_wp2_with fail
   exact HQ.out _ _ _ _ _ _ _ _ _ _ _ _ _ _ _ _ _ _ _ _ _ _ _ _ _ _ (T++bs pc) (by go_num) rfl (HNX.out _ (by simp[HE.out,bs]))
 ·have hp:(0:Int)<q:=by omega
  have hne:q≠0:=by omega
  rcases hqm with hqm | hqm
  ·subst hqm
   go_wp2_with fail
   exact HQ.out _ _ _ _ _ _ _ _ _ _ _ _ _ _ _ _ _ _ _ _ _ _ _ _ _ _ (T++⟨#[32]⟩++c.text) (by go_num) rfl (HNX.out _ (by simp[hne]))
  ·have HE:Hid (¬ q=m):=Lib.hid (by intro e;subst e;simp at hqm)
   go_wp2_with fail
   exact HQ.out _ _ _ _ _ _ _ _ _ _ _ _ _ _ _ _ _ _ _ _ _ _ _ _ _ _ (T++⟨#[32]⟩++bs pc) (by go_num) rfl (HNX.out _ (by simp[hne,HE.out,bs]))
set_option maxRecDepth 100000 in
set_option maxHeartbeats 4000000 in
theorem cj_loop {c:Corr} {S:List (List UInt8)} {m B N:Nat} {sa:Option Addr} {sc:Nat} {W:World} (hJ:JoinC c S m B N sa sc W) (c0 c1 c2 c4 c5 c9 c10 c11 c12 c13 c14 c15 c16 c17 c18 c19 c20 c21 c22 c23 c24 c25 c26 c27 c28 c29 c30 c31 c32 c33 c34 c35 c36 c37 c38 c39 c40 c41 c42 c43 c44 c45 c46 c47 c48 c49 c50 c51 c52 c53 c54 c55 c56 c57 c58 c59 c60 c61 c62 c63 c88 c89 c90 c91 c92 c93 c94:Value) (u7 u8 u64 u65 u66 u67 u68 u69 u70 u71 u72 u73 u74 u75 u76 u77 u78 u79 u80 u81 u82 u83 u84 u85 u86 u87:Value) (h0:u8=.int .i64 0) (h1:u7=.string ⟨#[]⟩) (Q:Exit->Act->World->Prop)
 (hQ:∀ (u7 u8 u64 u65 u66 u67 u68 u69 u70 u71 u72 u73 u74 u75 u76 u77 u78 u79 u80 u81 u82 u83 u84 u85 u86 u87:Value) (T:ByteArray),u7=.string T->T.data.toList=joinB (S.set m c.text.data.toList)->Q (.exit 2) ⟨#[c0,c1,c2,.pointer (some ⟨N,0,none⟩),c4,c5,.slice sa S.length sc,u7,u8,c9,c10,c11,c12,c13,c14,c15,c16,c17,c18,c19,c20,c21,c22,c23,c24,c25,c26,c27,c28,c29,c30,c31,c32,c33,c34,c35,c36,c37,c38,c39,c40,c41,c42,c43,c44,c45,c46,c47,c48,c49,c50,c51,c52,c53,c54,c55,c56,c57,c58,c59,c60,c61,c62,c63,u64,u65,u66,u67,u68,u69,u70,u71,u72,u73,u74,u75,u76,u77,u78,u79,u80,u81,u82,u83,u84,u85,u86,u87,c88,c89,c90,c91,c92,c93,c94],[]⟩ W):
 (Code.loop cjBody).wp Tryz.prog Q ⟨#[c0,c1,c2,.pointer (some ⟨N,0,none⟩),c4,c5,.slice sa S.length sc,u7,u8,c9,c10,c11,c12,c13,c14,c15,c16,c17,c18,c19,c20,c21,c22,c23,c24,c25,c26,c27,c28,c29,c30,c31,c32,c33,c34,c35,c36,c37,c38,c39,c40,c41,c42,c43,c44,c45,c46,c47,c48,c49,c50,c51,c52,c53,c54,c55,c56,c57,c58,c59,c60,c61,c62,c63,u64,u65,u66,u67,u68,u69,u70,u71,u72,u73,u74,u75,u76,u77,u78,u79,u80,u81,u82,u83,u84,u85,u86,u87,c88,c89,c90,c91,c92,c93,c94],[]⟩ W:=by
 refine wp_loop (fun a w=>∃ U:Nat->Value,(∃ (j:Nat) (T:ByteArray),j<=S.length/\U 8=.int .i64 (j:Int)/\U 7=.string T/\T.data.toList=joinB ((S.set m c.text.data.toList).take j)/\w=W)/\a=⟨#[c0,c1,c2,.pointer (some ⟨N,0,none⟩),c4,c5,.slice sa S.length sc,U 7,U 8,c9,c10,c11,c12,c13,c14,c15,c16,c17,c18,c19,c20,c21,c22,c23,c24,c25,c26,c27,c28,c29,c30,c31,c32,c33,c34,c35,c36,c37,c38,c39,c40,c41,c42,c43,c44,c45,c46,c47,c48,c49,c50,c51,c52,c53,c54,c55,c56,c57,c58,c59,c60,c61,c62,c63,U 64,U 65,U 66,U 67,U 68,U 69,U 70,U 71,U 72,U 73,U 74,U 75,U 76,U 77,U 78,U 79,U 80,U 81,U 82,U 83,U 84,U 85,U 86,U 87,c88,c89,c90,c91,c92,c93,c94],[]⟩) (fun a _=>S.length - (intOf (a.tmps.getD 8 undef)).toNat) ⟨fun i=>([undef,undef,undef,undef,undef,undef,undef,u7,u8,undef,undef,undef,undef,undef,undef,undef,undef,undef,undef,undef,undef,undef,undef,undef,undef,undef,undef,undef,undef,undef,undef,undef,undef,undef,undef,undef,undef,undef,undef,undef,undef,undef,undef,undef,undef,undef,undef,undef,undef,undef,undef,undef,undef,undef,undef,undef,undef,undef,undef,undef,undef,undef,undef,undef,u64,u65,u66,u67,u68,u69,u70,u71,u72,u73,u74,u75,u76,u77,u78,u79,u80,u81,u82,u83,u84,u85,u86,u87,undef,undef,undef,undef,undef,undef,undef]:List Value).getD i undef,⟨0,⟨#[]⟩,Nat.zero_le _,h0,h1,rfl,rfl⟩,rfl⟩ ?_
 rintro a w2 ⟨U,⟨j,T,hj,e,eT,hT,rfl⟩,rfl⟩
 by_cases hlt:j<S.length
 ·rw[e,eT]
  refine cj_round hJ _ _ _ _ _ _ _ _ _ _ _ _ _ _ _ _ _ _ _ _ _ _ _ _ _ _ _ _ _ _ _ _ _ _ _ _ _ _ _ _ _ _ _ _ _ _ _ _ _ _ _ _ _ _ _ _ _ _ _ _ _ _ _ _ _ _ _ _ _ _ _ _ _ _ _ _ _ _ _ _ _ _ _ _ _ _ _ _ _ _ _ T j hlt hT _ ?_
  intro u7 u8 u64 u65 u66 u67 u68 u69 u70 u71 u72 u73 u74 u75 u76 u77 u78 u79 u80 u81 u82 u83 u84 u85 u86 u87 T3 e3 eT3 hT3
  refine⟨⟨fun i=>([undef,undef,undef,undef,undef,undef,undef,u7,u8,undef,undef,undef,undef,undef,undef,undef,undef,undef,undef,undef,undef,undef,undef,undef,undef,undef,undef,undef,undef,undef,undef,undef,undef,undef,undef,undef,undef,undef,undef,undef,undef,undef,undef,undef,undef,undef,undef,undef,undef,undef,undef,undef,undef,undef,undef,undef,undef,undef,undef,undef,undef,undef,undef,undef,u64,u65,u66,u67,u68,u69,u70,u71,u72,u73,u74,u75,u76,u77,u78,u79,u80,u81,u82,u83,u84,u85,u86,u87,undef,undef,undef,undef,undef,undef,undef]:List Value).getD i undef,⟨j+1,T3,hlt,e3,eT3,hT3,rfl⟩,rfl⟩,?_⟩
  show S.length - (intOf u8).toNat<S.length - (intOf (.int .i64 (j:Nat))).toNat
  rw[e3]
  simp[intOf];omega
 ·obtain rfl:j=S.length:=by omega
  rw[e,eT]
  have HQ:=Lib.hid hQ
  have HT:Hid (T.data.toList=joinB (S.set m c.text.data.toList)):=Lib.hid (by
   rw[List.take_of_length_le (by rw[List.length_set];exact Nat.le_refl _)]at hT
   exact hT)
  have hSl:S.length<=9223372036854775807:=by have:=lenS_count S;have:=hJ.len;omega
  clear hQ hT e eT h0 h1 hlt hj hJ
  conv=>arg 2;whnf
  dsimp only
  go_wp2_with fail
  exact HQ.out _ _ _ _ _ _ _ _ _ _ _ _ _ _ _ _ _ _ _ _ _ _ _ _ _ _ T rfl HT.out
theorem BRow.nine {w:World} {B:Nat} {v:Value} {l:List Blk} (h:BRow w B v l) (k:Nat) (hk:k<l.length):∃ g cap av,v=.slice (some ⟨g,0,none⟩) l.length cap/\B<=g/\g<w.heap.size/\l.length<=cap/\cap<=maxLen/\(∀ t,t<9->w.cell? ⟨g,k * 9+t,none⟩=(blkVals l[k] av)[t]?)/\∀ i,w.frozen? ⟨g,i,none⟩=false:=by
 obtain⟨vs,h1,h2⟩:=h
 obtain⟨a,cp,_,hv⟩:=h2.get k hk
 rcases h1.2 with ⟨_,hz⟩ | ⟨g,cap,cur,rfl,hb,hgg,hn,hc,hs,ht⟩
 ·omega
 ·refine⟨g,cap,.slice a l[k].lab.after.length cp,rfl,hb,qh hgg,hn,hc,fun t ht9=>?_,fun i=>rowfree hgg⟩
  rw[rowcell hgg]
  have h5:(cur.toList.take (l.length * 9))[k * 9+t]?=vs[k * 9+t]?:=by rw[ht]
  rw[List.getElem?_take_of_lt (by omega)]at h5
  rw[<-Array.getElem?_toList,h5]
  exact hv t ht9
theorem BRow.shape {w:World} {B:Nat} {v:Value} {l:List Blk} (h:BRow w B v l):∃ ao cap,v=.slice ao l.length cap:=by
 obtain⟨vs,h1,_⟩:=h
 rcases h1.2 with ⟨rfl,hz⟩ | ⟨g,cap,cur,rfl,_⟩
 ·exact⟨none,0,by rw[hz]⟩
 ·exact⟨_,_,rfl⟩
theorem BRow.lenM {w:World} {B:Nat} {v:Value} {l:List Blk} (h:BRow w B v l):l.length<=maxLen:=by
 obtain⟨vs,h1,_⟩:=h
 rcases h1.2 with ⟨rfl,hz⟩ | ⟨g,cap,cur,rfl,_,_,hn,hc,_⟩
 ·rw[hz];exact Nat.zero_le _
 ·exact Nat.le_trans hn hc
def CorrPost (B:Nat) (v:Value) (l:List Blk) (c:Corr) (w:World) (e:Ending) (w':World):Prop:=e=.returned v/\BRow w' B v (applyF l c)/\Upd (fun k=>v.ownBlock=some k) w w'
set_option maxRecDepth 100000 in
set_option maxHeartbeats 8000000 in
theorem corrected_any {B:Nat} {v:Value} {l:List Blk} (w:World) (h:BRow w B v l) (ht:∀ x∈l,x.text.size<=1000000000) (c:Corr) (hc2:c.text.size<=1000000000):
 Calls Tryz.prog 93 #[v,.agg (corrCells c)] w (CorrPost B v l c w):=by
 obtain⟨va,vc,rfl⟩:=h.shape
 have hlm:l.length<=9223372036854775807:=by have:=h.lenM;unfold maxLen at this;omega
 obtain⟨W1,hW1⟩:∃ W1,W1=w.alloc (.cells (corrCells c) 69):=⟨_,rfl⟩
 have hb1:Below w.heap.size w W1:=by rw[hW1];exact bel1 _ _
 have HC1:Hid (W1.heap[w.heap.size]?=some (.cells (corrCells c) 69 (0,0))):=Lib.hid (by rw[hW1];exact World.alloc_heap_new _ _)
 have H1:=Lib.hid (h.same hb1)
 have HW1:=Lib.hid hW1
 have HB1:=Lib.hid hb1
 have HT:=Lib.hid ht
 clear hW1 hb1 ht h
 go_enter Tryz.func93,Tryz.ntmps93
 go_upto_region 1 with fail
 rw[<-HW1.out]
 clear HW1
 go_wp2_with fail
 go_loopw [5] (fun i wr=>∃ k:Nat,k<=l.length/\i=.int .i64 k/\Hid (∀ j (hj:j<l.length),j<k->l[j].id≠c.block)/\Hid (Below W1.heap.size W1 wr)) (fun i _=>l.length - (intOf i).toNat)
 case atStart=>exact⟨0,Nat.zero_le _,rfl,Lib.hid (fun j _ h=>absurd h (by omega)),Lib.hid (Below.refl _ _)⟩
 case round=>
  obtain⟨k,hk,rfl,HNO,HB⟩:=hrel
  have HR:=Lib.hid (H1.out.same HB.out)
  have HCR:=Lib.hid ((HB.out.block _ (qh HC1.out)).trans HC1.out)
  have HUR:Hid (Upd (fun k=>(Value.slice va l.length vc).ownBlock=some k) w wr):=Lib.hid (((Upd.refl _ w).bel HB1.out).bel HB.out)
  by_cases hlt:k<l.length
  ·obtain⟨g,cap,av,hv,hgB,hgl,hc0,hc3,hcell,hfz⟩:=HR.out.nine k hlt
   injection hv with hv1 _ hv3
   subst hv1 hv3
   have HNO2:Hid (l[k].id≠c.block->∀ j (hj:j<l.length),j<k+1->l[j].id≠c.block):=Lib.hid (fun e j hj hjk=>by
    by_cases ej:j=k
    ·subst ej;exact e
    ·exact HNO.out j hj (by omega))
   have HAP:Hid (l[k].id=c.block->applyF l c=l.set k (applyB c l[k])):=Lib.hid (fun e=>applyF_at k hlt e (fun j hj=>HNO.out j (by omega) hj))
   have htx:=HT.out _ (List.getElem_mem hlt)
   have HCELL:=Lib.hid hcell
   have HFZ:=Lib.hid hfz
   have b0:wr.cell? ⟨g,k * 9,none⟩=some (.int .i64 l[k].id):=hcell 0 (by omega)
   have c1:wr.cell? ⟨w.heap.size,1,none⟩=some (.int .i64 c.block):=rowcell HCR.out
   have HX:Hid (∀ W3,Below wr.heap.size wr W3->applyF l c=l->CorrPost B (.slice (some ⟨g,0,none⟩) l.length vc) l c w (.returned (.slice (some ⟨g,0,none⟩) l.length vc)) W3):=Lib.hid (fun W3 hb e=>⟨rfl,by rw[e];exact HR.out.same hb,HUR.out.bel hb⟩)
   have HST:Hid (∀ t W3,applyF l c=l.set k { l[k] with text:=t }->Below wr.heap.size wr W3->CorrPost B (.slice (some ⟨g,0,none⟩) l.length vc) l c w (.returned (.slice (some ⟨g,0,none⟩) l.length vc)) (W3.setCell ⟨g,k * 9+2,none⟩ (.string t))):=Lib.hid (fun t W3 e hb=>⟨rfl,by rw[e];exact(HR.out.same hb).setText k hlt t,(HUR.out.bel hb).setCell (p:=⟨g,k * 9+2,none⟩) (.inl rfl) _⟩)
   clear hcell hfz hgB HNO
   have hkl:(k:Int)<l.length:=by omega
   generalize hx:l[k]=x at *
   by_cases hid:x.id=c.block
   case' neg=>
    have hne:(x.id == c.block)=false:=by simpa using hid
    have hne2:(x.id != c.block)=true:=by simpa using hid
    have HN3:=Lib.hid (HNO2.out hid)
    clear hid HNO2 HAP hx
    go_upto_region 4 with fail
    go_quiet (fail)
    go_wp2_with fail
    go_roundw
    case rel=>exact⟨k+1,by omega,by go_num,HN3,Lib.hid (below_drewN HB.out _)⟩
    case measure=>(try simp only[intOf]);omega
   have HAP2:=Lib.hid (HAP.out hid)
   have hne:(x.id == c.block)=true:=by simpa using hid
   have hne2:(x.id != c.block)=false:=by simpa using hid
   clear hid HNO2 HAP
   obtain⟨xid,kd,xt,xs,xr,xl⟩:=x
   dsimp only at *
   go_upto_region 4 with fail
   go_quiet (fail)
   obtain⟨W4,hW4⟩:∃ W4,W4=wr.drewN nq:=⟨_,rfl⟩
   have HB4:Hid (Below wr.heap.size wr W4):=Lib.hid (by rw[hW4];exact below_drewN (Below.refl _ _) _)
   have b1:W4.cell? ⟨g,k * 9+1,none⟩=some (.int .i64 kd):=by rw[hW4];exact HCELL.out 1 (by omega)
   have b2:W4.cell? ⟨g,k * 9+2,none⟩=some (.string xt):=by rw[hW4];exact HCELL.out 2 (by omega)
   rw[<-hW4]
   clear hW4 b0 c1 hne hne2
   go_wp2_with fail
   refine(SentencesR_any xt (by omega) W4).mono ?_
   rintro e W5 ⟨sv,rfl,hsr,hb5⟩
   have hlr:=lrow_of hsr
   obtain⟨sa,sc,hsv⟩:=lrow_shape hlr
   subst hsv
   rw[List.length_map]at *
   have HLR:=Lib.hid hlr
   have HB5:Hid (Below wr.heap.size wr W5):=Lib.hid (HB4.out.trans (hb5.mono HB4.out.size))
   have b1':W5.cell? ⟨g,k * 9+1,none⟩=some (.int .i64 kd):=sees_bel hb5 _ _ b1
   have HC5:=Lib.hid ((HB5.out.block _ (qh HCR.out)).trans HCR.out)
   have q2:W5.cell? ⟨w.heap.size,2,none⟩=some (.int .i64 c.sentence):=rowcell HC5.out
   have hsl:lenS (sentF xt)<=1000000001:=by have:=sentF_len xt;omega
   have hsn:(sentF xt).length<=1000000001:=by
    have:(sentF xt).length<=lenS (sentF xt):=by
     generalize sentF xt=P
     clear hsl
     induction P with
     |nil=>exact Nat.zero_le _
     |cons p r ih=>unfold lenS at ih ⊢;rw[List.map_cons,List.sum_cons,List.length_cons];omega
    omega
   clear hb5 b1 b2 hsr hlr
   have hkd:(kd=1\/kd=2\/kd=4)\/¬ (kd=1\/kd=2\/kd=4):=Classical.em _
   rcases hkd with hkd | hkd
   case' inr=>
    have n1:(kd == 1)=false:=by simp;omega
    have n2:(kd == 2)=false:=by simp;omega
    have n4:(kd == 4)=false:=by simp;omega
    have m1:(kd != 1)=true:=by simp;omega
    have m2:(kd != 2)=true:=by simp;omega
    have m4:(kd != 4)=true:=by simp;omega
    have HF:=Lib.hid (HX.out W5 HB5.out (by
     rw[HAP2.out]
     unfold applyB
     rw[if_neg (fun q=>hkd q.1),<-hx,List.set_getElem_self]))
    clear hkd
    go_wp2_with fail
    go_ret
    exact HF.out
   have HKD:=Lib.hid hkd
   have hsg:(c.sentence<0)\/(∃ m:Nat,c.sentence=(m:Int)):=by
    rcases Int.lt_or_le c.sentence 0 with q | q
    ·exact .inl q
    ·exact .inr ⟨c.sentence.toNat,by omega⟩
   rcases hsg with hs0 | ⟨m,hm⟩
   case' inl=>
    have HF:=Lib.hid (HX.out W5 HB5.out (by
     rw[HAP2.out]
     unfold applyB
     rw[if_neg (fun q=>by omega),<-hx,List.set_getElem_self]))
    rcases hkd with rfl | rfl | rfl
    all_goals
     go_wp2_with fail
     go_ret
     exact HF.out
   rw[hm]at q2
   by_cases hml:m<(sentF xt).length
   case' neg=>
    have HF:=Lib.hid (HX.out W5 HB5.out (by
     rw[HAP2.out]
     unfold applyB
     rw[if_neg (fun q=>by have:=q.2.2;simp only at this;omega),<-hx,List.set_getElem_self]))
    have hml2:¬ ((m:Int)<((sentF xt).length:Int)):=by omega
    rcases hkd with rfl | rfl | rfl
    all_goals
     go_wp2_with fail
     go_ret
     exact HF.out
   have HAB:Hid (∀ t:ByteArray,t.data.toList=joinB ((sentF xt).set m c.text.data.toList)->applyF l c=l.set k ⟨xid,kd,t,xs,xr,xl⟩):=Lib.hid (fun t e=>by
    rw[HAP2.out]
    unfold applyB
    rw[if_pos ⟨HKD.out,by omega,by show c.sentence<((sentF xt).length:Int);omega⟩]
    have:t=bs (joinB ((sentF xt).set c.sentence.toNat c.text.data.toList)):=by
     rw[hm,Int.toNat_natCast,<-e,bs_of]
    rw[this])
   have HJC:Hid (JoinC c (sentF xt) m W4.heap.size w.heap.size sa sc W5):=Lib.hid ⟨HLR.out,HC5.out,hm,hsl,hc2,by omega⟩
   have b2:W5.cell? ⟨g,k * 9+2,none⟩=some (.string xt):=sees_bel HB5.out _ _ (HCELL.out 2 (by omega))
   have z2:W5.frozen? ⟨g,k * 9+2,none⟩=false:=by
    obtain⟨g2,cap2,av2,hv2,_,_,_,_,_,hz2⟩:=(HR.out.same HB5.out).nine k hlt
    injection hv2 with e1 _ _
    injection e1 with e1
    injection e1 with e1 _ _
    rw[e1];exact hz2 _
   have hml2:(m:Int)<((sentF xt).length:Int):=by omega
   clear hsl
   generalize sentF xt=S at *
   clear HX HAP2 hm hml
   rcases hkd with rfl | rfl | rfl
   all_goals
    go_wp2_with fail
    refine cj_loop HJC.out _ _ _ _ _ _ _ _ _ _ _ _ _ _ _ _ _ _ _ _ _ _ _ _ _ _ _ _ _ _ _ _ _ _ _ _ _ _ _ _ _ _ _ _ _ _ _ _ _ _ _ _ _ _ _ _ _ _ _ _ _ _ _ _ _ _ _ _ _ _ _ _ _ _ _ _ _ _ _ _ _ _ _ _ _ _ _ _ _ _ _ _ _ rfl rfl _ ?_
    intro u7 u8 u64 u65 u66 u67 u68 u69 u70 u71 u72 u73 u74 u75 u76 u77 u78 u79 u80 u81 u82 u83 u84 u85 u86 u87 T eT hT
    subst eT
    have HF:=Lib.hid (HST.out T W5 (HAB.out T hT) HB5.out)
    clear hT
    go_wp2_with fail
    go_ret
    exact HF.out
  ·have e:k=l.length:=by omega
   subst e
   have HE:Hid (applyF l c=l):=Lib.hid (applyF_none (fun x hx=>by
    obtain⟨j,hj,rfl⟩:=List.getElem_of_mem hx
    exact HNO.out j hj hj))
   go_wp2_with fail
   go_ret
   exact⟨rfl,by rw[HE.out];exact HR.out,HUR.out⟩
def EdF (T:Nat) (rv:Value) (k:Nat):Prop:=k=T\/k=T+1\/rv.ownBlock=some k
structure EdW (w:World) (rv:Value) (rs:List FctE) (cs:Array Value) (bv:Value) (bl:List Blk) (W:World):Prop where
 row:FRow W w.heap.size rv rs
 box:W.heap[w.heap.size+1]?=some (.cells cs 39 (0,0))
 res:W.heap[w.heap.size]?=some (.cells zEdn 39 (0,0))
 blk:BlksM (memNo W (EdF w.heap.size rv)) bv bl
 bel:Below w.heap.size w W
section
variable {mem:Addr->Option Value} {w W W':World} {rv bv:Value} {rs:List FctE} {cs:Array Value} {bl:List Blk}
theorem EdW.keep (h:EdW w rv rs cs bv bl W) (hb:Below W.heap.size W W'):EdW w rv rs cs bv bl W':=
 ⟨h.row.same (fun k hk=>hb.block k (h.row.ge k hk).2),(hb.block _ (qh h.box)).trans h.box,(hb.block _ (qh h.res)).trans h.res,h.blk.mono (memNo_bel hb),h.bel.trans (hb.mono h.bel.size)⟩
theorem EdW.own (h:EdW w rv rs cs bv bl W):rv.ownBlock≠some (w.heap.size+1)/\rv.ownBlock≠some w.heap.size:=by
 refine⟨fun e=>?_,fun e=>?_⟩
 ·obtain⟨c,hc⟩:=h.row.blk _ e
  rw[h.box]at hc
  have:=Option.some.inj hc
  injection this with _ e _
  exact absurd e (by decide)
 ·obtain⟨c,hc⟩:=h.row.blk _ e
  rw[h.res]at hc
  have:=Option.some.inj hc
  injection this with _ e _
  exact absurd e (by decide)
theorem EdW.set (h:EdW w rv rs cs bv bl W) (j:Nat) (u:Value):EdW w rv rs (cs.setIfInBounds j u) bv bl (W.setCell ⟨w.heap.size+1,j,none⟩ u):=by
 have hu:=upd_cell W (w.heap.size+1) j u
 refine⟨h.row.kept hu (fun k e q=>h.own.1 (by rw[e,q])),blk_set h.box,?_,h.blk.mono (memNo_upd hu (fun k _ e=>.inr (.inl e))),h.bel.setCell (by show w.heap.size<=w.heap.size+1;omega) _⟩
 rw[hu.block _ (qh h.res) (by omega)];exact h.res
theorem EdW.call (h:EdW w rv rs cs bv bl W) (hb:Below W.heap.size W W') {v':Value} {bl':List Blk} (hn:BlksM (memSh (memNo W (EdF w.heap.size rv)) W.heap.size W' (fun _=>False)) v' bl'):EdW w rv rs cs v' bl' W':=by
 have k:=h.keep hb
 refine⟨k.row,k.box,k.res,hn.mono (fun a u e=>?_),k.bel⟩
 rcases memSh_cases e with ⟨q1,q2⟩ | ⟨q1,q2⟩
 ·exact memNo_bel hb a u q2
 ·refine memNo_of (memNo_get q2).1 (fun q=>?_)
  rcases q with q | q | q
  ·have:=qh h.res;omega
  ·have:=qh h.box;omega
  ·have:=(h.row.ge _ q).2;omega
theorem EdW.es2 (h:EdW w rv rs cs bv bl W) (hr:∀ x∈rs,x.ok mem) (hs:Sees mem w):EsM2 (fun a=>W.cell? a) (memNo W (EdF w.heap.size rv)) rv rs:=by
 have hm:∀ a u,mem a=some u->memNo W (EdF w.heap.size rv) a=some u:=fun a u e=>by
  have hl:=World.block_lt_of_cell? w a (hs a u e)
  refine memNo_of (hs.bel h.bel a u e) (fun q=>?_)
  rcases q with q | q | q
  ·omega
  ·omega
  ·have:=(h.row.ge _ q).1;omega
 obtain⟨fa,fc,fb,fo,e,h1,h2,h3⟩:=(h.row.es (fun x hx=>((hr x hx).mono hm).mono (memNo_sees W _))).open_
 exact⟨fa,fc,fb,fo,e,h1,h2,fun j hj=>⟨(hr _ (List.getElem_mem hj)).mono hm,(h3 j hj).2⟩⟩
theorem EdW.memW (h:EdW w rv rs cs bv bl W) (hs:Sees mem w):∀ a u,mem a=some u->memNo W (EdF w.heap.size rv) a=some u:=fun a u e=>by
 have hl:=World.block_lt_of_cell? w a (hs a u e)
 refine memNo_of (hs.bel h.bel a u e) (fun q=>?_)
 rcases q with q | q | q
 ·omega
 ·omega
 ·have:=(h.row.ge _ q).1;omega
theorem EdW.grow (h:EdW w rv rs cs bv bl W) {o:Obj} {v':Value} {x:FctE} (hr:FRow W' w.heap.size v' (rs++[x])) (hg:(W.alloc o).grownBy W' rv.ownBlock) (ho:v'.ownBlock=rv.ownBlock\/v'.ownBlock=some (W.alloc o).heap.size):EdW w v' (rs++[x]) cs bv bl W':=by
 have k:=h.keep (bel1 W o)
 have hz:=h.bel.size
 have hlt:∀ q,q<W.heap.size->q<(W.alloc o).heap.size:=fun q hq=>by rw[World.size_alloc];omega
 refine⟨hr,(hg.block _ (hlt _ (qh h.box)) (fun q=>h.own.1 q.symm)).trans k.box,(hg.block _ (hlt _ (qh h.res)) (fun q=>h.own.2 q.symm)).trans k.res,h.blk.mono (fun a u e=>?_),k.bel.grown hg k.bel.size (fun j hj=>(h.row.ge j hj).1)⟩
 obtain⟨q1,q2⟩:=memNo_get e
 have hl:=World.block_lt_of_cell? W a q1
 refine memNo_of ((World.cell?_of_block (hg.block a.block (hlt _ hl) (fun q=>q2 (.inr (.inr q.symm))))).trans (sees_bel (bel1 W o) a u q1)) (fun q=>?_)
 rcases q with q | q | q
 ·exact q2 (.inl q)
 ·exact q2 (.inr (.inl q))
 ·rcases ho with ho | ho
  ·exact q2 (.inr (.inr (ho ▸ q)))
  ·rw[ho]at q
   injection q with q
   rw[World.size_alloc]at q;omega
end
structure EdL (mem:Addr->Option Value) (w:World) (lang:ByteArray) (fs:List FctE) (k:Nat) (rv:Value) (rs:List FctE) (rev:Int) (title:ByteArray) (bl:List Blk) (changed:Int) (bv:Value) (W:World):Prop where
 wld:EdW w rv rs (ednCells ⟨lang,rev,title,[],changed⟩ bv) bv bl W
 oks:∀ x∈rs,x.ok mem
 edi:EdI lang (((fs.take k).map FctE.f).foldl (stepE lang) none) (rs.map FctE.f) rev title bl changed
 gb:GB bl
 len:rs.length<=k
def RefEdition (x:EdnF) (w:World) (e:Ending) (w':World):Prop:=∃ bv,e=.returned (.agg (ednCells x bv))/\BRow w' w.heap.size bv x.blocks/\Below w.heap.size w w'/\GD x.blocks
theorem fold_take {lang:ByteArray} {fs:List FctE} {k:Nat} (h:k<fs.length):((fs.take (k+1)).map FctE.f).foldl (stepE lang) none=stepE lang (((fs.take k).map FctE.f).foldl (stepE lang) none) fs[k].f:=by
 rw[List.take_succ_eq_append_getElem h,List.map_append,List.foldl_append];rfl
theorem corrLang_take {lang:ByteArray} {l:List Corr} {k:Nat} (h:k<l.length):corrLang lang (l.take (k+1))=corrLang lang (l.take k)++(if l[k].lang=lang then [l[k]] else []):=by
 unfold corrLang
 rw[List.take_succ_eq_append_getElem h,List.filter_append]
 congr 1
 by_cases e:l[k].lang=lang
 ·rw[if_pos e,List.filter_cons_of_pos (by simpa using e)];rfl
 ·rw[if_neg e,List.filter_cons_of_neg (by simpa using e)];rfl
theorem built_ednL (lang:ByteArray):Tryz.prog.built 39 [(0,.string lang)]=some (ednCells ⟨lang,0,str0,[],0⟩ (.slice none 0 0)):=by kernel_rfl
set_option maxRecDepth 100000 in
set_option maxHeartbeats 8000000 in
theorem editionR_any {mem:Addr->Option Value} {lv cv:Value} {fs:List FctE} {corr:List Corr} {lang:ByteArray} {e:EdG} (hE:EsM mem lv fs) (hC:CorrsM mem cv corr) (he:(fs.map FctE.f).foldl (stepE lang) none=some e)
 (hgb:∀ x∈fs,GB x.f.blocks) (hct:∀ c∈corr,c.text.size<=1000) (hfl:fs.length<=20000) (hcl:corr.length<=20000) (w:World) (hs:Sees mem w):
 Calls Tryz.prog 62 #[lv,.string lang,cv] w (RefEdition (edFin corr e) w):=by
 obtain⟨fa,fc,fb,fo,rfl,hfm,hfa,hfe⟩:=hE.open_
 obtain⟨ca,cc,cb,co,rfl,hcc,hcm,hca,hcat⟩:=SlM.open_ hC
 have HFA:=Lib.hid hfa
 have HFE:=Lib.hid hfe
 have HCA:=Lib.hid hca
 have HCAT:=Lib.hid hcat
 have HS:=Lib.hid hs
 have HGB:=Lib.hid hgb
 have HCT:=Lib.hid hct
 have HEF:=Lib.hid he
 obtain⟨W2,hW2⟩:∃ W2,W2=(w.alloc (.cells zEdn 39)).alloc (.cells (ednCells ⟨lang,0,str0,[],0⟩ (.slice none 0 0)) 39):=⟨_,rfl⟩
 have H0:Hid (EdL mem w lang fs 0 (.slice none 0 0) [] 0 str0 [] 0 (.slice none 0 0) W2):=Lib.hid (by
  refine⟨⟨FRow.nil _ _,?_,by rw[hW2];exact heap_new1 w _ _,BlksM.nil _,by rw[hW2];exact(bel1 w _).alloc (by simp) _⟩,(by intro x hx;cases hx),?_,GB.nil,Nat.le_refl _⟩
  ·rw[hW2]
   have:=World.alloc_heap_new (w.alloc (.cells zEdn 39)) (.cells (ednCells ⟨lang,0,str0,[],0⟩ (.slice none 0 0)) 39)
   simpa using this
  ·rw[List.take_zero];exact EdI.start lang)
 have HW2:=Lib.hid hW2
 clear hE hC hs hgb hct he hfa hfe hca hcat hW2 hcc
 go_enter Tryz.func62,Tryz.ntmps62
 go_upto_region 2 with (first
  |((with_reducible refine at_sbuild 39 _ rfl ?_);go_must (refine wpList_buildTo rfl 39 _ rfl _ rfl _ (by simp[Act.eval];with_reducible exact built_ednL lang) ?_))
  |((with_reducible refine at_sstore 39 _ _ rfl ?_);go_must (refine wpList_snew rfl S_edn _ _ rfl rfl _ _ (ednCells ⟨lang,0,str0,[],0⟩ (.slice none 0 0)) (by simp[Act.eval]) (by simp[Act.eval]) rfl rfl (by simp[Value.oneCell']) ?_)))
 rw[<-HW2.out]
 clear HW2
 go_wp2_with fail
 go_loopw [9,8] (fun i r wr=>∃ (k:Nat) (ra:Option Addr) (rc:Nat) (rs:List FctE) (rev:Int) (title:ByteArray) (bl:List Blk) (changed:Int) (ba:Option Addr) (bc:Nat),k<=fs.length/\i=.int .i64 k/\r=.slice ra rs.length rc/\Hid (EdL mem w lang fs k (.slice ra rs.length rc) rs rev title bl changed (.slice ba bl.length bc) wr)) (fun i _ _=>fs.length - (intOf i).toNat)
 case atStart=>exact⟨0,none,0,[],0,str0,[],0,none,0,Nat.zero_le _,rfl,rfl,H0⟩
 case round=>
  obtain⟨k,ra,rc,rs,rev,title,bl,changed,ba,bc,hk,rfl,rfl,HL⟩:=hrel
  by_cases hlt:k<fs.length
  ·obtain⟨hxo,hat⟩:=HFE.out k hlt
   obtain rfl:=HFA.out (by omega)
   have HAT:Hid (fs[k].at (fun p=>wr.cell? p) fb (fo+k * 23)):=Lib.hid (fun j u hj=>(HS.out.bel HL.out.wld.bel) _ _ (hat j u hj))
   have HXO:=Lib.hid hxo
   have HXG:=Lib.hid (HGB.out _ (List.getElem_mem hlt))
   have HST:=Lib.hid (fold_take (lang:=lang) hlt)
   have HSZ:Hid (fs[k].cells.size=23):=Lib.hid rfl
   have HON:=Lib.hid (fs[k].one)
   have HW:=Lib.hid HL.out.wld
   have HOKS:=Lib.hid HL.out.oks
   have HEDI:=Lib.hid HL.out.edi
   have HGBL:=Lib.hid HL.out.gb
   have hrl:=HL.out.len
   have hflk:(k:Int)<fs.length:=by omega
   clear hxo hat HL
   generalize hO:((fs.take k).map FctE.f).foldl (stepE lang) none=O at *
   generalize hO2:((fs.take (k+1)).map FctE.f).foldl (stepE lang) none=O2 at *
   clear hO
   generalize fs[k]=x at *
   go_upto_region 7 with (first
    |((with_reducible refine at_fload _ rfl ?_);go_must (refine wpList_fct_mid rfl _ rfl (by simp[Act.eval]) HAT.out ?_))
    |((with_reducible refine at_fstore _ _ rfl ?_);go_must (refine wpList_fct_new rfl _ _ rfl rfl _ _ _ (by simp[Act.eval]) (by simp[Act.eval]) (by rfl) HSZ.out HON.out ?_)))
   obtain⟨W5,hW5⟩:∃ W5,W5=wr.alloc (.cells x.cells 50):=⟨_,rfl⟩
   rw[<-hW5]
   have hb5:Below wr.heap.size wr W5:=by rw[hW5];exact bel1 _ _
   have HX5:Hid (W5.heap[wr.heap.size]?=some (.cells (fctCells x.f x.tv x.bv x.av) 50 (0,0))):=Lib.hid (by rw[hW5,<-FctE.cells_eq];exact World.alloc_heap_new _ _)
   have HW5:=Lib.hid (HW.out.keep hb5)
   have hTN:w.heap.size+1<wr.heap.size:=qh HW.out.box
   generalize wr.heap.size=N at *
   clear hW5 hb5 HAT HW
   have c4:W5.cell? ⟨N,4,none⟩=some (.string x.f.lang):=rowcell HX5.out
   have c2:W5.cell? ⟨N,2,none⟩=some (.int .i64 x.f.kind):=rowcell HX5.out
   have c0:W5.cell? ⟨N,0,none⟩=some (.int .i64 x.f.n):=rowcell HX5.out
   by_cases hlg:x.f.lang=lang
   case' neg=>
    have s1:(x.f.lang.toList == lang.toList)=false:=(str_dec _ _).trans (decide_eq_false hlg)
    have HN:Hid (EdL mem w lang fs (k+1) (.slice ra rs.length rc) rs rev title bl changed (.slice ba bl.length bc) W5):=Lib.hid ⟨HW5.out,HOKS.out,by rw[hO2,HST.out];exact HEDI.out.skip (.inl hlg),HGBL.out,by omega⟩
    clear hlg
    go_wp2_with fail
    go_roundw
    case rel=>exact⟨k+1,ra,rc,rs,rev,title,bl,changed,ba,bc,by omega,by go_num,rfl,HN⟩
    case measure=>(try simp only[intOf]);omega
   have s1:(x.f.lang.toList == lang.toList)=true:=(str_dec _ _).trans (decide_eq_true hlg)
   have HLG:=Lib.hid hlg
   clear hlg
   by_cases hk1:x.f.kind=1
   case' neg=>
    by_cases hk4:x.f.kind=4
    case' neg=>
     have n1:(x.f.kind == 1)=false:=by simpa using hk1
     have n4:(x.f.kind == 4)=false:=by simpa using hk4
     have m1:(x.f.kind != 1)=true:=by simpa using hk1
     have m4:(x.f.kind != 4)=true:=by simpa using hk4
     have HN:Hid (EdL mem w lang fs (k+1) (.slice ra rs.length rc) rs rev title bl changed (.slice ba bl.length bc) W5):=Lib.hid ⟨HW5.out,HOKS.out,by rw[hO2,HST.out];exact HEDI.out.skip (.inr ⟨hk1,hk4⟩),HGBL.out,by omega⟩
     clear hk1 hk4
     go_wp2_with fail
     go_roundw
     case rel=>exact⟨k+1,ra,rc,rs,rev,title,bl,changed,ba,bc,by omega,by go_num,rfl,HN⟩
     case measure=>(try simp only[intOf]);omega
    have HN:Hid (EdL mem w lang fs (k+1) (.slice ra rs.length rc) rs rev title bl x.f.n (.slice ba bl.length bc) (W5.setCell ⟨w.heap.size+1,4,none⟩ (.int .i64 x.f.n))):=Lib.hid ⟨HW5.out.set 4 _,HOKS.out,by rw[hO2,HST.out];exact HEDI.out.corr HLG.out hk4,HGBL.out,by omega⟩
    rw[hk4]at c2
    have HX6:Hid ((W5.setCell ⟨w.heap.size+1,4,none⟩ (.int .i64 x.f.n)).heap[N]?=some (.cells (fctCells x.f x.tv x.bv x.av) 50 (0,0))):=Lib.hid (by rw[Below.heap_setCell _ _ _ _ (by simp only;omega)];exact HX5.out)
    have k4:W5.cell? ⟨w.heap.size+1,4,none⟩=some (.int .i64 changed):=rowcell HW5.out.box
    have z4:W5.frozen? ⟨w.heap.size+1,4,none⟩=false:=rowfree HW5.out.box
    have HK4:=Lib.hid hk4
    clear hk1 hk4
    go_upto_region 9 with fail
    obtain⟨W6,hW6⟩:∃ W6,W6=W5.setCell ⟨w.heap.size+1,4,none⟩ (.int .i64 x.f.n):=⟨_,rfl⟩
    rw[<-hW6]at HN HX6 ⊢
    have d2:W6.cell? ⟨N,2,none⟩=some (.int .i64 4):=(rowcell HX6.out).trans (by rw[<-HK4.out];rfl)
    clear hW6 c0 c2 c4 k4 z4
    go_wp2_with fail
    go_roundw
    case rel=>exact⟨k+1,ra,rc,rs,rev,title,bl,x.f.n,ba,bc,by omega,by go_num,rfl,HN⟩
    case measure=>(try simp only[intOf]);omega
   have HK1:=Lib.hid hk1
   rw[hk1]at c2
   have k4:W5.cell? ⟨w.heap.size+1,4,none⟩=some (.int .i64 changed):=rowcell HW5.out.box
   have z4:W5.frozen? ⟨w.heap.size+1,4,none⟩=false:=rowfree HW5.out.box
   have HW6:=Lib.hid (HW5.out.set 4 (.int .i64 x.f.n))
   have HX6:Hid ((W5.setCell ⟨w.heap.size+1,4,none⟩ (.int .i64 x.f.n)).heap[N]?=some (.cells (fctCells x.f x.tv x.bv x.av) 50 (0,0))):=Lib.hid (by rw[Below.heap_setCell _ _ _ _ (by simp only;omega)];exact HX5.out)
   clear hk1
   go_upto_region 9 with fail
   obtain⟨W6,hW6⟩:∃ W6,W6=W5.setCell ⟨w.heap.size+1,4,none⟩ (.int .i64 x.f.n):=⟨_,rfl⟩
   rw[<-hW6]at HW6 HX6 ⊢
   clear hW6 c0 c2 c4 k4 z4 HW5 HX5
   have c2:W6.cell? ⟨N,2,none⟩=some (.int .i64 1):=(rowcell HX6.out).trans (by rw[<-HK1.out];rfl)
   have c7:W6.cell? ⟨N,7,none⟩=some (.string x.f.title):=rowcell HX6.out
   have k2:W6.cell? ⟨w.heap.size+1,2,none⟩=some (.string title):=rowcell HW6.out.box
   have z2:W6.frozen? ⟨w.heap.size+1,2,none⟩=false:=rowfree HW6.out.box
   have HW7:=Lib.hid (HW6.out.set 2 (.string x.f.title))
   have HX7:Hid ((W6.setCell ⟨w.heap.size+1,2,none⟩ (.string x.f.title)).heap[N]?=some (.cells (fctCells x.f x.tv x.bv x.av) 50 (0,0))):=Lib.hid (by rw[Below.heap_setCell _ _ _ _ (by simp only;omega)];exact HX6.out)
   go_upto_region 11 with fail
   obtain⟨W7,hW7⟩:∃ W7,W7=W6.setCell ⟨w.heap.size+1,2,none⟩ (.string x.f.title):=⟨_,rfl⟩
   rw[<-hW7]at HW7 HX7 ⊢
   clear hW7 c2 c7 k2 z2 HW6 HX6
   have c5:W7.cell? ⟨N,5,none⟩=some (.int .i64 x.f.rev):=rowcell HX7.out
   have k1:W7.cell? ⟨w.heap.size+1,1,none⟩=some (.int .i64 rev):=rowcell HW7.out.box
   have z1:W7.frozen? ⟨w.heap.size+1,1,none⟩=false:=rowfree HW7.out.box
   have HW8:=Lib.hid (HW7.out.set 1 (.int .i64 x.f.rev))
   have HX8:Hid ((W7.setCell ⟨w.heap.size+1,1,none⟩ (.int .i64 x.f.rev)).heap[N]?=some (.cells (fctCells x.f x.tv x.bv x.av) 50 (0,0))):=Lib.hid (by rw[Below.heap_setCell _ _ _ _ (by simp only;omega)];exact HX7.out)
   have hcase:(rs.length=0/\(if rs.map FctE.f=[]\/rev<x.f.rev then x.f.rev else rev)=x.f.rev)\/((rs.length≠0/\rev<x.f.rev)/\(if rs.map FctE.f=[]\/rev<x.f.rev then x.f.rev else rev)=x.f.rev)\/((rs.length≠0/\¬ rev<x.f.rev)/\(if rs.map FctE.f=[]\/rev<x.f.rev then x.f.rev else rev)=rev):=by
    rcases rs with _ | ⟨r0,rr⟩
    ·exact .inl ⟨rfl,if_pos (.inl rfl)⟩
    ·by_cases q:rev<x.f.rev
     ·exact .inr (.inl ⟨⟨by simp,q⟩,if_pos (.inr q)⟩)
     ·exact .inr (.inr ⟨⟨by simp,q⟩,if_neg (by simp[q])⟩)
   have HNX:=Lib.hid (HEDI.out.rev_ HLG.out HK1.out)
   have HGB2:Hid (GB (revised (rs.map FctE.f) bl x.f)):=Lib.hid (GB.revised HGBL.out HXG.out)
   generalize hRV:(if rs.map FctE.f=[]\/rev<x.f.rev then x.f.rev else rev)=rev2 at *
   rw[<-HST.out,<-hO2]at HNX
   clear hRV HEDI HGBL HK1 HLG s1
   rcases hcase with ⟨h0,rfl⟩ | ⟨⟨h0,h1⟩,rfl⟩ | ⟨⟨h0,h1⟩,rfl⟩
   case' inr.inr=>have hb0:((rs.length:Int) == 0)=false:=by rw[beq_eq_false_iff_ne];omega
   case' inr.inl=>have hb0:((rs.length:Int) == 0)=false:=by rw[beq_eq_false_iff_ne];omega
   case' inl=>have hb0:((rs.length:Int) == 0)=true:=by rw[beq_iff_eq];omega
   all_goals clear h0
   ·go_upto_region 13 with fail
    obtain⟨W8,hW8⟩:∃ W8,W8=W7.setCell ⟨w.heap.size+1,1,none⟩ (.int .i64 x.f.rev):=⟨_,rfl⟩
    rw[<-hW8]at HW8 HX8 ⊢
    clear hW8 c5 k1 z1 HW7 HX7
    have c3:W8.cell? ⟨w.heap.size+1,3,none⟩=some (.slice ba bl.length bc):=rowcell HW8.out.box
    have cR:=Lib.hid (revised_any (HW8.out.es2 HOKS.out HS.out) HW8.out.blk (HXO.out.mono (HW8.out.memW HS.out)) W8 (memNo_sees W8 _) (Sees.self W8))
    go_wp2_with ((with_reducible refine at_fload _ rfl ?_);go_must (refine wpList_fct_load rfl _ rfl N (by simp[Act.eval]) x.cells HX8.out rfl ?_))
    refine cR.out.mono ?_
    rintro e W9 ⟨nv,rfl,hnb,hb9⟩
    have HWA:=Lib.hid (HW8.out.call hb9 hnb)
    obtain⟨na,nc,rfl⟩:=hnb.slice
    have HXA:=Lib.hid ((hb9.block _ (qh HX8.out)).trans HX8.out)
    generalize hNB:revised (rs.map FctE.f) bl x.f=nbl at *
    clear hnb hb9 cR c3
    have k3:W9.cell? ⟨w.heap.size+1,3,none⟩=some (.slice ba bl.length bc):=rowcell HWA.out.box
    have z3:W9.frozen? ⟨w.heap.size+1,3,none⟩=false:=rowfree HWA.out.box
    have HWB:=Lib.hid (HWA.out.set 3 (.slice na nbl.length nc))
    have HXB:Hid ((W9.setCell ⟨w.heap.size+1,3,none⟩ (.slice na nbl.length nc)).heap[N]?=some (.cells (fctCells x.f x.tv x.bv x.av) 50 (0,0))):=Lib.hid (by rw[Below.heap_setCell _ _ _ _ (by simp only;omega)];exact HXA.out)
    go_upto_region 14 with fail
    obtain⟨WB,hWB⟩:∃ WB,WB=W9.setCell ⟨w.heap.size+1,3,none⟩ (.slice na nbl.length nc):=⟨_,rfl⟩
    rw[<-hWB]at HWB HXB ⊢
    clear hWB k3 z3 HWA HXA
    have hwB:=HWB.out.bel.size
    go_wp2_with (first
     |((with_reducible refine at_fload _ rfl ?_);go_must (refine wpList_fct_load rfl _ rfl N (by simp[Act.eval]) x.cells HXB.out rfl ?_))
     |((with_reducible refine at_fslice _ rfl ?_);go_must (refine wpList_fct_slice rfl _ rfl x (by simp[Act.eval,Act.put]) ?_))
     |((with_reducible refine at_sappend _ _ 22 rfl ?_);go_must (refine wpList_app_fct rfl _ _ rfl w.heap.size _ rs (by simp[Act.eval,Act.put]) (HWB.out.row.same (fun q hq=>(bel1 WB _).block q (HWB.out.row.ge q hq).2)) x WB.heap.size 1 (by simp[Act.eval,Act.put]) (World.alloc_heap_new _ _) (by omega) (by rw[World.size_alloc];omega) ?_);intro v16 w16 hr16 hg16 hob16;obtain⟨qa,qc,hv16⟩:=hr16.shape;subst hv16;have HN:Hid (EdL mem w lang fs (k+1) (.slice qa (rs++[x]).length qc) (rs++[x]) x.f.rev x.f.title nbl x.f.n (.slice na nbl.length nc) w16):=Lib.hid ⟨HWB.out.grow hr16 hg16 hob16,(fun y hy=>by
        rcases List.mem_append.1 hy with hy | hy
        ·exact HOKS.out y hy
        ·rw[List.mem_singleton.1 hy];exact HXO.out),by rw[List.map_append];exact HNX.out,HGB2.out,by rw[List.length_append];simp;omega⟩;clear hr16 hg16 hob16))
    go_roundw
    case rel=>exact⟨k+1,qa,qc,rs++[x],x.f.rev,x.f.title,nbl,x.f.n,na,nc,by omega,by go_num,(by rw[List.length_append];rfl),HN⟩
    case measure=>(try simp only[intOf]);omega
   ·go_upto_region 13 with fail
    obtain⟨W8,hW8⟩:∃ W8,W8=W7.setCell ⟨w.heap.size+1,1,none⟩ (.int .i64 x.f.rev):=⟨_,rfl⟩
    rw[<-hW8]at HW8 HX8 ⊢
    clear hW8 c5 k1 z1 HW7 HX7
    have c3:W8.cell? ⟨w.heap.size+1,3,none⟩=some (.slice ba bl.length bc):=rowcell HW8.out.box
    have cR:=Lib.hid (revised_any (HW8.out.es2 HOKS.out HS.out) HW8.out.blk (HXO.out.mono (HW8.out.memW HS.out)) W8 (memNo_sees W8 _) (Sees.self W8))
    go_wp2_with ((with_reducible refine at_fload _ rfl ?_);go_must (refine wpList_fct_load rfl _ rfl N (by simp[Act.eval]) x.cells HX8.out rfl ?_))
    refine cR.out.mono ?_
    rintro e W9 ⟨nv,rfl,hnb,hb9⟩
    have HWA:=Lib.hid (HW8.out.call hb9 hnb)
    obtain⟨na,nc,rfl⟩:=hnb.slice
    have HXA:=Lib.hid ((hb9.block _ (qh HX8.out)).trans HX8.out)
    generalize hNB:revised (rs.map FctE.f) bl x.f=nbl at *
    clear hnb hb9 cR c3
    have k3:W9.cell? ⟨w.heap.size+1,3,none⟩=some (.slice ba bl.length bc):=rowcell HWA.out.box
    have z3:W9.frozen? ⟨w.heap.size+1,3,none⟩=false:=rowfree HWA.out.box
    have HWB:=Lib.hid (HWA.out.set 3 (.slice na nbl.length nc))
    have HXB:Hid ((W9.setCell ⟨w.heap.size+1,3,none⟩ (.slice na nbl.length nc)).heap[N]?=some (.cells (fctCells x.f x.tv x.bv x.av) 50 (0,0))):=Lib.hid (by rw[Below.heap_setCell _ _ _ _ (by simp only;omega)];exact HXA.out)
    go_upto_region 14 with fail
    obtain⟨WB,hWB⟩:∃ WB,WB=W9.setCell ⟨w.heap.size+1,3,none⟩ (.slice na nbl.length nc):=⟨_,rfl⟩
    rw[<-hWB]at HWB HXB ⊢
    clear hWB k3 z3 HWA HXA
    have hwB:=HWB.out.bel.size
    go_wp2_with (first
     |((with_reducible refine at_fload _ rfl ?_);go_must (refine wpList_fct_load rfl _ rfl N (by simp[Act.eval]) x.cells HXB.out rfl ?_))
     |((with_reducible refine at_fslice _ rfl ?_);go_must (refine wpList_fct_slice rfl _ rfl x (by simp[Act.eval,Act.put]) ?_))
     |((with_reducible refine at_sappend _ _ 22 rfl ?_);go_must (refine wpList_app_fct rfl _ _ rfl w.heap.size _ rs (by simp[Act.eval,Act.put]) (HWB.out.row.same (fun q hq=>(bel1 WB _).block q (HWB.out.row.ge q hq).2)) x WB.heap.size 1 (by simp[Act.eval,Act.put]) (World.alloc_heap_new _ _) (by omega) (by rw[World.size_alloc];omega) ?_);intro v16 w16 hr16 hg16 hob16;obtain⟨qa,qc,hv16⟩:=hr16.shape;subst hv16;have HN:Hid (EdL mem w lang fs (k+1) (.slice qa (rs++[x]).length qc) (rs++[x]) x.f.rev x.f.title nbl x.f.n (.slice na nbl.length nc) w16):=Lib.hid ⟨HWB.out.grow hr16 hg16 hob16,(fun y hy=>by
        rcases List.mem_append.1 hy with hy | hy
        ·exact HOKS.out y hy
        ·rw[List.mem_singleton.1 hy];exact HXO.out),by rw[List.map_append];exact HNX.out,HGB2.out,by rw[List.length_append];simp;omega⟩;clear hr16 hg16 hob16))
    go_roundw
    case rel=>exact⟨k+1,qa,qc,rs++[x],x.f.rev,x.f.title,nbl,x.f.n,na,nc,by omega,by go_num,(by rw[List.length_append];rfl),HN⟩
    case measure=>(try simp only[intOf]);omega
   ·go_upto_region 13 with fail
    clear c5 k1 z1 HW8 HX8
    have c3:W7.cell? ⟨w.heap.size+1,3,none⟩=some (.slice ba bl.length bc):=rowcell HW7.out.box
    have cR:=Lib.hid (revised_any (HW7.out.es2 HOKS.out HS.out) HW7.out.blk (HXO.out.mono (HW7.out.memW HS.out)) W7 (memNo_sees W7 _) (Sees.self W7))
    go_wp2_with ((with_reducible refine at_fload _ rfl ?_);go_must (refine wpList_fct_load rfl _ rfl N (by simp[Act.eval]) x.cells HX7.out rfl ?_))
    refine cR.out.mono ?_
    rintro e W9 ⟨nv,rfl,hnb,hb9⟩
    have HWA:=Lib.hid (HW7.out.call hb9 hnb)
    obtain⟨na,nc,rfl⟩:=hnb.slice
    have HXA:=Lib.hid ((hb9.block _ (qh HX7.out)).trans HX7.out)
    generalize hNB:revised (rs.map FctE.f) bl x.f=nbl at *
    clear hnb hb9 cR c3
    have k3:W9.cell? ⟨w.heap.size+1,3,none⟩=some (.slice ba bl.length bc):=rowcell HWA.out.box
    have z3:W9.frozen? ⟨w.heap.size+1,3,none⟩=false:=rowfree HWA.out.box
    have HWB:=Lib.hid (HWA.out.set 3 (.slice na nbl.length nc))
    have HXB:Hid ((W9.setCell ⟨w.heap.size+1,3,none⟩ (.slice na nbl.length nc)).heap[N]?=some (.cells (fctCells x.f x.tv x.bv x.av) 50 (0,0))):=Lib.hid (by rw[Below.heap_setCell _ _ _ _ (by simp only;omega)];exact HXA.out)
    go_upto_region 14 with fail
    obtain⟨WB,hWB⟩:∃ WB,WB=W9.setCell ⟨w.heap.size+1,3,none⟩ (.slice na nbl.length nc):=⟨_,rfl⟩
    rw[<-hWB]at HWB HXB ⊢
    clear hWB k3 z3 HWA HXA
    have hwB:=HWB.out.bel.size
    go_wp2_with (first
     |((with_reducible refine at_fload _ rfl ?_);go_must (refine wpList_fct_load rfl _ rfl N (by simp[Act.eval]) x.cells HXB.out rfl ?_))
     |((with_reducible refine at_fslice _ rfl ?_);go_must (refine wpList_fct_slice rfl _ rfl x (by simp[Act.eval,Act.put]) ?_))
     |((with_reducible refine at_sappend _ _ 22 rfl ?_);go_must (refine wpList_app_fct rfl _ _ rfl w.heap.size _ rs (by simp[Act.eval,Act.put]) (HWB.out.row.same (fun q hq=>(bel1 WB _).block q (HWB.out.row.ge q hq).2)) x WB.heap.size 1 (by simp[Act.eval,Act.put]) (World.alloc_heap_new _ _) (by omega) (by rw[World.size_alloc];omega) ?_);intro v16 w16 hr16 hg16 hob16;obtain⟨qa,qc,hv16⟩:=hr16.shape;subst hv16;have HN:Hid (EdL mem w lang fs (k+1) (.slice qa (rs++[x]).length qc) (rs++[x]) rev2 x.f.title nbl x.f.n (.slice na nbl.length nc) w16):=Lib.hid ⟨HWB.out.grow hr16 hg16 hob16,(fun y hy=>by
        rcases List.mem_append.1 hy with hy | hy
        ·exact HOKS.out y hy
        ·rw[List.mem_singleton.1 hy];exact HXO.out),by rw[List.map_append];exact HNX.out,HGB2.out,by rw[List.length_append];simp;omega⟩;clear hr16 hg16 hob16))
    go_roundw
    case rel=>exact⟨k+1,qa,qc,rs++[x],rev2,x.f.title,nbl,x.f.n,na,nc,by omega,by go_num,(by rw[List.length_append];rfl),HN⟩
    case measure=>(try simp only[intOf]);omega
  ·obtain rfl:k=fs.length:=by omega
   have HW:=Lib.hid HL.out.wld
   have HFIN:Hid (edFin corr e=⟨lang,rev,title,(corrLang lang corr).foldl applyF bl,changed⟩):=Lib.hid (by
    have h:=HL.out.edi
    rw[List.take_length,HEF.out]at h
    exact h.fin corr)
   have HGBL:=Lib.hid HL.out.gb
   have k3:wr.cell? ⟨w.heap.size+1,3,none⟩=some (.slice ba bl.length bc):=rowcell HW.out.box
   have cB:=Lib.hid (refBlocks_any HW.out.blk (by have:=HGBL.out.1;omega) (fun x hx=>by have:=(HGBL.out.2 x hx).2;omega) wr (memNo_sees wr _))
   have HOKB:=Lib.hid (blks_ok HW.out.blk)
   clear HL
   go_wp2_with fail
   refine cB.out.mono ?_
   rintro e3 W3 ⟨v3,rfl,hr3,hb3⟩
   obtain⟨va,vc,rfl⟩:=hr3.shape
   have HR3:=Lib.hid hr3
   have hn3:=(hb3.block _ (qh HW.out.box)).trans HW.out.box
   have HN3:=Lib.hid hn3
   have HZ3:=Lib.hid ((hb3.block _ (qh HW.out.res)).trans HW.out.res)
   have HB3:Hid (Below w.heap.size w W3):=Lib.hid (HW.out.bel.trans (hb3.mono HW.out.bel.size))
   have q3:W3.cell? ⟨w.heap.size+1,3,none⟩=some (.slice ba bl.length bc):=rowcell hn3
   have z3:W3.frozen? ⟨w.heap.size+1,3,none⟩=false:=rowfree hn3
   have hTN:w.heap.size+1<wr.heap.size:=qh HW.out.box
   clear hr3 hb3 hn3 cB k3
   go_upto_region 16 with fail
   have hu4:=upd_cell W3 (w.heap.size+1) 3 (.slice va bl.length vc)
   obtain⟨W4,hW4⟩:∃ W4,W4=W3.setCell ⟨w.heap.size+1,3,none⟩ (.slice va bl.length vc):=⟨_,rfl⟩
   rw[<-hW4]at hu4 ⊢
   have HR4:Hid (BRow W4 wr.heap.size (.slice va bl.length vc) bl):=Lib.hid (HR3.out.kept hu4 (fun k e=>.inl (by omega)))
   have HN4:Hid (W4.heap[w.heap.size+1]?=some (.cells (ednCells ⟨lang,rev,title,[],changed⟩ (.slice va bl.length vc)) 39 (0,0))):=Lib.hid (by rw[hW4];exact blk_set HN3.out)
   have HZ4:Hid (W4.heap[w.heap.size]?=some (.cells zEdn 39 (0,0))):=Lib.hid (by rw[hW4,Below.heap_setCell _ _ _ _ (by simp only;omega)];exact HZ3.out)
   have HB4:Hid (Below w.heap.size w W4):=Lib.hid (by rw[hW4];exact HB3.out.setCell (by show w.heap.size<=w.heap.size+1;omega) _)
   generalize hB:wr.heap.size=B at *
   clear hW4 hu4 q3 z3 HR3 HN3 HZ3 HB3 HW hB
   have hcl2:corr.length<=9223372036854775807:=by omega
   have HGC0:Hid (GC bl 0):=Lib.hid (GC.zero HGBL.out (fun x hx=>(HOKB.out x hx).2))
   go_wp2_with fail
   go_loopw [11] (fun i wr=>∃ (k:Nat) (cl:List Blk) (n:Nat),k<=corr.length/\i=.int .i64 k/\n<=k/\cl.length=bl.length/\Hid (cl=(corrLang lang (corr.take k)).foldl applyF bl/\GC cl n)/\Hid (BRow wr B (.slice va bl.length vc) cl)/\Hid (wr.heap[w.heap.size+1]?=some (.cells (ednCells ⟨lang,rev,title,[],changed⟩ (.slice va bl.length vc)) 39 (0,0))/\wr.heap[w.heap.size]?=some (.cells zEdn 39 (0,0))/\Below w.heap.size w wr)) (fun i _=>corr.length - (intOf i).toNat)
   case atStart=>exact⟨0,bl,0,Nat.zero_le _,rfl,Nat.le_refl _,rfl,Lib.hid ⟨by rw[List.take_zero];rfl,HGC0.out⟩,HR4,Lib.hid ⟨HN4.out,HZ4.out,HB4.out⟩⟩
   case round=>
    obtain⟨k,cl,n,hk,rfl,hnk,hcll,HCL,HR,HW⟩:=hrel
    by_cases hlt:k<corr.length
    ·obtain rfl:=HCA.out (by omega)
     have HCC:=Lib.hid (HCAT.out k hlt)
     have HCX:=Lib.hid (HCT.out _ (List.getElem_mem hlt))
     have HTK:=Lib.hid (corrLang_take (lang:=lang) hlt)
     generalize corr[k]=c at *
     have HCW:=Lib.hid (cells_see (sz:=5) (HS.out.bel HW.out.2.2) HCC.out.2 rfl)
     have c0:wr.cell? ⟨cb,co+k * 5,none⟩=some (.string c.lang):=HCW.out 0 (by omega)
     have hck:(k:Int)<corr.length:=by omega
     by_cases hlg:c.lang=lang
     case' neg=>
      have s1:(c.lang.toList == lang.toList)=false:=(str_dec _ _).trans (decide_eq_false hlg)
      have HC2:Hid (cl=(corrLang lang (corr.take (k+1))).foldl applyF bl/\GC cl n):=Lib.hid ⟨by rw[HTK.out,if_neg hlg,List.append_nil];exact HCL.out.1,HCL.out.2⟩
      clear hlg
      go_wp2_with fail
      go_roundw
      case rel=>exact⟨k+1,cl,n,by omega,by go_num,by omega,hcll,HC2,HR,HW⟩
      case measure=>(try simp only[intOf]);omega
     have s1:(c.lang.toList == lang.toList)=true:=(str_dec _ _).trans (decide_eq_true hlg)
     have HC2:Hid (applyF cl c=(corrLang lang (corr.take (k+1))).foldl applyF bl/\GC (applyF cl c) (n+1)):=Lib.hid ⟨by rw[HTK.out,if_pos hlg,List.foldl_append,<-HCL.out.1];rfl,HCL.out.2.step HCX.out⟩
     have hal:(applyF cl c).length=bl.length:=by rw[applyF_len];exact hcll
     clear hlg
     have k3:wr.cell? ⟨w.heap.size+1,3,none⟩=some (.slice va bl.length vc):=rowcell HW.out.1
     have cA:=Lib.hid (corrected_any wr.drew (c:=c) (B:=B) (v:=.slice va bl.length vc) (l:=cl) HR.out (fun x hx=>by
      have h1:=HCL.out.2.1.2 x hx
      omega) (by have:=HCX.out;omega))
     have HBH:Hid (∀ q,(Value.slice va bl.length vc).ownBlock=some q->B<=q):=Lib.hid (fun q hq=>(HR.out.ge q hq).1)
     go_upto_region 20 with fail
     refine wp_tail 6 (by kernel_rfl) (by kernel_rfl) ?_
     simp only[List.take_succ_cons,List.take_zero,List.drop_succ_cons,List.drop_zero]
     still_step
     still_step
     still_step
     still_step
     still_step
     refine wpStill_value rfl _ (exec_smid S_corr _ rfl (by simp[Act.eval]) (corrCells c) rfl HCW.out) ?_
     simp only[Act.put,List.setIfInBounds_toArray,List.set_cons_zero,List.set_cons_succ]
     refine wpStill_nil ?_
     clear k3 c0
     go_wp2_with fail
     refine cA.out.mono ?_
     rintro e4 W5 ⟨rfl,hr5,hu5⟩
     have HR5:=Lib.hid hr5
     have hn5:W5.heap[w.heap.size+1]?=some (.cells (ednCells ⟨lang,rev,title,[],changed⟩ (.slice va bl.length vc)) 39 (0,0)):=(hu5.block _ (qh HW.out.1) (fun q=>by have:=HBH.out _ q;omega)).trans HW.out.1
     have hz5:W5.heap[w.heap.size]?=some (.cells zEdn 39 (0,0)):=(hu5.block _ (qh HW.out.2.1) (fun q=>by have:=HBH.out _ q;omega)).trans HW.out.2.1
     have hb5:Below w.heap.size w W5:=HW.out.2.2.drew.trans (hu5.below (fun q hq=>by have:=HBH.out q hq;omega) HW.out.2.2.size)
     have q3:W5.cell? ⟨w.heap.size+1,3,none⟩=some (.slice va bl.length vc):=rowcell hn5
     have z3:W5.frozen? ⟨w.heap.size+1,3,none⟩=false:=rowfree hn5
     have hu6:=upd_cell W5 (w.heap.size+1) 3 (.slice va bl.length vc)
     have HR6:Hid (BRow (W5.setCell ⟨w.heap.size+1,3,none⟩ (.slice va bl.length vc)) B (.slice va bl.length vc) (applyF cl c)):=Lib.hid (hr5.kept hu6 (fun q e=>.inl (by omega)))
     have HW6:Hid ((W5.setCell ⟨w.heap.size+1,3,none⟩ (.slice va bl.length vc)).heap[w.heap.size+1]?=some (.cells (ednCells ⟨lang,rev,title,[],changed⟩ (.slice va bl.length vc)) 39 (0,0))/\(W5.setCell ⟨w.heap.size+1,3,none⟩ (.slice va bl.length vc)).heap[w.heap.size]?=some (.cells zEdn 39 (0,0))/\Below w.heap.size w (W5.setCell ⟨w.heap.size+1,3,none⟩ (.slice va bl.length vc))):=Lib.hid ⟨blk_set hn5,by rw[Below.heap_setCell _ _ _ _ (by simp only;omega)];exact hz5,hb5.setCell (by show w.heap.size<=w.heap.size+1;omega) _⟩
     clear hr5 hu5 hn5 hz5 hb5 hu6 cA
     go_wp2_with fail
     go_roundw
     case rel=>exact⟨k+1,applyF cl c,n+1,by omega,by go_num,by omega,hal,HC2,HR6,HW6⟩
     case measure=>(try simp only[intOf]);omega
    ·obtain rfl:k=corr.length:=by omega
     have HCE:Hid (cl=(corrLang lang corr).foldl applyF bl):=Lib.hid (by have:=HCL.out.1;rwa [List.take_length]at this)
     have HGDD:Hid (GD cl):=Lib.hid (HCL.out.2.done (by omega))
     have HN9:=Lib.hid HW.out.1
     have HZ9:=Lib.hid HW.out.2.1
     go_wp2_with (first
      |((with_reducible refine at_sload 39 _ rfl ?_);go_must (refine wpList_sload rfl S_edn _ rfl (by simp[Act.eval]) (ednCells ⟨lang,rev,title,[],changed⟩ (.slice va bl.length vc)) rfl HN9.out ?_))
      |((with_reducible refine at_sstore 39 _ _ rfl ?_);go_must (refine wpList_sstore (cs:=ednCells ⟨lang,rev,title,[],changed⟩ (.slice va bl.length vc)) rfl S_edn _ _ rfl (by simp[Act.eval,Act.put]) (by simp[Act.eval,Act.put]) HZ9.out rfl rfl (by simp[Value.oneCell']) ?_)))
     refine bodyPost_ret (results_cell_row (p:=6) (ty:=39) (by kernel_rfl) _ _ w.heap.size _ _ (0,0) _ (by simp[Act.put]) (setRow_heap _ _ _ _ _ _ HZ9.out) Tryz.underlying39 rfl (by kernel_rfl)) rfl ?_
     unfold RefEdition
     rw[HFIN.out]
     have hu9:=upd_row wr w.heap.size (ednCells ⟨lang,rev,title,[],changed⟩ (.slice va bl.length vc))
     refine⟨_,rfl,?_,below_setRow HW.out.2.2 (Nat.le_refl _) _,by rw[<-HCE.out];exact HGDD.out⟩
     rw[<-HCE.out]
     exact BRow.less (HR.out.kept hu9 (fun q e=>.inl (by omega))) (by omega)
end Go.Proofs.YtdkkhmjlamkgdaaGreatDoor
namespace Go.Proofs.YtdkkhmjlamkgdaaGreatDoor.Mg
section
variable {g:StG} {f:Fct}
theorem stepG_1 (h:f.kind=1):stepG g f={ g with author:=f.author,topics:=f.topics,eds:=upEd f g.eds }:=by unfold stepG;rw[if_pos h]
theorem stepG_3n (h:f.kind=3) (hp:g.pub=none):stepG g f={ g with pub:=some f.n }:=by unfold stepG;rw[if_neg (by omega),if_pos h,hp]
theorem stepG_3s (h:f.kind=3) {n:Int} (hp:g.pub=some n):stepG g f=g:=by unfold stepG;rw[if_neg (by omega),if_pos h,hp]
theorem stepG_4 (h:f.kind=4):stepG g f={ g with corr:=g.corr++[corrOf f],eds:=touchEd f g.eds }:=by unfold stepG;rw[if_neg (by omega),if_neg (by omega),if_pos h]
theorem stepG_5 (h:f.kind=5):stepG g f={ g with retr:=true }:=by unfold stepG;rw[if_neg (by omega),if_neg (by omega),if_neg (by omega),if_pos h]
theorem stepG_6 (h:f.kind=6):stepG g f={ g with taken:=true }:=by unfold stepG;rw[if_neg (by omega),if_neg (by omega),if_neg (by omega),if_neg (by omega),if_pos h]
theorem stepG_no (h1:f.kind≠1) (h3:f.kind≠3) (h4:f.kind≠4) (h5:f.kind≠5) (h6:f.kind≠6):stepG g f=g:=by unfold stepG;rw[if_neg h1,if_neg h3,if_neg h4,if_neg h5,if_neg h6]
end
theorem upEd_mem (f:Fct) (l:List EdG) (y:ByteArray):y∈(upEd f l).map EdG.lang↔y=f.lang\/y∈l.map EdG.lang:=by
 by_cases h:f.lang∈l.map EdG.lang
 ·rw[upEd_in f l h]
  constructor
  ·exact .inr
  ·rintro (rfl | q)
   ·exact h
   ·exact q
 ·rw[upEd_out f l h,List.mem_append,List.mem_singleton];exact Or.comm
structure LanI (ls:List ByteArray) (g:StG):Prop where
 srt:ls.Pairwise ltB
 mem:∀ y,y∈ls↔y∈g.eds.map EdG.lang
theorem LanI.start:LanI [] stg0:=⟨List.Pairwise.nil,fun _=>Iff.rfl⟩
theorem LanI.step {ls:List ByteArray} {g:StG} {f:Fct} (h:LanI ls g) (hk:f.kind=1):LanI (langIns ls f.lang) (stepG g f):=by
 obtain⟨h1,h2⟩:=langIns_is ls f.lang h.srt
 refine⟨h1,fun y=>?_⟩
 rw[stepG_1 hk,h2,upEd_mem,h.mem]
theorem LanI.skip {ls:List ByteArray} {g:StG} {f:Fct} (h:LanI ls g) (hk:f.kind≠1):LanI ls (stepG g f):=by
 have e:(stepG g f).eds.map EdG.lang=g.eds.map EdG.lang:=by
  unfold stepG
  rw[if_neg hk]
  split
  ·split <;> rfl
  split
  ·exact touchEd_langs f g.eds
  split
  ·rfl
  split <;> rfl
 exact⟨h.srt,fun y=>by rw[e];exact h.mem y⟩
theorem langIns_len (l:List ByteArray) (y:ByteArray):(langIns l y).length<=l.length+1:=by
 unfold langIns
 split
 ·omega
 ·rw[putAt_len];exact Nat.le_refl _
end Go.Proofs.YtdkkhmjlamkgdaaGreatDoor.Mg
namespace Go.Proofs.YtdkkhmjlamkgdaaGreatDoor
open Go.RowKit Mg Go.Shelf Go.Maps
structure EdgOK (e:EdG):Prop where
 s0:e.lang.size<=maxLen
 i1:okI e.rev
 s2:e.title.size<=maxLen
 i3:okI e.changed
structure GOK (g:StG):Prop where
 aut:g.author.size<=maxLen
 tsz:∀ s∈g.topics,s.size<=maxLen
 pub:∀ n,g.pub=some n->okI n
 cor:∀ c∈g.corr,CorrOK c
 eds:∀ e∈g.eds,EdgOK e
theorem upEd_all {p:EdG->Prop} {f:Fct} (h0:p (newEd f)) (h1:∀ e,p e->p (reEd f e)):∀ {l:List EdG},(∀ e∈l,p e)->∀ e∈upEd f l,p e
 |[],_,e,he=>by rw[List.mem_singleton.1 he];exact h0
 |a::r,h,e,he=>by
  unfold upEd at he
  split at he
  ·rcases List.mem_cons.1 he with rfl | he
   ·exact h1 _ (h a List.mem_cons_self)
   ·exact h e (List.mem_cons_of_mem _ he)
  ·rcases List.mem_cons.1 he with rfl | he
   ·exact h _ List.mem_cons_self
   ·exact upEd_all h0 h1 (fun y hy=>h y (List.mem_cons_of_mem _ hy)) e he
theorem okI_max {a b:Int} (h1:okI a) (h2:okI b):okI (max a b):=by unfold okI at *;omega
theorem GOK.step {g:StG} (h:GOK g) {f:Fct} (hf:FOK f) (ht:∀ s∈f.topics,s.size<=maxLen):GOK (Mg.stepG g f):=by
 unfold Mg.stepG
 split
 ·exact⟨hf.s8,ht,h.pub,h.cor,upEd_all (p:=EdgOK) ⟨hf.s4,hf.i5,hf.s7,hf.i0⟩ (fun e he=>⟨he.s0,okI_max he.i1 hf.i5,hf.s7,hf.i0⟩) h.eds⟩
 split
 ·split
  ·exact h
  ·exact⟨h.aut,h.tsz,fun n hn=>by injection hn with hn;rw[<-hn];exact hf.i0,h.cor,h.eds⟩
 split
 ·refine⟨h.aut,h.tsz,h.pub,fun c hc=>?_,fun e he=>?_⟩
  ·rcases List.mem_append.1 hc with hc | hc
   ·exact h.cor c hc
   ·rw[List.mem_singleton.1 hc];exact⟨hf.s4,hf.i16,hf.i17,hf.s18,hf.i0⟩
  ·unfold touchEd at he
   obtain⟨y,hy,rfl⟩:=List.mem_map.1 he
   have:=h.eds y hy
   split
   ·exact⟨this.s0,this.i1,this.s2,hf.i0⟩
   ·exact this
 split
 ·exact⟨h.aut,h.tsz,h.pub,h.cor,h.eds⟩
 split
 ·exact⟨h.aut,h.tsz,h.pub,h.cor,h.eds⟩
 ·exact h
theorem GOK.start:GOK stg0:=⟨Nat.zero_le _,(fun s hs=>by cases hs),(fun n hn=>by cases hn),(fun c hc=>by cases hc),fun e he=>by cases he⟩
def SgF (T N:Nat) (cv ev:Value) (k:Nat):Prop:=k<=T\/k=N\/cv.ownBlock=some k\/ev.ownBlock=some k
theorem memNo_grow {W W':World} {F F':Nat->Prop} (hk:∀ k,k<W.heap.size->¬ F k->W'.heap[k]?=W.heap[k]?/\¬ F' k):∀ a u,memNo W F a=some u->memNo W' F' a=some u:=fun a u e=>by
 obtain⟨q1,q2⟩:=memNo_get e
 obtain⟨h1,h2⟩:=hk _ (World.block_lt_of_cell? W a q1) q2
 exact memNo_of ((World.cell?_of_block h1).trans q1) h2
structure SgW (w:World) (N:Nat) (rv:Value) (rs:List FctE) (cs:Array Value) (tv:Value) (tl:List ByteArray) (lv:Value) (ls:List ByteArray) (cv:Value) (co:List Corr) (ev:Value) (eds:List EdnF) (ecs:List (Array Value)) (W:World):Prop where
 row:FRow W w.heap.size rv rs
 box:W.heap[N]?=some (.cells cs 34 (0,0))
 res:W.heap[w.heap.size]?=some (.cells zStyC 34 (0,0))
 top:StrsM (memNo W (SgF w.heap.size N cv ev)) tv tl
 lan:StrsM (memNo W (SgF w.heap.size N cv ev)) lv ls
 cor:GRow W w.heap.size 69 5 cv (co.map corrCells)
 ed:GRow W w.heap.size 39 5 ev ecs
 val:EVals (memNo W (SgF w.heap.size N cv ev)) eds ecs
 bel:Below w.heap.size w W
 low:w.heap.size<N
section
variable {w W W':World} {N:Nat} {rv tv lv cv ev:Value} {rs:List FctE} {cs:Array Value} {tl ls:List ByteArray} {co:List Corr} {eds:List EdnF} {ecs:List (Array Value)}
theorem SgW.keep (h:SgW w N rv rs cs tv tl lv ls cv co ev eds ecs W) (hb:Below W.heap.size W W'):SgW w N rv rs cs tv tl lv ls cv co ev eds ecs W':=
 ⟨h.row.same (fun k hk=>hb.block k (h.row.ge k hk).2),(hb.block _ (qh h.box)).trans h.box,(hb.block _ (qh h.res)).trans h.res,h.top.mono (memNo_bel hb),h.lan.mono (memNo_bel hb),h.cor.bel hb,h.ed.bel hb,h.val.mono (memNo_bel hb),h.bel.trans (hb.mono h.bel.size),h.low⟩
theorem SgW.own (h:SgW w N rv rs cs tv tl lv ls cv co ev eds ecs W):(∀ k,rv.ownBlock=some k->k≠N/\k≠w.heap.size)/\(∀ k,cv.ownBlock=some k->k≠N/\k≠w.heap.size/\rv.ownBlock≠some k)/\(∀ k,ev.ownBlock=some k->k≠N/\k≠w.heap.size/\rv.ownBlock≠some k/\cv.ownBlock≠some k):=by
 refine⟨fun k hk=>?_,fun k hk=>?_,fun k hk=>?_⟩
 ·obtain⟨c,hc⟩:=h.row.blk k hk
  exact⟨rows_apart hc h.box (by decide),rows_apart hc h.res (by decide)⟩
 ·obtain⟨c,hc⟩:=h.cor.blk k hk
  refine⟨rows_apart hc h.box (by decide),rows_apart hc h.res (by decide),fun e=>?_⟩
  obtain⟨c2,hc2⟩:=h.row.blk k e
  exact rows_apart hc hc2 (by decide) rfl
 ·obtain⟨c,hc⟩:=h.ed.blk k hk
  refine⟨rows_apart hc h.box (by decide),rows_apart hc h.res (by decide),fun e=>?_,fun e=>?_⟩
  ·obtain⟨c2,hc2⟩:=h.row.blk k e
   exact rows_apart hc hc2 (by decide) rfl
  ·obtain⟨c2,hc2⟩:=h.cor.blk k e
   exact rows_apart hc hc2 (by decide) rfl
theorem SgW.set (h:SgW w N rv rs cs tv tl lv ls cv co ev eds ecs W) (j:Nat) (u:Value):SgW w N rv rs (cs.setIfInBounds j u) tv tl lv ls cv co ev eds ecs (W.setCell ⟨N,j,none⟩ u):=by
 have hu:=upd_cell W N j u
 obtain⟨o1,o2,o3⟩:=h.own
 have hm:=memNo_upd (F:=SgF w.heap.size N cv ev) hu (fun k _ e=>.inr (.inl e))
 have hl:=h.low
 exact⟨h.row.kept hu (fun k e q=>(o1 k e).1 q),blk_set h.box,by rw[hu.block _ (qh h.res) (by omega)];exact h.res,h.top.mono hm,h.lan.mono hm,h.cor.upd hu (fun k e q=>(o2 k e).1 q),h.ed.upd hu (fun k e q=>(o3 k e).1 q),h.val.mono hm,h.bel.setCell (by show w.heap.size<=N;omega) _,hl⟩
theorem SgW.sh (h:SgW w N rv rs cs tv tl lv ls cv co ev eds ecs W) (hb:Below W.heap.size W W') {v':Value} {l':List ByteArray} (hn:StrsM (memSh (memNo W (SgF w.heap.size N cv ev)) W.heap.size W' (fun _=>False)) v' l'):StrsM (memNo W' (SgF w.heap.size N cv ev)) v' l':=
 hn.mono (fun a u e=>by
  rcases memSh_cases e with ⟨q1,q2⟩ | ⟨q1,q2⟩
  ·exact memNo_bel hb a u q2
  ·refine memNo_of (memNo_get q2).1 (fun q=>?_)
   have:=qh h.res
   have:=qh h.box
   rcases q with q | q | q | q
   ·omega
   ·omega
   ·have:=(h.cor.ge _ q).2;omega
   ·have:=(h.ed.ge _ q).2;omega)
theorem SgW.langs (h:SgW w N rv rs cs tv tl lv ls cv co ev eds ecs W) (hb:Below W.heap.size W W') {v':Value} {l':List ByteArray} (hn:StrsM (memSh (memNo W (SgF w.heap.size N cv ev)) W.heap.size W' (fun _=>False)) v' l'):SgW w N rv rs cs tv tl v' l' cv co ev eds ecs W':=
 { h.keep hb with lan:=h.sh hb hn }
theorem SgW.tops (h:SgW w N rv rs cs tv tl lv ls cv co ev eds ecs W) (hb:Below W.heap.size W W') {v':Value} {l':List ByteArray} (hn:LRow W' W.heap.size v' l') (hl:∀ s∈l',s.size<=maxLen):SgW w N rv rs cs v' l' lv ls cv co ev eds ecs W':=
 { h.keep hb with top:=h.sh hb (strs_sh hn hl) }
theorem SgW.corr (h:SgW w N rv rs cs tv tl lv ls cv co ev eds ecs W) {o:Obj} {v':Value} {c:Corr} (hr:GRow W' w.heap.size 69 5 v' (co.map corrCells++[corrCells c])) (hg:(W.alloc o).grownBy W' cv.ownBlock) (ho:v'.ownBlock=cv.ownBlock\/v'.ownBlock=some (W.alloc o).heap.size):SgW w N rv rs cs tv tl lv ls v' (co++[c]) ev eds ecs W':=by
 obtain⟨o1,o2,o3⟩:=h.own
 have hk:∀ k,k<W.heap.size->cv.ownBlock≠some k->W'.heap[k]?=W.heap[k]?:=fun k hk hne=>by
  have hlt:k<(W.alloc o).heap.size:=by rw[World.size_alloc];omega
  exact(hg.block k hlt (fun q=>hne q.symm)).trans ((bel1 W o).block k hk)
 have hm:∀ a u,memNo W (SgF w.heap.size N cv ev) a=some u->memNo W' (SgF w.heap.size N v' ev) a=some u:=memNo_grow fun k hkl hF=>⟨hk k hkl (fun q=>hF (.inr (.inr (.inl q)))),fun q=>by
  rcases q with q | q | q | q
  ·exact hF (.inl q)
  ·exact hF (.inr (.inl q))
  ·rcases ho with ho | ho
   ·exact hF (.inr (.inr (.inl (ho ▸ q))))
   ·rw[ho]at q;injection q with q;rw[World.size_alloc]at q;omega
  ·exact hF (.inr (.inr (.inr q)))⟩
 exact⟨h.row.same (fun k e=>hk k (h.row.ge k e).2 (fun q=>(o2 k q).2.2 e)),(hk _ (qh h.box) (fun q=>(o2 _ q).1 rfl)).trans h.box,(hk _ (qh h.res) (fun q=>(o2 _ q).2.1 rfl)).trans h.res,h.top.mono hm,h.lan.mono hm,by rw[List.map_append];exact hr,h.ed.same (fun k e=>hk k (h.ed.ge k e).2 (o3 k e).2.2.2),h.val.mono hm,(h.bel.trans ((bel1 W o).mono h.bel.size)).grown hg (by rw[World.size_alloc];have:=h.bel.size;omega) (fun j hj=>(h.cor.ge j hj).1),h.low⟩
theorem SgW.edn (h:SgW w N rv rs cs tv tl lv ls cv co ev eds ecs W) {o:Obj} {v' bv:Value} {x:EdnF} (hr:GRow W' w.heap.size 39 5 v' (ecs++[ednCells x bv])) (hg:(W.alloc o).grownBy W' ev.ownBlock) (ho:v'.ownBlock=ev.ownBlock\/v'.ownBlock=some (W.alloc o).heap.size) (hx:EdnOK x) (hbv:BlksM (memNo W (SgF w.heap.size N cv ev)) bv x.blocks):SgW w N rv rs cs tv tl lv ls cv co v' (eds++[x]) (ecs++[ednCells x bv]) W':=by
 obtain⟨o1,o2,o3⟩:=h.own
 have hk:∀ k,k<W.heap.size->ev.ownBlock≠some k->W'.heap[k]?=W.heap[k]?:=fun k hk hne=>by
  have hlt:k<(W.alloc o).heap.size:=by rw[World.size_alloc];omega
  exact(hg.block k hlt (fun q=>hne q.symm)).trans ((bel1 W o).block k hk)
 have hm:∀ a u,memNo W (SgF w.heap.size N cv ev) a=some u->memNo W' (SgF w.heap.size N cv v') a=some u:=memNo_grow fun k hkl hF=>⟨hk k hkl (fun q=>hF (.inr (.inr (.inr q)))),fun q=>by
  rcases q with q | q | q | q
  ·exact hF (.inl q)
  ·exact hF (.inr (.inl q))
  ·exact hF (.inr (.inr (.inl q)))
  ·rcases ho with ho | ho
   ·exact hF (.inr (.inr (.inr (ho ▸ q))))
   ·rw[ho]at q;injection q with q;rw[World.size_alloc]at q;omega⟩
 exact⟨h.row.same (fun k e=>hk k (h.row.ge k e).2 (fun q=>(o3 k q).2.2.1 e)),(hk _ (qh h.box) (fun q=>(o3 _ q).1 rfl)).trans h.box,(hk _ (qh h.res) (fun q=>(o3 _ q).2.1 rfl)).trans h.res,h.top.mono hm,h.lan.mono hm,h.cor.same (fun k e=>hk k (h.cor.ge k e).2 (fun q=>(o3 k q).2.2.2 e)),hr,(h.val.mono hm).snoc ⟨hx,bv,rfl,hbv.mono hm⟩,(h.bel.trans ((bel1 W o).mono h.bel.size)).grown hg (by rw[World.size_alloc];have:=h.bel.size;omega) (fun j hj=>(h.ed.ge j hj).1),h.low⟩
theorem SgW.blks (h:SgW w N rv rs cs tv tl lv ls cv co ev eds ecs W) {bv:Value} {l:List Blk} (hn:BRow W' W.heap.size bv l) (hp:GD l):BlksM (memNo W' (SgF w.heap.size N cv ev)) bv l:=by
 refine(hn.blks (fun x hx=>⟨by have:=(hp.2 x hx).1;unfold maxLen;omega,(hp.2 x hx).2.1,(hp.2 x hx).2.2.1⟩)).mono (memNo_fr fun k q=>?_)
 have:=qh h.res
 have:=qh h.box
 rcases q with q | q | q | q
 ·show k<W.heap.size;omega
 ·show k<W.heap.size;omega
 ·exact(h.cor.ge _ q).2
 ·exact(h.ed.ge _ q).2
theorem SgW.es (h:SgW w N rv rs cs tv tl lv ls cv co ev eds ecs W) {mem:Addr->Option Value} (hr:∀ x∈rs,x.ok mem) (hs:Sees mem w):EsM (fun a=>W.cell? a) rv rs:=
 h.row.es (fun x hx=>(hr x hx).mono (fun a u e=>(hs.bel h.bel) a u e))
theorem memFr_id {W:World}:∀ a u,memFr W (fun _=>False) a=some u->W.cell? a=some u:=fun a u e=>memFr_sees W _ a u e
theorem SgW.cors (h:SgW w N rv rs cs tv tl lv ls cv co ev eds ecs W) (hc:∀ c∈co,CorrOK c):CorrsM (fun a=>W.cell? a) cv co:=
 (grow_corrs (F:=fun _=>False) h.cor hc (fun _ _ q=>q)).mono memFr_id
theorem SgW.sty {x:StyF} (h:SgW w N rv rs cs tv x.topics lv ls cv x.corr ev x.eds ecs W) (hc:∀ c∈x.corr,CorrOK c):StyP (memNo W (fun k=>k<=w.heap.size)) x tv ev cv:=by
 obtain⟨_,o2,o3⟩:=h.own
 have hm:∀ a u,memNo W (SgF w.heap.size N cv ev) a=some u->memNo W (fun k=>k<=w.heap.size) a=some u:=fun a u e=>by
  obtain⟨q1,q2⟩:=memNo_get e
  exact memNo_of q1 (fun q=>q2 (.inl q))
 have hf:∀ a u,memFr W (fun k=>k<=w.heap.size) a=some u->memNo W (fun k=>k<=w.heap.size) a=some u:=memNo_fr fun _ q=>q
 refine⟨h.top.mono hm,?_,(grow_corrs (F:=fun k=>k<=w.heap.size) h.cor hc (fun j hj (q:j<=w.heap.size)=>by have:=(h.cor.ge j hj).1;have:=(o2 j hj).2.1;omega)).mono hf⟩
 obtain⟨b,h1,h2⟩:=h.ed.cellsFr (F:=fun k=>k<=w.heap.size) (fun j hj (q:j<=w.heap.size)=>by have:=(h.ed.ge j hj).1;have:=(o3 j hj).2.1;omega)
 rw[h.val.1]at h1
 refine⟨b,0,h1,fun j hj=>?_⟩
 have hj2:j<ecs.length:=by rw[h.val.1];exact hj
 obtain⟨e0,bv,e1,e2⟩:=h.val.2 j hj hj2
 refine⟨e0,bv,fun t ht=>?_,e2.mono hm⟩
 have hsz:t<(ecs[j]).size:=by rw[e1];exact ht
 have h3:=h2 j hj2 t ht
 rw[Array.getElem?_eq_getElem hsz]at h3
 rw[hf _ _ h3,<-Array.getElem?_eq_getElem hsz,e1]
end
def VsM {α:Type} (V:α->Array Value->Prop) (l:List α) (cs:List (Array Value)):Prop:=cs.length=l.length/\∀ j (h:j<l.length) (h2:j<cs.length),V l[j] cs[j]
section
variable {α:Type} {V V':α->Array Value->Prop} {l m:List α} {cs ds:List (Array Value)} {x:α} {c:Array Value} {w:World} {sz:Nat} {M M':Addr->Option Value}
theorem VsM.mono (h:VsM V l cs) (hm:∀ x c,V x c->V' x c):VsM V' l cs:=⟨h.1,fun j hj hj2=>hm _ _ (h.2 j hj hj2)⟩
theorem VsM.ones (h:VsM V l cs) (h1:∀ x c,V x c->c.size=sz/\OneC c):∀ c∈cs,c.size=sz/\OneC c:=fun c hc=>by
 obtain⟨j,hj,rfl⟩:=List.getElem_of_mem hc
 exact h1 _ _ (h.2 j (by rw[<-h.1];exact hj) hj)
theorem VsM.take (h:VsM V l cs) (k:Nat):VsM V (l.take k) (cs.take k):=by
 refine⟨by rw[List.length_take,List.length_take,h.1],fun j hj hj2=>?_⟩
 rw[List.getElem_take,List.getElem_take]
 exact h.2 _ _ _
theorem VsM.drop (h:VsM V l cs) (k:Nat):VsM V (l.drop k) (cs.drop k):=by
 refine⟨by rw[List.length_drop,List.length_drop,h.1],fun j hj hj2=>?_⟩
 rw[List.getElem_drop,List.getElem_drop]
 exact h.2 _ _ _
theorem VsM.app (h:VsM V l cs) (h2:VsM V m ds):VsM V (l++m) (cs++ds):=by
 refine⟨by rw[List.length_append,List.length_append,h.1,h2.1],fun j hj hj2=>?_⟩
 by_cases hl:j<l.length
 ·rw[List.getElem_append_left hl,List.getElem_append_left (by rw[h.1];exact hl)]
  exact h.2 j hl _
 ·rw[List.length_append]at hj
  rw[List.getElem_append_right (by omega),List.getElem_append_right (by rw[h.1];omega)]
  simp only[h.1]
  exact h2.2 _ _ _
theorem VsM.one (h:V x c):VsM V [x] [c]:=⟨rfl,fun j hj _=>by
 obtain rfl:j=0:=by simpa using hj
 exact h⟩
theorem SlM.cells {At:α->Nat->Nat->Prop} {v:Value} (h:SlM sz At v l) (hA:∀ x b o,At x b o->∃ c,V x c/\CellsAt M b o c):∃ ao cap b o cs,v=.slice ao l.length cap/\l.length<=cap/\cap<=maxLen/\(0<l.length->ao=some ⟨b,o,none⟩)/\VsM V l cs/\∀ j (h:j<cs.length),CellsAt M b (o+j * sz) cs[j]:=by
 obtain⟨ao,cap,b,o,e,h1,h2,h3,h4⟩:=SlM.open_ h
 have:∀ n,n<=l.length->∃ cs:List (Array Value),cs.length=n/\∀ j (h:j<cs.length) (h2:j<l.length),V l[j] cs[j]/\CellsAt M b (o+j * sz) cs[j]:=fun n=>by
  induction n with
  |zero=>exact fun _=>⟨[],rfl,fun j h=>absurd h (by simp)⟩
  |succ n ih=>
   intro hn
   obtain⟨cs,q1,q2⟩:=ih (by omega)
   obtain⟨c,g1,g2⟩:=hA _ _ _ (h4 n (by omega))
   refine⟨cs++[c],by rw[List.length_append,q1];rfl,fun j hj hj2=>?_⟩
   by_cases hl:j<cs.length
   ·rw[List.getElem_append_left hl];exact q2 j hl hj2
   ·rw[List.length_append,List.length_singleton]at hj
    have ej:j=n:=by omega
    subst ej
    rw[List.getElem_append_right (by omega)]
    simp only[q1,Nat.sub_self,List.getElem_singleton]
    exact⟨g1,g2⟩
 obtain⟨cs,q1,q2⟩:=this _ (Nat.le_refl _)
 exact⟨ao,cap,b,o,cs,e,h1,h2,h3,⟨q1,fun j hj hj2=>(q2 j hj2 hj).1⟩,fun j hj=>(q2 j hj (by omega)).2⟩
theorem reads_cells (hs:Sees M w) (hz:0<sz) {ao:Option Addr} {b o:Nat} (h8:∀ c∈cs,c.size=sz) (hao:0<cs.length->ao=some ⟨b,o,none⟩) (h:∀ j (h:j<cs.length),CellsAt M b (o+j * sz) cs[j]):Reads w w.heap.size sz ao cs.length (cs.flatMap Array.toList):=by
 have hc:∀ i u,(cs.flatMap Array.toList)[i]?=some u->w.cell? ⟨b,o+i,none⟩=some u:=fun i u hi=>by
  have hil:i<cs.length * sz:=by rw[<-flat_len h8];exact(List.getElem?_eq_some_iff.1 hi).1
  have hj:i / sz<cs.length:=Nat.div_lt_of_lt_mul (by rw[Nat.mul_comm];exact hil)
  have ht:i % sz<sz:=Nat.mod_lt _ hz
  have e:i / sz * sz+i % sz=i:=by rw[Nat.mul_comm];exact Nat.div_add_mod i sz
  have h1:=flat_cells h8 (i / sz) (i % sz) hj ht
  rw[e,hi]at h1
  have h2:=h _ hj (i % sz) (by rw[h8 _ (List.getElem_mem hj)];exact ht)
  rw[<-h1,Nat.add_assoc,e]at h2
  exact hs _ _ h2
 refine⟨flat_len h8,fun hn=>⟨_,hao hn,?_,fun j u hu=>?_⟩⟩
 ·have h0:(cs.flatMap Array.toList)[0]?=some ((cs.flatMap Array.toList)[0]'(by rw[flat_len h8];exact Nat.mul_pos hn hz)):=List.getElem?_eq_getElem _
  exact World.block_lt_of_cell? w _ (hc 0 _ h0)
 ·have:=hc j u hu
  unfold Addr.add
  by_cases h0:j=0
  ·subst h0;rw[if_pos rfl];exact this
  ·rw[if_neg h0];exact this
theorem reads_cells_drop (hs:Sees M w) (hz:0<sz) {ao:Option Addr} {b o cap:Nat} (h8:∀ c∈cs,c.size=sz) (hao:0<cs.length->ao=some ⟨b,o,none⟩) (h:∀ j (h:j<cs.length),CellsAt M b (o+j * sz) cs[j]) (k:Nat) (hc:cs.length<=cap):Reads w w.heap.size sz (if cap=k then ao else Option.map (fun x=>x.add (k * sz)) ao) (cs.drop k).length ((cs.drop k).flatMap Array.toList):=by
 refine reads_cells hs hz (b:=b) (o:=o+k * sz) (fun c hc=>h8 c (List.mem_of_mem_drop hc)) (fun hp=>?_) (fun j hj=>?_)
 ·rw[List.length_drop]at hp
  rw[if_neg (by omega),hao (by omega)]
  show some ((⟨b,o,none⟩:Addr).add (k * sz))=_
  unfold Addr.add
  by_cases h0:k * sz=0
  ·rw[if_pos h0,h0,Nat.add_zero]
  ·rw[if_neg h0]
 ·rw[List.getElem_drop]
  rw[List.length_drop]at hj
  have:=h (k+j) (by omega)
  rwa [Nat.add_mul,<-Nat.add_assoc]at this
theorem reads_cells_take (hs:Sees M w) (hz:0<sz) {ao:Option Addr} {b o:Nat} (h8:∀ c∈cs,c.size=sz) (hao:0<cs.length->ao=some ⟨b,o,none⟩) (h:∀ j (h:j<cs.length),CellsAt M b (o+j * sz) cs[j]) (k:Nat):Reads w w.heap.size sz ao (cs.take k).length ((cs.take k).flatMap Array.toList):=by
 refine reads_cells hs hz (b:=b) (o:=o) (fun c hc=>h8 c (List.mem_of_mem_take hc)) (fun hp=>hao ?_) (fun j hj=>?_)
 ·rw[List.length_take]at hp;omega
 ·rw[List.getElem_take]
  rw[List.length_take]at hj
  exact h j (by omega)
theorem GRow.slm {e:TypeId} {B:Nat} {v:Value} {At:α->Nat->Nat->Prop} (h:GRow w B e sz v cs) (hv:VsM V l cs) (hA:∀ x c b o,V x c->CellsAt M' b o c->At x b o) (hM:∀ b j u,v.ownBlock=some b->w.cell? ⟨b,j,none⟩=some u->M' ⟨b,j,none⟩=some u):SlM sz At v l:=by
 obtain⟨b,q1,q2⟩:=h.cellsFr (F:=fun k=>v.ownBlock≠some k) (fun k hk q=>q hk)
 rw[hv.1]at q1
 refine⟨b,0,q1,fun j hj=>?_⟩
 have hj2:j<cs.length:=by rw[hv.1];exact hj
 refine hA _ _ _ _ (hv.2 j hj hj2) fun t ht=>?_
 have h3:=q2 j hj2 t (by rw[<-(h.2 _ (List.getElem_mem hj2)).1];exact ht)
 rw[Array.getElem?_eq_getElem ht]at h3
 obtain⟨_,n2,_⟩:=memFr_lt _ _ h3
 rw[hM _ _ _ (Classical.not_not.1 n2) (memFr_sees w _ _ _ h3),<-Array.getElem?_eq_getElem ht]
end
def SyV (M:Addr->Option Value) (x:StyF) (c:Array Value):Prop:=StyOK x/\∃ tv ev cv,c=styCells x tv ev cv/\StyP M x tv ev cv
section
variable {M M':Addr->Option Value} {x:StyF} {c:Array Value} {l:List StyF}
theorem SyV.mono (h:SyV M x c) (hm:∀ a u,M a=some u->M' a=some u):SyV M' x c:=by
 obtain⟨h0,tv,ev,cv,h1,h2⟩:=h
 exact⟨h0,tv,ev,cv,h1,h2.mono hm⟩
theorem SyV.one (h:SyV M x c):c.size=8/\OneC c:=by
 obtain⟨h0,tv,ev,cv,rfl,h2⟩:=h
 obtain⟨t1,t2,e1,e2,c1,c2,rfl,rfl,rfl⟩:=h2.shape
 exact⟨rfl,fun u hu=>by simp at hu;rcases hu with rfl | rfl | rfl | rfl | rfl | rfl | rfl | rfl <;> rfl⟩
theorem StysM.cells {v:Value} (h:StysM M v l):∃ ao cap b o cs,v=.slice ao l.length cap/\l.length<=cap/\cap<=maxLen/\(0<l.length->ao=some ⟨b,o,none⟩)/\VsM (SyV M) l cs/\∀ j (h:j<cs.length),CellsAt M b (o+j * 8) cs[j]:=
 SlM.cells h fun _ _ _ q=>by
  obtain⟨g0,tv,ev,cv,g1,g2⟩:=q
  exact⟨_,⟨g0,tv,ev,cv,rfl,g2⟩,g1⟩
theorem GRow.stys {w:World} {B:Nat} {v:Value} {cs:List (Array Value)} (h:GRow w B 34 8 v cs) (hv:VsM (SyV M) l cs) (hM:∀ b j u,v.ownBlock=some b->w.cell? ⟨b,j,none⟩=some u->M ⟨b,j,none⟩=some u):StysM M v l:=
 GRow.slm h hv (fun x c b o q hc=>by
  obtain⟨g0,tv,ev,cv,rfl,g2⟩:=q
  exact⟨g0,tv,ev,cv,hc,g2⟩) hM
end
def FoF (T:Nat) (k:Nat):Prop:=k<=T+1
structure FoW (w:World) (sv tv:Value) (s:StF) (W:World):Prop where
 box:W.heap[w.heap.size+1]?=some (.cells #[sv,tv] 27 (0,0))
 res:W.heap[w.heap.size]?=some (.cells #[.slice none 0 0,.slice none 0 0] 27 (0,0))
 sty:StysM (memNo W (FoF w.heap.size)) sv s.stories
 tpl:TplsM (memNo W (FoF w.heap.size)) tv s.tpls
 bel:Below w.heap.size w W
section
variable {w W W':World} {sv tv:Value} {s:StF}
theorem FoW.keep (h:FoW w sv tv s W) (hb:Below W.heap.size W W'):FoW w sv tv s W':=
 ⟨(hb.block _ (qh h.box)).trans h.box,(hb.block _ (qh h.res)).trans h.res,h.sty.mono (memNo_bel hb),h.tpl.mono (memNo_bel hb),h.bel.trans (hb.mono h.bel.size)⟩
theorem FoW.st (h:FoW w sv tv s W):StateM (memNo W (FoF w.heap.size)) (.agg #[sv,tv]) s:=⟨sv,tv,rfl,h.sty,h.tpl⟩
theorem FoW.setS (h:FoW w sv tv s W) {sv':Value} {l:List StyF} (hn:StysM (memNo W (FoF w.heap.size)) sv' l):FoW w sv' tv { s with stories:=l } (W.setCell ⟨w.heap.size+1,0,none⟩ sv'):=by
 have hu:=upd_cell W (w.heap.size+1) 0 sv'
 have hm:=memNo_upd (F:=FoF w.heap.size) hu (fun k _ e=>by show k<=w.heap.size+1;have:k=w.heap.size+1:=e;omega)
 exact⟨blk_set h.box,by rw[hu.block _ (qh h.res) (by omega)];exact h.res,hn.mono hm,h.tpl.mono hm,h.bel.setCell (by show w.heap.size<=w.heap.size+1;omega) _⟩
theorem FoW.setT (h:FoW w sv tv s W) {tv':Value} {l:List TplF} (hn:TplsM (memNo W (FoF w.heap.size)) tv' l):FoW w sv tv' { s with tpls:=l } (W.setCell ⟨w.heap.size+1,1,none⟩ tv'):=by
 have hu:=upd_cell W (w.heap.size+1) 1 tv'
 have hm:=memNo_upd (F:=FoF w.heap.size) hu (fun k _ e=>by show k<=w.heap.size+1;have:k=w.heap.size+1:=e;omega)
 exact⟨blk_set h.box,by rw[hu.block _ (qh h.res) (by omega)];exact h.res,h.sty.mono hm,hn.mono hm,h.bel.setCell (by show w.heap.size<=w.heap.size+1;omega) _⟩
theorem FoW.low (h:FoW w sv tv s W):w.heap.size+1<W.heap.size:=qh h.box
theorem putAt_here {l:List StyF} {x:StyF} {k:Nat} (hk:k<=l.length) (hb:∀ j (h:j<l.length),j<k->l[j].id<x.id) (hn:∀ h:k<l.length,¬ l[k].id<x.id):putAt (fun y=>decide (y.id<x.id)) l x=l.take k++x::l.drop k:=by
 have e:=posF_eq (p:=fun y:StyF=>decide (y.id<x.id)) hk (fun j h hj=>decide_eq_true (hb j h hj)) (fun h=>decide_eq_false (hn h))
 unfold putAt
 rw[e]
end
theorem grow_one {w:World} {B:Nat} {e:TypeId} {sz:Nat} (hB:B<=w.heap.size) {c:Array Value} (hs:c.size=sz) (h1:OneC c):GRow (w.alloc (.cells c e)) B e sz (.slice (some ⟨w.heap.size,0,none⟩) 1 1) [c]:=
 ⟨⟨by simp[hs],.inr ⟨w.heap.size,1,c,rfl,hB,World.alloc_heap_new _ _,Nat.le_refl _,ml 1 (by omega),by simp[hs],by simp[hs,List.take_of_length_le]⟩⟩,fun d hd=>by
   rw[List.mem_singleton]at hd
   subst hd
   exact⟨hs,h1⟩⟩
set_option maxRecDepth 100000 in
theorem elem_stys:Tryz.prog.underlying 24=some (.slice (Tryz.prog.elem 24)):=Tryz.underlying24
theorem run_row_from {P:Program} {t e:TypeId} {z:Value} {sz bytes:Nat} (T:ElemT P t e z sz bytes) (ht:P.underlying t=some (.slice (P.elem t))) (a:Option Addr) (len cap:Nat) (k:Nat) (hk:k<=len) (w:World):(Instr.slice t (.slice a len cap) (some (.int .i64 (k:Int))) none none).run P w=.ok (.slice (if cap=k then a else Option.map (fun x=>x.add (k * sz)) a) (len - k) (cap - k)) w:=by
 obtain⟨i0,hi0,hz0,hz1,hz2⟩:=info_parts T.inf
 have he:P.elem t=e:=by
  have:=T.und
  rw[ht]at this
  injection this with this
  injection this
 rw[run_slice_l w t a len cap ht .i64 k (by omega) (by omega),he]
 simp[sizeOf,typeInfo,hi0,sliced,hz1]
theorem run_row_upto {P:Program} {t e:TypeId} {z:Value} {sz bytes:Nat} (T:ElemT P t e z sz bytes) (ht:P.underlying t=some (.slice (P.elem t))) (a:Option Addr) (len cap:Nat) (k:Nat) (hk:k<=cap) (w:World):(Instr.slice t (.slice a len cap) none (some (.int .i64 (k:Int))) none).run P w=.ok (.slice a k cap) w:=by
 have:=run_cut T ht a len cap (k:Int) (by omega) (by omega) w
 rwa [Int.toNat_natCast]at this
theorem withGo_len (t:TplF):∀ (l:List TplF) (b:Bool),(withGo t b l).length<=l.length+(if b then 0 else 1)
 |[],true=>Nat.le_refl _
 |[],false=>Nat.le_refl _
 |x::r,b=>by
  have h1:=withGo_len t r (b || !Op.bytesLess x.name.toList t.name.toList)
  unfold withGo
  rw[List.length_append,List.length_append,List.length_cons]
  have h2:(if x.name=t.name then [] else [x]).length<=1:=by split <;> simp
  cases b with
  |true=>simp at h1 ⊢;omega
  |false=>
   cases hb:Op.bytesLess x.name.toList t.name.toList with
   |true=>rw[hb]at h1;simp at h1 ⊢;omega
   |false=>rw[hb]at h1;simp at h1 ⊢;omega
structure SoW (mem:Addr->Option Value) (w:World) (fs:List FctE) (id:Int) (k:Nat) (rv:Value) (rs:List FctE) (W:World):Prop where
 row:FRow W w.heap.size rv rs
 res:W.heap[w.heap.size]?=some (.cells zStyC 34 (0,0))
 bel:Below w.heap.size w W
 eq:rs.map FctE.f=((fs.take k).map FctE.f).filter fun f=>decide (f.story=id)
 oks:∀ x∈rs,x.ok mem
 sub:∀ x∈rs,x∈fs
 len:rs.length<=k
theorem flt_take {fs:List FctE} {id:Int} {k:Nat} (h:k<fs.length):(((fs.take (k+1)).map FctE.f).filter fun f=>decide (f.story=id))=(((fs.take k).map FctE.f).filter fun f=>decide (f.story=id))++(if fs[k].f.story=id then [fs[k].f] else []):=by
 rw[List.take_succ_eq_append_getElem h,List.map_append,List.filter_append]
 congr 1
 by_cases e:fs[k].f.story=id
 ·rw[if_pos e,List.map_singleton,List.filter_cons_of_pos (by simpa using e)];rfl
 ·rw[if_neg e,List.map_singleton,List.filter_cons_of_neg (by simpa using e)];rfl
section
variable {mem:Addr->Option Value} {w W W':World} {fs rs:List FctE} {id:Int} {k:Nat} {rv:Value} {x:FctE}
theorem SoW.skip (h:SoW mem w fs id k rv rs W) (hk:k<fs.length) (hx:fs[k].f.story≠id):SoW mem w fs id (k+1) rv rs W:=
 ⟨h.row,h.res,h.bel,by rw[flt_take hk,if_neg hx,List.append_nil];exact h.eq,h.oks,h.sub,by have:=h.len;omega⟩
theorem SoW.grow (h:SoW mem w fs id k rv rs W) (hk:k<fs.length) (hx:fs[k].f.story=id) (ho:fs[k].ok mem) {o:Obj} {v':Value} (hr:FRow W' w.heap.size v' (rs++[fs[k]])) (hg:(W.alloc o).grownBy W' rv.ownBlock):SoW mem w fs id (k+1) v' (rs++[fs[k]]) W':=by
 have hT:=qh h.res
 refine⟨hr,?_,(h.bel.trans ((bel1 W o).mono h.bel.size)).grown hg (by rw[World.size_alloc];have:=h.bel.size;omega) (fun j hj=>(h.row.ge j hj).1),?_,fun y hy=>?_,fun y hy=>?_,by rw[List.length_append];have:=h.len;simp;omega⟩
 ·refine(hg.block _ (by rw[World.size_alloc];omega) (fun q=>?_)).trans (((bel1 W o).block _ hT).trans h.res)
  obtain⟨c,hc⟩:=h.row.blk _ q.symm
  exact rows_apart hc h.res (by decide) rfl
 ·rw[List.map_append,flt_take hk,if_pos hx,h.eq];rfl
 ·rcases List.mem_append.1 hy with hy | hy
  ·exact h.oks y hy
  ·rw[List.mem_singleton.1 hy];exact ho
 ·rcases List.mem_append.1 hy with hy | hy
  ·exact h.sub y hy
  ·rw[List.mem_singleton.1 hy];exact List.getElem_mem hk
end
abbrev sgS (id:Int) (g:StG):StyF:=⟨id,g.author,g.topics,[],g.pub.getD 0,g.corr,g.retr,g.taken⟩
structure SgL (w:World) (N:Nat) (id:Int) (rv:Value) (rs:List FctE) (k:Nat) (g:StG) (tv cv lv:Value) (ls:List ByteArray) (W:World):Prop where
 wld:SgW w N rv rs (styCells (sgS id g) tv (.slice none 0 0) cv) tv g.topics lv ls cv g.corr (.slice none 0 0) [] [] W
 eq:((rs.take k).map FctE.f).foldl Mg.stepG stg0=g
 lan:LanI ls g
 ok:GOK g
 len:ls.length<=k/\g.corr.length<=k
def RefStory (l:List Fct) (id:Int) (w:World) (e:Ending) (w':World):Prop:=∃ x tv ev cv,e=.returned (.agg (styCells x tv ev cv))/\x.id=id/\StyIs id (Mg.foldG l id) x/\StyOK x/\StyP (memNo w' (fun k=>k<w.heap.size)) x tv ev cv/\StyGood x/\Below w.heap.size w w'
theorem foldS_take {rs:List FctE} {k:Nat} (h:k<rs.length):((rs.take (k+1)).map FctE.f).foldl Mg.stepG stg0=Mg.stepG (((rs.take k).map FctE.f).foldl Mg.stepG stg0) rs[k].f:=by
 rw[List.take_succ_eq_append_getElem h,List.map_append,List.foldl_append];rfl
theorem cor_one (c:Corr):OneC (corrCells c):=fun u hu=>by simp at hu;rcases hu with rfl | rfl | rfl | rfl | rfl <;> rfl
theorem edn_one (x:EdnF) (a:Option Addr) (n c:Nat):OneC (ednCells x (.slice a n c)):=fun u hu=>by simp at hu;rcases hu with rfl | rfl | rfl | rfl | rfl <;> rfl
theorem built_styI (id:Int):Tryz.prog.built 34 [(0,.int .i64 id)]=some (styCells (sgS id stg0) (.slice none 0 0) (.slice none 0 0) (.slice none 0 0)):=by kernel_rfl
theorem built_corA (a:ByteArray) (b s:Int) (t:ByteArray) (n:Int):Tryz.prog.built 69 [(0,.string a),(1,.int .i64 b),(2,.int .i64 s),(3,.string t),(4,.int .i64 n)]=some (corrCells ⟨a,b,s,t,n⟩):=by kernel_rfl
theorem SgL.start {w W:World} {rv:Value} {rs:List FctE} {id:Int} (hr:FRow W w.heap.size rv rs) (hres:W.heap[w.heap.size]?=some (.cells zStyC 34 (0,0))) (hb:Below w.heap.size w W):SgL w W.heap.size id rv rs 0 stg0 (.slice none 0 0) (.slice none 0 0) (.slice none 0 0) [] (W.alloc (.cells (styCells (sgS id stg0) (.slice none 0 0) (.slice none 0 0) (.slice none 0 0)) 34)):=by
 have b1:=bel1 W (.cells (styCells (sgS id stg0) (.slice none 0 0) (.slice none 0 0) (.slice none 0 0)) 34)
 refine⟨⟨hr.same (fun k hk=>b1.block k (hr.ge k hk).2),World.alloc_heap_new _ _,(b1.block _ (qh hres)).trans hres,StrsM.nil _,StrsM.nil _,GRow.nil _ _ _ _,GRow.nil _ _ _ _,EVals.nil _,hb.trans (b1.mono hb.size),qh hres⟩,by rw[List.take_zero];rfl,LanI.start,GOK.start,Nat.le_refl _,Nat.le_refl _⟩
theorem edn_of {rs:List FctE} {g:StG} {ls:List ByteArray} (hg:(rs.map FctE.f).foldl Mg.stepG stg0=g) (hl:LanI ls g) {y:ByteArray} (hy:y∈ls):(rs.map FctE.f).foldl (stepE y) none=some (edAt g.eds y)/\edAt g.eds y∈g.eds/\(edAt g.eds y).lang=y:=by
 have h1:=(hl.mem y).1 hy
 refine⟨?_,edAt_in h1⟩
 have h2:=edO_fold y (rs.map FctE.f) stg0
 rw[hg,edO_some h1]at h2
 exact h2.symm
set_option maxRecDepth 100000 in
set_option maxHeartbeats 8000000 in
theorem storyR_any {mem:Addr->Option Value} {lv:Value} {fs:List FctE} {id:Int} (hE:EsM mem lv fs) (hgd:∀ x∈fs,FGood x.f) (hid:okI id) (hfl:fs.length<=20000) (w:World) (hs:Sees mem w):
 Calls Tryz.prog 35 #[lv,.int .i64 id] w (RefStory (fs.map FctE.f) id w):=by
 obtain⟨fa,fc,fb,fo,rfl,hfm,hfa,hfe⟩:=hE.open_
 have HFA:=Lib.hid hfa
 have HFE:=Lib.hid hfe
 have HS:=Lib.hid hs
 have HGF:=Lib.hid hgd
 have HID:=Lib.hid hid
 obtain⟨W1,hW1⟩:∃ W1,W1=w.alloc (.cells zStyC 34):=⟨_,rfl⟩
 have H0:Hid (SoW mem w fs id 0 (.slice none 0 0) [] W1):=Lib.hid (by
  rw[hW1]
  exact⟨FRow.nil _ _,World.alloc_heap_new _ _,bel1 w _,by rw[List.take_zero];rfl,(by intro x hx;cases hx),(by intro x hx;cases hx),Nat.le_refl _⟩)
 have HW1:=Lib.hid hW1
 clear hE hs hgd hfa hfe hW1 hid
 go_enter Tryz.func35,Tryz.ntmps35
 go_upto_region 1 with fail
 rw[<-HW1.out]
 clear HW1
 go_wp2_with fail
 go_loopw [6,5] (fun i r wr=>∃ (k:Nat) (ra:Option Addr) (rc:Nat) (rs:List FctE),k<=fs.length/\i=.int .i64 k/\r=.slice ra rs.length rc/\Hid (SoW mem w fs id k (.slice ra rs.length rc) rs wr)) (fun i _ _=>fs.length - (intOf i).toNat)
 case atStart=>exact⟨0,none,0,[],Nat.zero_le _,rfl,rfl,H0⟩
 case round=>
  obtain⟨k,ra,rc,rs,hk,rfl,rfl,HL⟩:=hrel
  by_cases hlt:k<fs.length
  ·obtain⟨hxo,hat⟩:=HFE.out k hlt
   obtain rfl:=HFA.out (by omega)
   have HAT:Hid (fs[k].at (fun p=>wr.cell? p) fb (fo+k * 23)):=Lib.hid (fun j u hj=>(HS.out.bel HL.out.bel) _ _ (hat j u hj))
   have c3:wr.cell? ⟨fb,fo+k * 23+3,none⟩=some (.int .i64 fs[k].f.story):=HAT.out 3 _ rfl
   have HNO:Hid (fs[k].f.story≠id->SoW mem w fs id (k+1) (.slice ra rs.length rc) rs wr):=Lib.hid (fun e=>HL.out.skip hlt e)
   have HYES:Hid (fs[k].f.story=id->∀ o v' w',FRow w' w.heap.size v' (rs++[fs[k]])->(wr.alloc o).grownBy w' (Value.slice ra rs.length rc).ownBlock->SoW mem w fs id (k+1) v' (rs++[fs[k]]) w'):=Lib.hid (fun e o v' w' h1 h2=>HL.out.grow hlt e hxo h1 h2)
   have HRW:=Lib.hid HL.out.row
   have hbz:=HL.out.bel.size
   have hrl:=HL.out.len
   have hflk:(k:Int)<fs.length:=by omega
   clear hxo hat
   generalize fs[k]=x at *
   by_cases he:x.f.story=id
   case' neg=>
    have s1:(x.f.story == id)=false:=by simpa using he
    have HN:=Lib.hid (HNO.out he)
    clear he HNO HYES HL
    go_wp2_with fail
    go_roundw
    case rel=>exact⟨k+1,ra,rc,rs,by omega,by go_num,rfl,HN⟩
    case measure=>(try simp only[intOf]);omega
   have s1:(x.f.story == id)=true:=by simpa using he
   have HN:=Lib.hid (HYES.out he)
   clear he HNO HYES HL
   go_wp2_with (first
    |((with_reducible refine at_fload _ rfl ?_);go_must (refine wpList_fct_mid rfl _ rfl (by simp[Act.eval]) HAT.out ?_))
    |((with_reducible refine at_fslice _ rfl ?_);go_must (refine wpList_fct_slice rfl _ rfl x (by simp[Act.eval,Act.put]) ?_))
    |((with_reducible refine at_sappend _ _ 22 rfl ?_);go_must (refine wpList_app_fct rfl _ _ rfl w.heap.size _ rs (by simp[Act.eval,Act.put]) (HRW.out.same (fun q hq=>(bel1 wr _).block q (HRW.out.ge q hq).2)) x wr.heap.size 1 (by simp[Act.eval,Act.put]) (World.alloc_heap_new _ _) (by omega) (by rw[World.size_alloc];omega) ?_);intro v16 w16 hr16 hg16 hob16;obtain⟨qa,qc,hv16⟩:=hr16.shape;subst hv16;have HN2:Hid (SoW mem w fs id (k+1) (.slice qa (rs++[x]).length qc) (rs++[x]) w16):=Lib.hid (HN.out _ _ _ hr16 hg16);clear hr16 hg16 hob16))
   go_roundw
   case rel=>exact⟨k+1,qa,qc,rs++[x],by omega,by go_num,(by rw[List.length_append];rfl),HN2⟩
   case measure=>(try simp only[intOf]);omega
  ·obtain rfl:k=fs.length:=by omega
   have HEQ:Hid (rs.map FctE.f=(fs.map FctE.f).filter fun f=>decide (f.story=id)):=Lib.hid (by
    have:=HL.out.eq
    rwa [List.take_length]at this)
   have HOKS:=Lib.hid HL.out.oks
   have HSUB:=Lib.hid HL.out.sub
   have hrl:=HL.out.len
   have HS0:=Lib.hid (SgL.start (id:=id) HL.out.row HL.out.res HL.out.bel)
   obtain⟨W2,hW2⟩:∃ W2,W2=wr.alloc (.cells (styCells (sgS id stg0) (.slice none 0 0) (.slice none 0 0) (.slice none 0 0)) 34):=⟨_,rfl⟩
   rw[<-hW2]at HS0
   go_upto_region 8 with (first
    |((with_reducible refine at_sbuild 34 _ rfl ?_);go_must (refine wpList_buildTo rfl 34 _ rfl _ rfl _ (by simp[Act.eval];with_reducible exact built_styI id) ?_))
    |((with_reducible refine at_sstore 34 _ _ rfl ?_);go_must (refine wpList_snew rfl S_sty _ _ rfl rfl _ _ (styCells (sgS id stg0) (.slice none 0 0) (.slice none 0 0) (.slice none 0 0)) (by simp[Act.eval]) (by simp[Act.eval]) rfl rfl (by simp[Value.oneCell']) ?_)))
   rw[<-hW2]
   generalize hN:wr.heap.size=N at *
   clear hW2 HL hN
   go_wp2_with fail
   go_loopw [10,8,9] (fun i o r wr=>∃ (k:Nat) (g:StG) (tv cv:Value) (la:Option Addr) (lc:Nat) (ls:List ByteArray) (b:Bool),k<=rs.length/\i=.int .i64 k/\o=.bool b/\r=.slice la ls.length lc/\Hid (b=g.pub.isSome)/\Hid (SgL w N id (.slice ra rs.length rc) rs k g tv cv (.slice la ls.length lc) ls wr)) (fun i _ _ _=>rs.length - (intOf i).toNat)
   case atStart=>exact⟨0,stg0,.slice none 0 0,.slice none 0 0,none,0,[],false,Nat.zero_le _,rfl,rfl,rfl,Lib.hid rfl,HS0⟩
   case round=>
    obtain⟨k,g,tv,cv,la,lc,ls,b,hk,rfl,rfl,rfl,HBB,HL⟩:=hrel
    by_cases hlt:k<rs.length
    ·obtain⟨fa2,fc2,fb2,fo2,hfv,hfm2,hfa2,hfe2⟩:=(HL.out.wld.es HOKS.out HS.out).open_
     injection hfv with hfv1 hfv0 hfv2
     subst hfv1 hfv2
     clear hfv0
     obtain⟨_,hat⟩:=hfe2 k hlt
     obtain rfl:=hfa2 (by omega)
     have HAT:Hid (rs[k].at (fun p=>wr.cell? p) fb2 (fo2+k * 23)):=Lib.hid hat
     have HXO:=Lib.hid (HOKS.out _ (List.getElem_mem hlt))
     have HXG:=Lib.hid (HGF.out _ (HSUB.out _ (List.getElem_mem hlt)))
     have HST:Hid (((rs.take (k+1)).map FctE.f).foldl Mg.stepG stg0=Mg.stepG g rs[k].f):=Lib.hid (by rw[foldS_take hlt,HL.out.eq])
     have HSZ:Hid (rs[k].cells.size=23):=Lib.hid rfl
     have HON:=Lib.hid (rs[k].one)
     have HW:=Lib.hid HL.out.wld
     have HLA:=Lib.hid HL.out.lan
     have HOKG:=Lib.hid HL.out.ok
     obtain⟨hll,hcl⟩:=HL.out.len
     have hflk:(k:Int)<rs.length:=by omega
     clear hat HL hfm2 hfa2 hfe2
     generalize hG2:((rs.take (k+1)).map FctE.f).foldl Mg.stepG stg0=G2 at *
     have HG2:=Lib.hid hG2
     clear hG2
     generalize rs[k]=x at *
     have HOK2:=Lib.hid (HOKG.out.step HXO.out.fok (HXO.out.parts.1.choose_spec.choose_spec.2.1))
     go_upto_region 14 with (first
      |((with_reducible refine at_fload _ rfl ?_);go_must (refine wpList_fct_mid rfl _ rfl (by simp[Act.eval]) HAT.out ?_))
      |((with_reducible refine at_fstore _ _ rfl ?_);go_must (refine wpList_fct_new rfl _ _ rfl rfl _ _ _ (by simp[Act.eval]) (by simp[Act.eval]) (by rfl) HSZ.out HON.out ?_)))
     obtain⟨W5,hW5⟩:∃ W5,W5=wr.alloc (.cells x.cells 50):=⟨_,rfl⟩
     rw[<-hW5]
     have hb5:Below wr.heap.size wr W5:=by rw[hW5];exact bel1 _ _
     have HX5:Hid (W5.heap[wr.heap.size]?=some (.cells (fctCells x.f (.slice x.ta x.f.topics.length x.tc) x.bv x.av) 50 (0,0))):=Lib.hid (by rw[hW5];exact World.alloc_heap_new _ _)
     have HW5:=Lib.hid (HW.out.keep hb5)
     have hTN:N<wr.heap.size:=qh HW.out.box
     have hWT:w.heap.size<N:=HW.out.low
     generalize wr.heap.size=M at *
     clear hW5 hb5 HAT HW
     have c2:W5.cell? ⟨M,2,none⟩=some (.int .i64 x.f.kind):=rowcell HX5.out
     by_cases hk1:x.f.kind=1
     ·have HE1:=Lib.hid (stepG_1 (g:=g) hk1)
      have HL2:=Lib.hid (HLA.out.step hk1)
      rw[hk1]at c2
      have c8:W5.cell? ⟨M,8,none⟩=some (.string x.f.author):=rowcell HX5.out
      have k1:W5.cell? ⟨N,1,none⟩=some (.string g.author):=rowcell HW5.out.box
      have z1:W5.frozen? ⟨N,1,none⟩=false:=rowfree HW5.out.box
      have HW6:=Lib.hid (HW5.out.set 1 (.string x.f.author))
      have HX6:Hid ((W5.setCell ⟨N,1,none⟩ (.string x.f.author)).heap[M]?=some (.cells (fctCells x.f (.slice x.ta x.f.topics.length x.tc) x.bv x.av) 50 (0,0))):=Lib.hid (by rw[Below.heap_setCell _ _ _ _ (by simp only;omega)];exact HX5.out)
      have HTOP:=Lib.hid HXO.out.parts.1
      have htl:=HXG.out.tops
      have HTS:=Lib.hid (HXO.out.parts.1.choose_spec.choose_spec.2.1)
      clear hk1
      go_upto_region 17 with fail
      obtain⟨W6,hW6⟩:∃ W6,W6=W5.setCell ⟨N,1,none⟩ (.string x.f.author):=⟨_,rfl⟩
      rw[<-hW6]at HW6 HX6 ⊢
      clear hW6 c2 c8 k1 z1 HW5 HX5
      have c9:W6.cell? ⟨M,9,none⟩=some (.slice x.ta x.f.topics.length x.tc):=rowcell HX6.out
      have hML6:M<W6.heap.size:=qh HX6.out
      have HRT:Hid (Reads (W6.alloc (.cells #[] 9)) (W6.alloc (.cells #[] 9)).heap.size 1 x.ta (x.f.topics.map fun x=>(#[.string x]:Array Value)).length ((x.f.topics.map fun x=>(#[.string x]:Array Value)).flatMap Array.toList)):=Lib.hid (reads_topics (cap:=x.tc) HTOP.out ((HS.out.bel HW6.out.bel).bel (bel1 W6 _)))
      go_upto_region 18 with (first
       |((with_reducible refine at_sslice 30 _ _ rfl ?_);go_must (refine wpList_empty_slice rfl E_str _ rfl rfl ?_))
       |((with_reducible refine at_sappend _ _ 30 rfl ?_);go_must (refine wpList_app_row rfl E_str _ _ rfl (by simp[Act.eval]) (GRow.empty W6 W6.heap.size (Nat.le_refl _) (by decide)) x.ta x.tc (x.f.topics.map fun x=>#[.string x]) (strs_1 x.f.topics) ?h1 ?h2 ?h3 ?h4 ?_);go_must (case h1=>(rw[map_str_len];simp[Act.eval]));go_must (case h2=>exact HRT.out);go_must (case h3=>(rw[map_str_len,List.length_nil];omega));go_must (case h4=>(rw[World.size_alloc];omega));go_must (intro v7 w7 hr7 hg7 ho7;have hb7:Below W6.heap.size W6 w7:=(bel1 W6 _).grown hg7 (by rw[World.size_alloc];omega) (fun _ e=>own_le e);have HW7:=Lib.hid (HW6.out.tops hb7 (show LRow w7 W6.heap.size v7 x.f.topics from hr7) HTS.out);obtain⟨a7,c7,hv7⟩:=lrow_shape (show LRow w7 W6.heap.size v7 x.f.topics from hr7);subst hv7;have HX7:=Lib.hid ((hb7.block _ (qh HX6.out)).trans HX6.out);have k2:w7.cell? ⟨N,2,none⟩=some tv:=rowcell HW7.out.box;have z2:w7.frozen? ⟨N,2,none⟩=false:=rowfree HW7.out.box;clear hr7 hg7 ho7 hb7)))
      have HW8:=Lib.hid (HW7.out.set 2 (.slice a7 x.f.topics.length c7))
      have HX8:Hid ((w7.setCell ⟨N,2,none⟩ (.slice a7 x.f.topics.length c7)).heap[M]?=some (.cells (fctCells x.f (.slice x.ta x.f.topics.length x.tc) x.bv x.av) 50 (0,0))):=Lib.hid (by rw[Below.heap_setCell _ _ _ _ (by simp only;omega)];exact HX7.out)
      obtain⟨W8,hW8⟩:∃ W8,W8=w7.setCell ⟨N,2,none⟩ (.slice a7 x.f.topics.length c7):=⟨_,rfl⟩
      rw[<-hW8]at HW8 HX8 ⊢
      clear hW8 c9 k2 z2 HW7 HX7 HW6 HX6 HRT
      have c4:W8.cell? ⟨M,4,none⟩=some (.string x.f.lang):=rowcell HX8.out
      have cS:=Lib.hid (sortedR_any HW8.out.lan (by omega) HXO.out.fok.s4 W8 (memNo_sees W8 _))
      go_wp2_with fail
      refine cS.out.mono ?_
      rintro e W9 ⟨v9,rfl,hn9,hb9⟩
      have HW9:=Lib.hid (HW8.out.langs hb9 hn9)
      obtain⟨la9,lc9,rfl⟩:=hn9.slice
      have hl9:=langIns_len ls x.f.lang
      have HN:Hid (SgL w N id (.slice (some ⟨fb2,fo2,none⟩) rs.length rc) rs (k+1) { g with author:=x.f.author,topics:=x.f.topics,eds:=upEd x.f g.eds } (.slice a7 x.f.topics.length c7) cv (.slice la9 (langIns ls x.f.lang).length lc9) (langIns ls x.f.lang) W9):=Lib.hid ⟨HW9.out,by rw[HG2.out,HST.out,HE1.out],by have:=HL2.out;rw[HE1.out]at this;exact this,by have:=HOK2.out;rw[HE1.out]at this;exact this,by omega,(by show g.corr.length<=k+1;omega)⟩
      clear hn9 hb9 cS c4
      go_wp2_with fail
      go_roundw
      case rel=>exact⟨k+1,{ g with author:=x.f.author,topics:=x.f.topics,eds:=upEd x.f g.eds },.slice a7 x.f.topics.length c7,cv,la9,lc9,langIns ls x.f.lang,b,by omega,by go_num,rfl,rfl,(Lib.hid HBB.out),HN⟩
      case measure=>(try simp only[intOf]);omega
     by_cases hk3:x.f.kind=3
     ·rw[hk3]at c2
      have HL2:=Lib.hid (HLA.out.skip (f:=x.f) hk1)
      have HK3:=Lib.hid hk3
      clear hk1 hk3
      cases b with
      |true=>
       obtain⟨n0,hn0⟩:=Option.isSome_iff_exists.1 HBB.out.symm
       have HE1:=Lib.hid (stepG_3s HK3.out hn0)
       have HN:Hid (SgL w N id (.slice (some ⟨fb2,fo2,none⟩) rs.length rc) rs (k+1) g tv cv (.slice la ls.length lc) ls W5):=Lib.hid ⟨HW5.out,by rw[HG2.out,HST.out,HE1.out],HLA.out,HOKG.out,by omega,by omega⟩
       clear hn0
       go_wp2_with fail
       go_roundw
       case rel=>exact⟨k+1,g,tv,cv,la,lc,ls,true,by omega,by go_num,rfl,rfl,HBB,HN⟩
       case measure=>(try simp only[intOf]);omega
      |false=>
       have hn0:g.pub=none:=by
        have:=HBB.out
        cases hp:g.pub with
        |none=>rfl
        |some n=>rw[hp]at this;cases this
       have HE1:=Lib.hid (stepG_3n HK3.out hn0)
       have c0:W5.cell? ⟨M,0,none⟩=some (.int .i64 x.f.n):=rowcell HX5.out
       have k4:W5.cell? ⟨N,4,none⟩=some (.int .i64 (g.pub.getD 0)):=rowcell HW5.out.box
       have z4:W5.frozen? ⟨N,4,none⟩=false:=rowfree HW5.out.box
       have HN:Hid (SgL w N id (.slice (some ⟨fb2,fo2,none⟩) rs.length rc) rs (k+1) { g with pub:=some x.f.n } tv cv (.slice la ls.length lc) ls (W5.setCell ⟨N,4,none⟩ (.int .i64 x.f.n))):=Lib.hid ⟨HW5.out.set 4 (.int .i64 x.f.n),by rw[HG2.out,HST.out,HE1.out],by have:=HL2.out;rw[HE1.out]at this;exact this,by have:=HOK2.out;rw[HE1.out]at this;exact this,by omega,(by show g.corr.length<=k+1;omega)⟩
       clear hn0
       go_wp2_with fail
       go_roundw
       case rel=>exact⟨k+1,{ g with pub:=some x.f.n },tv,cv,la,lc,ls,true,by omega,by go_num,rfl,rfl,Lib.hid rfl,HN⟩
       case measure=>(try simp only[intOf]);omega
     by_cases hk4:x.f.kind=4
     ·have HE1:=Lib.hid (stepG_4 (g:=g) hk4)
      have HL2:=Lib.hid (HLA.out.skip (f:=x.f) hk1)
      rw[hk4]at c2
      clear hk1 hk3 hk4
      have c0:W5.cell? ⟨M,0,none⟩=some (.int .i64 x.f.n):=rowcell HX5.out
      have c4:W5.cell? ⟨M,4,none⟩=some (.string x.f.lang):=rowcell HX5.out
      have c16:W5.cell? ⟨M,16,none⟩=some (.int .i64 x.f.block):=rowcell HX5.out
      have c17:W5.cell? ⟨M,17,none⟩=some (.int .i64 x.f.sentence):=rowcell HX5.out
      have c18:W5.cell? ⟨M,18,none⟩=some (.string x.f.text):=rowcell HX5.out
      have k5:W5.cell? ⟨N,5,none⟩=some cv:=rowcell HW5.out.box
      have hz5:=HW5.out.bel.size
      go_wp2_with (first
       |((with_reducible refine at_sbuild 69 _ rfl ?_);go_must (refine wpList_buildTo rfl 69 _ rfl _ rfl _ (by simp[Act.eval];with_reducible exact built_corA _ _ _ _ _) ?_))
       |((with_reducible refine at_sslice 32 _ _ rfl ?_);go_must (refine wpList_one_slice rfl E_corr _ rfl (.agg (corrCells (corrOf x.f))) rfl (by simp[Act.eval,Act.put,corrOf]) ?_))
       |((with_reducible refine at_sappend _ _ 32 rfl ?_);go_must (refine wpList_app_one rfl E_corr _ _ rfl (by simp[Act.eval,Act.put]) (HW5.out.cor.bel (bel1 W5 _)) (corrCells (corrOf x.f)) rfl (cor_one _) W5.heap.size 1 (by simp[Act.eval,Act.put]) (World.alloc_heap_new _ _) (by rw[List.length_map];omega) (by rw[World.size_alloc];omega) ?_);go_must (intro v7 w7 hr7 hg7 ho7;obtain⟨a7,c7,hv7⟩:=hr7.shape;obtain⟨n7,hn7⟩:∃ n7,n7=(g.corr.map corrCells++[corrCells (corrOf x.f)]).length:=⟨_,rfl⟩;rw[<-hn7]at hv7;subst hv7;have HW7:=Lib.hid (HW5.out.corr hr7 hg7 ho7);have k7:w7.cell? ⟨N,5,none⟩=some cv:=rowcell HW7.out.box;have z7:w7.frozen? ⟨N,5,none⟩=false:=rowfree HW7.out.box;have HN:Hid (SgL w N id (.slice (some ⟨fb2,fo2,none⟩) rs.length rc) rs (k+1) { g with corr:=g.corr++[corrOf x.f],eds:=touchEd x.f g.eds } tv (.slice a7 n7 c7) (.slice la ls.length lc) ls (w7.setCell ⟨N,5,none⟩ (.slice a7 n7 c7))):=Lib.hid ⟨HW7.out.set 5 (.slice a7 n7 c7),by rw[HG2.out,HST.out,HE1.out],by have:=HL2.out;rw[HE1.out]at this;exact this,by have:=HOK2.out;rw[HE1.out]at this;exact this,by omega,(by show (g.corr++[corrOf x.f]).length<=k+1;rw[List.length_append];simp;omega)⟩;clear hr7 hg7 ho7 hn7)))
      go_roundw
      case rel=>exact⟨k+1,{ g with corr:=g.corr++[corrOf x.f],eds:=touchEd x.f g.eds },tv,.slice a7 n7 c7,la,lc,ls,b,by omega,by go_num,rfl,rfl,(Lib.hid HBB.out),HN⟩
      case measure=>(try simp only[intOf]);omega
     by_cases hk5:x.f.kind=5
     ·have HE1:=Lib.hid (stepG_5 (g:=g) hk5)
      have HL2:=Lib.hid (HLA.out.skip (f:=x.f) hk1)
      rw[hk5]at c2
      clear hk1 hk3 hk4 hk5
      have k7:W5.cell? ⟨N,6,none⟩=some (.bool g.retr):=rowcell HW5.out.box
      have z7:W5.frozen? ⟨N,6,none⟩=false:=rowfree HW5.out.box
      have HN:Hid (SgL w N id (.slice (some ⟨fb2,fo2,none⟩) rs.length rc) rs (k+1) { g with retr:=true } tv cv (.slice la ls.length lc) ls (W5.setCell ⟨N,6,none⟩ (.bool true))):=Lib.hid ⟨HW5.out.set 6 (.bool true),by rw[HG2.out,HST.out,HE1.out],by have:=HL2.out;rw[HE1.out]at this;exact this,by have:=HOK2.out;rw[HE1.out]at this;exact this,by omega,(by show g.corr.length<=k+1;omega)⟩
      go_wp2_with fail
      go_roundw
      case rel=>exact⟨k+1,{ g with retr:=true },tv,cv,la,lc,ls,b,by omega,by go_num,rfl,rfl,(Lib.hid HBB.out),HN⟩
      case measure=>(try simp only[intOf]);omega
     by_cases hk6:x.f.kind=6
     ·have HE1:=Lib.hid (stepG_6 (g:=g) hk6)
      have HL2:=Lib.hid (HLA.out.skip (f:=x.f) hk1)
      rw[hk6]at c2
      clear hk1 hk3 hk4 hk5 hk6
      have k7:W5.cell? ⟨N,7,none⟩=some (.bool g.taken):=rowcell HW5.out.box
      have z7:W5.frozen? ⟨N,7,none⟩=false:=rowfree HW5.out.box
      have HN:Hid (SgL w N id (.slice (some ⟨fb2,fo2,none⟩) rs.length rc) rs (k+1) { g with taken:=true } tv cv (.slice la ls.length lc) ls (W5.setCell ⟨N,7,none⟩ (.bool true))):=Lib.hid ⟨HW5.out.set 7 (.bool true),by rw[HG2.out,HST.out,HE1.out],by have:=HL2.out;rw[HE1.out]at this;exact this,by have:=HOK2.out;rw[HE1.out]at this;exact this,by omega,(by show g.corr.length<=k+1;omega)⟩
      go_wp2_with fail
      go_roundw
      case rel=>exact⟨k+1,{ g with taken:=true },tv,cv,la,lc,ls,b,by omega,by go_num,rfl,rfl,(Lib.hid HBB.out),HN⟩
      case measure=>(try simp only[intOf]);omega
     have n1:(x.f.kind == 1)=false:=by simpa using hk1
     have n3:(x.f.kind == 3)=false:=by simpa using hk3
     have n4:(x.f.kind == 4)=false:=by simpa using hk4
     have n5:(x.f.kind == 5)=false:=by simpa using hk5
     have n6:(x.f.kind == 6)=false:=by simpa using hk6
     have HN:Hid (SgL w N id (.slice (some ⟨fb2,fo2,none⟩) rs.length rc) rs (k+1) g tv cv (.slice la ls.length lc) ls W5):=Lib.hid ⟨HW5.out,by rw[HG2.out,HST.out,stepG_no hk1 hk3 hk4 hk5 hk6],HLA.out,HOKG.out,by omega,by omega⟩
     clear hk1 hk3 hk4 hk5 hk6
     go_wp2_with fail
     go_roundw
     case rel=>exact⟨k+1,g,tv,cv,la,lc,ls,b,by omega,by go_num,rfl,rfl,HBB,HN⟩
     case measure=>(try simp only[intOf]);omega
    ·obtain rfl:k=rs.length:=by omega
     have HGQ:Hid ((rs.map FctE.f).foldl Mg.stepG stg0=g):=Lib.hid (by
      have:=HL.out.eq
      rwa [List.take_length]at this)
     have HGE:Hid (Mg.foldG (fs.map FctE.f) id=g):=Lib.hid (by unfold Mg.foldG;rw[<-HEQ.out];exact HGQ.out)
     have HAP:Hid (Apart g):=Lib.hid (by rw[<-HGE.out];exact foldG_apart _ _)
     have HGG:Hid (GGood g):=Lib.hid (by
      rw[<-HGE.out]
      refine foldG_good (fun f hf=>?_) id
      obtain⟨x,hx,rfl⟩:=List.mem_map.1 hf
      exact HGF.out x hx)
     have HW:=Lib.hid HL.out.wld
     have HLA:=Lib.hid HL.out.lan
     have HOKG:=Lib.hid HL.out.ok
     obtain⟨hll,hcl⟩:=HL.out.len
     have HPN:Hid (okI (g.pub.getD 0)):=Lib.hid (by
      cases hp:g.pub with
      |none=>exact okI_zero
      |some n=>exact HOKG.out.pub n hp)
     have hNl:N<wr.heap.size:=qh HW.out.box
     have k7:wr.cell? ⟨N,7,none⟩=some (.bool g.taken):=rowcell HW.out.box
     clear HL
     cases htk:g.taken with
     |true=>
      have HIS:Hid (StyIs id (Mg.foldG (fs.map FctE.f) id) ⟨id,str0,[],[],g.pub.getD 0,[],false,true⟩):=Lib.hid (by rw[HGE.out];exact sty_taken htk)
      rw[htk]at k7
      clear htk
      have k4:wr.cell? ⟨N,4,none⟩=some (.int .i64 (g.pub.getD 0)):=rowcell HW.out.box
      go_wp2_with (first
       |((with_reducible refine at_sbuild 34 _ rfl ?_);go_must (refine wpList_buildTo rfl 34 _ rfl _ rfl _ (by simp[Act.eval];with_reducible exact built_taken id (g.pub.getD 0)) ?_))
       |((with_reducible refine at_sstore 34 _ _ rfl ?_);go_must (refine wpList_sstore (cs:=#[.int .i64 id,.string .empty,.slice none 0 0,.slice none 0 0,.int .i64 (g.pub.getD 0),.slice none 0 0,.bool false,.bool true]) rfl S_sty _ _ rfl (by simp[Act.eval,Act.put]) (by simp[Act.eval,Act.put]) HW.out.res rfl rfl (by simp[Value.oneCell']) ?_)))
      refine bodyPost_ret (results_cell_row (p:=4) (ty:=34) (by kernel_rfl) _ _ w.heap.size _ _ (0,0) _ (by simp[Act.put]) (setRow_heap _ _ _ _ _ _ HW.out.res) Tryz.underlying34 rfl (by kernel_rfl)) rfl ?_
      exact⟨⟨id,str0,[],[],g.pub.getD 0,[],false,true⟩,.slice none 0 0,.slice none 0 0,.slice none 0 0,rfl,rfl,HIS.out,⟨HID.out,str0_ok,HPN.out⟩,⟨StrsM.nil _,SlM.nil _ _,SlM.nil _ _⟩,⟨(by intro e he;cases he),Nat.zero_le _,(by intro e he;cases he),Nat.zero_le _,Nat.zero_le _⟩,below_setRow HW.out.bel (Nat.le_refl _) _⟩
     |false=>
      have HTK:=Lib.hid htk
      rw[htk]at k7
      clear htk
      go_wp2_with fail
      clear k7
      go_loopw [12] (fun i wr=>∃ (k:Nat) (ev:Value) (ecs:List (Array Value)),k<=ls.length/\i=.int .i64 k/\Hid (SgW w N (.slice ra rs.length rc) rs (styCells (sgS id g) tv ev cv) tv g.topics (.slice la ls.length lc) ls cv g.corr ev (edsFin g (ls.take k)) ecs wr)/\Hid (∀ e∈edsFin g (ls.take k),GD e.blocks)) (fun i _=>ls.length - (intOf i).toNat)
      case atStart=>exact⟨0,.slice none 0 0,[],Nat.zero_le _,rfl,Lib.hid (by rw[List.take_zero];exact HW.out),Lib.hid (by rw[List.take_zero];intro e he;cases he)⟩
      case round=>
       obtain⟨k,ev,ecs,hk,rfl,HI,HGDS⟩:=hrel
       by_cases hlt:k<ls.length
       ·obtain⟨la2,lc2,lb,lo,hlv,hlc,hlm,hla,hlz,hlat⟩:=HI.out.lan.open_ (memNo_sees wr _)
        injection hlv with hlv1 hlv0 hlv2
        subst hlv1 hlv2
        clear hlv0
        obtain rfl:=hla (by omega)
        have HLT:Hid (wr.drew.cell? ⟨lb,lo+k,none⟩=some (.string ls[k])):=Lib.hid (hlat k hlt)
        obtain⟨he1,he2,he3⟩:=edn_of HGQ.out HLA.out (List.getElem_mem hlt)
        have HE1:=Lib.hid he1
        have HEO:Hid (EdnOK (edFin g.corr (edAt g.eds ls[k]))):=Lib.hid (by
         have:=HOKG.out.eds _ he2
         exact⟨this.s0,this.i1,this.s2,this.i3⟩)
        have HTK2:Hid (edsFin g (ls.take (k+1))=edsFin g (ls.take k)++[edFin g.corr (edAt g.eds ls[k])]):=Lib.hid (by
         unfold edsFin
         rw[List.take_succ_eq_append_getElem hlt,List.map_append];rfl)
        have hel:ecs.length=k:=by
         have:=HI.out.val.1
         unfold edsFin at this
         rw[List.length_map,List.length_take]at this
         omega
        have HEL:=Lib.hid hel
        have hlk:(k:Int)<ls.length:=by omega
        clear hel he1 he2 he3 hla hlat hlz hlc hlm
        have HYK0:Hid (ls[k]=ls[k]):=Lib.hid rfl
        generalize hyk:ls[k]=y at *
        have HYK:=Lib.hid hyk
        clear hyk HYK0
        generalize edAt g.eds y=ee at *
        obtain⟨Wd,hWd⟩:∃ Wd,Wd=wr.drew:=⟨_,rfl⟩
        have HWD:Hid (SgW w N (.slice ra rs.length rc) rs (styCells (sgS id g) tv ev cv) tv g.topics (.slice (some ⟨lb,lo,none⟩) ls.length lc) ls cv g.corr ev (edsFin g (ls.take k)) ecs Wd):=Lib.hid (by rw[hWd];exact HI.out.keep ((Below.refl _ wr).drew))
        rw[<-hWd]at HLT
        have cE:=Lib.hid (editionR_any (e:=ee) (HWD.out.es HOKS.out HS.out) (HWD.out.cors HOKG.out.cor) HE1.out (fun x hx=>(HGF.out x (HSUB.out x hx)).blks) HGG.out.corr (by omega) (by omega) Wd (Sees.self Wd))
        have HSS:Hid (Wd.cell? ⟨N,3,none⟩=some ev/\Wd.cell? ⟨N,5,none⟩=some cv/\Wd.cell? ⟨lb,lo+k,none⟩=some (.string y)):=Lib.hid ⟨rowcell HWD.out.box,rowcell HWD.out.box,HLT.out⟩
        clear HI HLT
        go_upto_region 34 with fail
        refine wp_sch (.take 0 (.take 1 (.take 2 (.take 3 (.take 4 (.take 5 (.take 6 (.take 7 (.take 8 (.only 9 (.only 10 (.only 11 (.only 12 (.last 13 .done)))))))))))))) 13 (fun W2=>W2.cell? ⟨N,3,none⟩=some ev/\W2.cell? ⟨N,5,none⟩=some cv/\W2.cell? ⟨lb,lo+k,none⟩=some (.string y)) (by kernel_rfl) (by kernel_rfl) (by rw[<-hWd];exact HSS.out) ?_
        rw[<-hWd]
        clear hWd
        refine wpSch_take rfl (.pointer (some ⟨N,3,none⟩)) (fun _ _ _ _ h=>h) HSS.out (by rfl) (fun W2 hW=>by go_simp) ?_
        simp only[Act.put,List.setIfInBounds_toArray,List.set_cons_zero,List.set_cons_succ]
        refine wpSch_take rfl (ev) (fun _ _ _ _ h=>h) HSS.out (by rfl) (fun W2 hW=>by have q0:=hW.1;go_simp) ?_
        simp only[Act.put,List.setIfInBounds_toArray,List.set_cons_zero,List.set_cons_succ]
        refine wpSch_take rfl (.slice ra rs.length rc) (fun _ _ _ _ h=>h) HSS.out (by rfl) (fun W2 hW=>by go_simp) ?_
        simp only[Act.put,List.setIfInBounds_toArray,List.set_cons_zero,List.set_cons_succ]
        refine wpSch_take rfl (.slice (some ⟨lb,lo,none⟩) ls.length lc) (fun _ _ _ _ h=>h) HSS.out (by rfl) (fun W2 hW=>by go_simp) ?_
        simp only[Act.put,List.setIfInBounds_toArray,List.set_cons_zero,List.set_cons_succ]
        refine wpSch_take rfl (.int .i64 k) (fun _ _ _ _ h=>h) HSS.out (by rfl) (fun W2 hW=>by go_simp) ?_
        simp only[Act.put,List.setIfInBounds_toArray,List.set_cons_zero,List.set_cons_succ]
        refine wpSch_take rfl (.pointer (some ⟨lb,lo+k,none⟩)) (fun _ _ _ _ h=>h) HSS.out (by rfl) (fun W2 hW=>by go_simp) ?_
        simp only[Act.put,List.setIfInBounds_toArray,List.set_cons_zero,List.set_cons_succ]
        refine wpSch_take rfl (.string y) (fun _ _ _ _ h=>h) HSS.out (by rfl) (fun W2 hW=>by have q0:=hW.2.2;go_simp) ?_
        simp only[Act.put,List.setIfInBounds_toArray,List.set_cons_zero,List.set_cons_succ]
        refine wpSch_take rfl (.pointer (some ⟨N,5,none⟩)) (fun _ _ _ _ h=>h) HSS.out (by rfl) (fun W2 hW=>by go_simp) ?_
        simp only[Act.put,List.setIfInBounds_toArray,List.set_cons_zero,List.set_cons_succ]
        refine wpSch_take rfl (cv) (fun _ _ _ _ h=>h) HSS.out (by rfl) (fun W2 hW=>by have q0:=hW.2.1;go_simp) ?_
        simp only[Act.put,List.setIfInBounds_toArray,List.set_cons_zero,List.set_cons_succ]
        refine wpSch_only rfl (fun K hK=>?_)
        rw[if_pos (by rfl)]
        go_simp
        refine cE.out.mono ?_
        rintro e5 w5 ⟨bv,rfl,hbr,hb5,hgd5⟩
        dsimp only
        obtain⟨ba,bc,rfl⟩:=hbr.shape
        have HW5:=Lib.hid (HWD.out.keep hb5)
        have HBV:=Lib.hid (HWD.out.blks hbr hgd5)
        have HGD5:=Lib.hid hgd5
        have HSS5:Hid (w5.cell? ⟨N,3,none⟩=some ev/\w5.cell? ⟨N,5,none⟩=some cv/\w5.cell? ⟨lb,lo+k,none⟩=some (.string y)):=Lib.hid ⟨sees_bel hb5 _ _ HSS.out.1,sees_bel hb5 _ _ HSS.out.2.1,sees_bel hb5 _ _ HSS.out.2.2⟩
        clear hbr hb5 hgd5 cE
        generalize hef:edFin g.corr ee=fe at *
        clear hef
        refine hK _ _ HSS5.out ?_
        clear hK K
        refine wpSch_only rfl (fun K hK=>?_)
        rw[if_pos (by rfl)]
        refine wp_one_slice E_edn _ rfl (.agg (ednCells fe (.slice ba fe.blocks.length bc))) rfl (by simp[Act.eval]) ?_
        have HSS6:Hid ((w5.alloc (.cells (ednCells fe (.slice ba fe.blocks.length bc)) 39)).cell? ⟨N,3,none⟩=some ev/\(w5.alloc (.cells (ednCells fe (.slice ba fe.blocks.length bc)) 39)).cell? ⟨N,5,none⟩=some cv/\(w5.alloc (.cells (ednCells fe (.slice ba fe.blocks.length bc)) 39)).cell? ⟨lb,lo+k,none⟩=some (.string y)):=Lib.hid ⟨sees_bel (bel1 w5 _) _ _ HSS5.out.1,sees_bel (bel1 w5 _) _ _ HSS5.out.2.1,sees_bel (bel1 w5 _) _ _ HSS5.out.2.2⟩
        refine hK _ _ HSS6.out ?_
        clear hK K
        simp only[Act.put,List.setIfInBounds_toArray,List.set_cons_zero,List.set_cons_succ]
        refine wpSch_only rfl (fun K hK=>?_)
        rw[if_pos (by rfl)]
        have hsz6:w.heap.size<=w5.heap.size+1:=by have:=HW5.out.bel.size;omega
        have hecl:=HEL.out
        refine wp_app_one E_edn _ _ rfl (by simp[Act.eval]) (HW5.out.ed.bel (bel1 w5 _)) (ednCells fe (.slice ba fe.blocks.length bc)) rfl (edn_one _ _ _ _) w5.heap.size 1 (by simp[Act.eval]) (World.alloc_heap_new w5 _) (by omega) (by rw[World.size_alloc];exact hsz6) ?_
        intro v7 w7 hr7 hg7 ho7
        obtain⟨a7,c7,hv7⟩:=hr7.shape
        obtain⟨n7,hn7⟩:∃ n7,n7=(ecs++[ednCells fe (.slice ba fe.blocks.length bc)]).length:=⟨_,rfl⟩
        rw[<-hn7]at hv7
        subst hv7
        have HW7:=Lib.hid (HW5.out.edn hr7 hg7 ho7 HEO.out HBV.out)
        have HSS7:Hid (w7.cell? ⟨N,3,none⟩=some ev/\w7.cell? ⟨N,5,none⟩=some cv/\w7.cell? ⟨lb,lo+k,none⟩=some (.string y)):=Lib.hid ⟨rowcell HW7.out.box,rowcell HW7.out.box,by
         obtain⟨la3,lc3,lb3,lo3,hlv,_,_,hla3,_,hlat3⟩:=HW7.out.lan.open_ (memNo_sees w7 _)
         injection hlv with hlv1 hlv0 hlv2
         have:=hla3 (by omega)
         rw[<-hlv1]at this
         injection this with this
         injection this with t1 t2 t3
         subst t1 t2
         have h4:=hlat3 k hlt
         rw[HYK.out]at h4
         exact h4⟩
        have q3:=HSS7.out.1
        have z3:w7.frozen? ⟨N,3,none⟩=false:=rowfree HW7.out.box
        have HN8:=Lib.hid (HW7.out.set 3 (.slice a7 n7 c7))
        clear hr7 hg7 ho7 hn7 hecl
        refine hK _ _ HSS7.out ?_
        clear hK K
        simp only[Act.put,List.setIfInBounds_toArray,List.set_cons_zero,List.set_cons_succ]
        refine wpSch_only rfl (fun K hK=>?_)
        rw[if_pos (by rfl)]
        go_simp
        refine hK _ _ HSS7.out ?_
        clear hK K
        refine wpSch_last rfl (fun K hK=>?_)
        rw[if_pos (by rfl)]
        go_simp
        refine hK _ _ ?_
        clear hK K q3 z3
        refine wpSch_done ?_
        have HI8:Hid (SgW w N (.slice ra rs.length rc) rs (styCells (sgS id g) tv (.slice a7 n7 c7) cv) tv g.topics (.slice (some ⟨lb,lo,none⟩) ls.length lc) ls cv g.corr (.slice a7 n7 c7) (edsFin g (ls.take (k+1))) (ecs++[ednCells fe (.slice ba fe.blocks.length bc)]) (w7.setCell ⟨N,3,none⟩ (.slice a7 n7 c7))):=Lib.hid (by rw[HTK2.out];exact HN8.out)
        have HG8:Hid (∀ e∈edsFin g (ls.take (k+1)),GD e.blocks):=Lib.hid (by
         rw[HTK2.out]
         intro e he
         rcases List.mem_append.1 he with he | he
         ·exact HGDS.out e he
         ·rw[List.mem_singleton.1 he];exact HGD5.out)
        go_wp2_with fail
        go_roundw
        case rel=>exact⟨k+1,.slice a7 n7 c7,ecs++[ednCells fe (.slice ba fe.blocks.length bc)],by omega,by go_num,HI8,HG8⟩
        case measure=>simp[intOf];omega
       ·obtain rfl:k=ls.length:=by omega
        have HX:Hid (StyP (memNo wr (fun k=>k<=w.heap.size)) ⟨id,g.author,g.topics,edsFin g ls,g.pub.getD 0,g.corr,g.retr,g.taken⟩ tv ev cv):=Lib.hid (by
         have h:=HI.out
         rw[List.take_length]at h
         exact SgW.sty (x:=⟨id,g.author,g.topics,edsFin g ls,g.pub.getD 0,g.corr,g.retr,g.taken⟩) h HOKG.out.cor)
        obtain⟨t1,t2,e1,e2,c1,c2,ht,he,hc⟩:=HX.out.shape
        dsimp only at ht he hc
        have HN9:=Lib.hid HI.out.box
        have HZ9:=Lib.hid HI.out.res
        have HB9:=Lib.hid HI.out.bel
        have HGDF:Hid (∀ e∈edsFin g ls,GD e.blocks):=Lib.hid (by have:=HGDS.out;rwa [List.take_length]at this)
        have hel:(edsFin g ls).length=ls.length:=by unfold edsFin;rw[List.length_map]
        rw[hel]at he
        clear HI HW HGDS hel
        subst ht he hc
        go_wp2_with (first
         |((with_reducible refine at_sload 34 _ rfl ?_);go_must (refine wpList_sload rfl S_sty _ rfl (by simp[Act.eval]) (styCells (sgS id g) (.slice t1 g.topics.length t2) (.slice e1 ls.length e2) (.slice c1 g.corr.length c2)) rfl HN9.out ?_))
         |((with_reducible refine at_sstore 34 _ _ rfl ?_);go_must (refine wpList_sstore (cs:=styCells (sgS id g) (.slice t1 g.topics.length t2) (.slice e1 ls.length e2) (.slice c1 g.corr.length c2)) rfl S_sty _ _ rfl (by simp[Act.eval,Act.put]) (by simp[Act.eval,Act.put]) HZ9.out rfl rfl (by simp[Value.oneCell']) ?_)))
        refine bodyPost_ret (results_cell_row (p:=4) (ty:=34) (by kernel_rfl) _ _ w.heap.size _ _ (0,0) _ (by simp[Act.put]) (setRow_heap _ _ _ _ _ _ HZ9.out) Tryz.underlying34 rfl (by kernel_rfl)) rfl ?_
        have hu9:=upd_row wr w.heap.size (styCells (sgS id g) (.slice t1 g.topics.length t2) (.slice e1 ls.length e2) (.slice c1 g.corr.length c2))
        refine⟨⟨id,g.author,g.topics,edsFin g ls,g.pub.getD 0,g.corr,g.retr,g.taken⟩,.slice t1 g.topics.length t2,.slice e1 ls.length e2,.slice c1 g.corr.length c2,rfl,rfl,by rw[HGE.out];exact sty_is HAP.out HTK.out HLA.out.srt HLA.out.mem,⟨HID.out,HOKG.out.aut,HPN.out⟩,HX.out.mono (fun a u e=>?_),⟨HGDF.out,HGG.out.tops,HGG.out.corr,?_,?_⟩,below_setRow HB9.out (Nat.le_refl _) _⟩
        ·obtain⟨q1,q2⟩:=memNo_get (memNo_upd (F:=fun k=>k<=w.heap.size) hu9 (fun k _ e=>by show k<=w.heap.size;have:k=w.heap.size:=e;omega) a u e)
         exact memNo_of q1 (fun q=>q2 (Nat.le_of_lt q))
        ·show (edsFin g ls).length<=50000
         unfold edsFin
         rw[List.length_map];omega
        ·show g.corr.length<=50000
         omega
set_option maxRecDepth 100000 in
set_option maxHeartbeats 4000000 in
theorem refFind_any {mem:Addr->Option Value} {v:Value} {s:StF} (h:StateM mem v s) (id:Int) (w:World) (hs:Sees mem w):
 Calls Tryz.prog 20 #[v,.int .i64 id] w (StoryAt mem s id w):=by
 obtain⟨sv,tv,rfl,h1,h2⟩:=h
 obtain⟨ta,tc,rfl⟩:=SlM.slice h2
 obtain⟨sa,sc,sb,so,rfl,hcap,hm,hsa,hat⟩:=SlM.open_ h1
 have HSA:=Lib.hid hsa
 have HAT:=Lib.hid hat
 have HS:=Lib.hid hs
 have hll:s.stories.length<=9223372036854775807:=by unfold maxLen at hm;omega
 obtain⟨W1,hW1⟩:∃ W1,W1=(w.alloc (.cells #[.slice sa s.stories.length sc,.slice ta s.tpls.length tc] 27)).alloc (.cells zStyC 34):=⟨_,rfl⟩
 have hb1:Below w.heap.size w W1:=by rw[hW1];exact(bel1 w _).alloc (by simp) _
 have hn0:W1.heap[w.heap.size]?=some (.cells #[.slice sa s.stories.length sc,.slice ta s.tpls.length tc] 27 (0,0)):=by rw[hW1];exact heap_new1 w _ _
 have hn1:W1.heap[w.heap.size+1]?=some (.cells zStyC 34 (0,0)):=by
  rw[hW1]
  have:=World.alloc_heap_new (w.alloc (.cells #[.slice sa s.stories.length sc,.slice ta s.tpls.length tc] 27)) (.cells zStyC 34)
  simpa using this
 have HN0:=Lib.hid hn0
 have HN1:=Lib.hid hn1
 have HB1:=Lib.hid hb1
 have HW1:=Lib.hid hW1
 clear h1 h2 hsa hat hs hb1 hn0 hn1 hW1
 go_enter Tryz.func20,Tryz.ntmps20
 go_upto_region 1 with fail
 rw[<-HW1.out]
 go_wp2_with fail
 go_loopw [6] (fun i wr=>∃ k:Nat,k<=s.stories.length/\i=.int .i64 k/\Hid (∀ j (hj:j<s.stories.length),j<k->s.stories[j].id≠id)/\Hid (Below W1.heap.size W1 wr)) (fun i _=>s.stories.length - (intOf i).toNat)
 case atStart=>exact⟨0,Nat.zero_le _,rfl,Lib.hid (fun j _ h=>absurd h (by omega)),Lib.hid (Below.refl _ _)⟩
 case round=>
  obtain⟨k,hk,rfl,HT,HB⟩:=hrel
  have k0:wr.cell? ⟨w.heap.size,0,none⟩=some (.slice sa s.stories.length sc):=rowcell ((HB.out.block _ (qh HN0.out)).trans HN0.out)
  by_cases hlt:k<s.stories.length
  ·obtain rfl:=HSA.out (by omega)
   obtain⟨hok,tv,ev,cv,hcells,hP⟩:=HAT.out k hlt
   have HVV:Hid (StyV mem (.agg (styCells s.stories[k] tv ev cv)) s.stories[k]):=Lib.hid ⟨hok,_,_,_,rfl,hP⟩
   have HCL:=Lib.hid (cells_see (sz:=8) (HS.out.bel (HB1.out.trans (HB.out.mono HB1.out.size))) hcells rfl)
   have HYES:Hid (s.stories[k].id=id->findS s id=some s.stories[k]):=Lib.hid (fun e=>findS_at k hlt e (fun j hj=>HT.out j (by omega) hj))
   have HNO:Hid (s.stories[k].id≠id->∀ j (hj:j<s.stories.length),j<k+1->s.stories[j].id≠id):=Lib.hid (fun e j hj hjk=>by
    by_cases ej:j=k
    ·subst ej;exact e
    ·exact HT.out j hj (by omega))
   obtain⟨t1,t2,e1,e2,c1,c2,rfl,rfl,rfl⟩:=hP.shape
   generalize s.stories[k].topics.length=n1 at *
   generalize s.stories[k].eds.length=n2 at *
   generalize s.stories[k].corr.length=n3 at *
   clear hok hcells hP
   generalize s.stories[k]=y at *
   have q0:wr.cell? ⟨sb,so+k * 8,none⟩=some (.int .i64 y.id):=HCL.out 0 (by omega)
   by_cases hy:y.id=id
   ·have HFD:=Lib.hid (HYES.out hy)
    rw[hy]at q0
    clear hy HYES HNO
    have HZ:Hid (wr.heap[w.heap.size+1]?=some (.cells zStyC 34 (0,0))):=Lib.hid ((HB.out.block _ (qh HN1.out)).trans HN1.out)
    go_wp2_with (first
     |((with_reducible refine at_sload 34 _ rfl ?_);go_must (refine wpList_smid rfl S_sty _ rfl (by simp[Act.eval]) (styCells y (.slice t1 n1 t2) (.slice e1 n2 e2) (.slice c1 n3 c2)) rfl HCL.out ?_))
     |((with_reducible refine at_sstore 34 _ _ rfl ?_);go_must (refine wpList_sstore (cs:=(styCells y (.slice t1 n1 t2) (.slice e1 n2 e2) (.slice c1 n3 c2))) rfl S_sty _ _ rfl (by simp[Act.eval,Act.put]) (by simp[Act.eval,Act.put]) HZ.out rfl rfl (by simp[Value.oneCell']) ?_)))
    refine bodyPost_ret (results_cell_row2 (p:=4) (u:=5) (ty:=34) (by kernel_rfl) _ _ (w.heap.size+1) _ _ (0,0) _ (by simp) (setRow_heap _ _ _ _ _ _ HZ.out) Tryz.underlying34 rfl (by kernel_rfl)) rfl ?_
    refine⟨_,by rw[HFD.out];rfl,?_,below_setRow (HB1.out.trans (HB.out.mono HB1.out.size)) (by omega) _⟩
    unfold styOf;rw[HFD.out]
    exact HVV.out
   ·have HNN:=Lib.hid (HNO.out hy)
    have hne:(y.id == id)=false:=by simpa using hy
    clear hy HYES HNO
    go_wp2_with fail
    go_roundw
    case rel=>exact⟨k+1,by omega,by go_num,HNN,HB⟩
    case measure=>simp[intOf];omega
  ·have e':k=s.stories.length:=by omega
   subst e'
   have HFD:Hid (findS s id=none):=Lib.hid (findS_no (fun j hj=>HT.out j hj hj))
   have HZ:Hid (wr.heap[w.heap.size+1]?=some (.cells zStyC 34 (0,0))):=Lib.hid ((HB.out.block _ (qh HN1.out)).trans HN1.out)
   go_wp2_with (first
    |((with_reducible refine at_sbuild 34 _ rfl ?_);go_must (refine wpList_buildTo rfl 34 _ rfl _ rfl _ (by simp[Act.eval];with_reducible exact built_sty0) ?_))
    |((with_reducible refine at_sstore 34 _ _ rfl ?_);go_must (refine wpList_sstore (cs:=styCells sty0 (.slice none 0 0) (.slice none 0 0) (.slice none 0 0)) rfl S_sty _ _ rfl (by simp[Act.eval,Act.put]) (by simp[Act.eval,Act.put]) HZ.out rfl rfl (by simp[Value.oneCell']) ?_)))
   refine bodyPost_ret (results_cell_row2 (p:=4) (u:=5) (ty:=34) (by kernel_rfl) _ _ (w.heap.size+1) _ _ (0,0) _ (by simp) (setRow_heap _ _ _ _ _ _ HZ.out) Tryz.underlying34 rfl (by kernel_rfl)) rfl ?_
   refine⟨_,by rw[HFD.out];rfl,?_,below_setRow (HB1.out.trans (HB.out.mono HB1.out.size)) (by omega) _⟩
   unfold styOf;rw[HFD.out]
   exact sty0_V
structure FoL (w:World) (l:List Fct) (k:Nat) (sv tv:Value) (s:StF) (W:World):Prop where
 wld:FoW w sv tv s W
 ref:RefI l (l.take k) s
 good:∀ x∈s.stories,StyGood x
 ns:s.stories.length<=k
 nt:s.tpls.length<=k
def RefFold (l:List Fct) (w:World) (e:Ending) (w':World):Prop:=∃ sv tv s,e=.returned (.agg #[sv,tv])/\FoldIs l s/\StateM (memNo w' (fun k=>k<w.heap.size)) (.agg #[sv,tv]) s/\(∀ x∈s.stories,StyGood x)/\s.stories.length<=l.length/\Below w.heap.size w w'
theorem exec_slice_lo {P:Program} {o:Oper} {a:Act} {w:World} {t e:TypeId} {x l:Operand} {ao:Option Addr} {n c:Nat} {u r:Value} (ht:P.underlying t=some (.slice e)) (ho:o.op=.slice t x (some l) none none) (hx:a.eval x=.slice ao n c) (hl:a.eval l=u) (hr:(Instr.slice t (.slice ao n c) (some u) none none).run P w=.ok r w):(execOp a.eval o).run P w=.ok (.value r) w:=by
 unfold execOp
 simp only[ho,hx,hl,Instr.sliceAt,Option.map_some,Option.map_none,Sem.run_bind,run_underlying ht,hr,Result.andThen_ok]
 rfl
theorem built_stz:Tryz.prog.built 27 []=some #[.slice none 0 0,.slice none 0 0]:=by kernel_rfl
theorem built_tplA (a b:ByteArray):Tryz.prog.built 52 [(0,.string a),(1,.string b)]=some (tplCells ⟨a,b⟩):=by kernel_rfl
section
variable {w W W':World} {l:List Fct} {k:Nat} {sv tv:Value} {s:StF}
theorem FoL.next (h:FoL w l k sv tv s W) (hk:k<l.length) (hf:l[k].kind≠7) (hp:l[k].kind≠3\/(findS s l[k].story).isSome=true) (hb:Below W.heap.size W W'):FoL w l (k+1) sv tv s W':=
 ⟨h.wld.keep hb,by rw[List.take_succ_eq_append_getElem hk];exact h.ref.known hf hp,h.good,by have:=h.ns;omega,by have:=h.nt;omega⟩
theorem FoL.pub (h:FoL w l k sv tv s W) (hk:k<l.length) (hf:l[k].kind=3) (hn:(findS s l[k].story).isSome=false) {y:StyF} (hy:y.id=l[k].story) (hv:StyIs l[k].story (Mg.foldG l l[k].story) y) (hg:StyGood y) {sv':Value} (hw:FoW w sv' tv (styIns s y) W'):FoL w l (k+1) sv' tv (styIns s y) W':=by
 refine⟨hw,by rw[List.take_succ_eq_append_getElem hk];exact h.ref.pub hf hn hy hv,fun x hx=>?_,?_,by have:=h.nt;show s.tpls.length<=k+1;omega⟩
 ·rcases (putAt_mem _ _ _ _).1 hx with rfl | hx
  ·exact hg
  ·exact h.good x hx
 ·show (putAt _ s.stories y).length<=k+1
  rw[putAt_len];have:=h.ns;omega
theorem FoL.tpl_ (h:FoL w l k sv tv s W) (hk:k<l.length) (hf:l[k].kind=7) {tv':Value} (hw:FoW w sv tv' (tplIns s ⟨l[k].name,l[k].text⟩) W'):FoL w l (k+1) sv tv' (tplIns s ⟨l[k].name,l[k].text⟩) W':=by
 refine⟨hw,by rw[List.take_succ_eq_append_getElem hk];exact h.ref.tpl_ hf,h.good,by have:=h.ns;show s.stories.length<=k+1;omega,?_⟩
 show (withGo _ false s.tpls).length<=k+1
 have h1:=withGo_len ⟨l[k].name,l[k].text⟩ s.tpls false
 have h2:=h.nt
 simp at h1
 omega
theorem FoW.tplsM (h:FoW w sv tv s W) {v:Value} {t:TplF} (hr:GRow W' W.heap.size 52 2 v ((withGo t false s.tpls).map tplCells)) (ht:TplOK t):TplsM (memNo W' (FoF w.heap.size)) v (withGo t false s.tpls):=by
 refine(grow_tpls (F:=fun k=>k<W.heap.size) hr (fun x hx=>?_) (fun j hj (q:j<W.heap.size)=>by have:=(hr.ge j hj).1;omega)).mono (memNo_fr fun j (q:j<=w.heap.size+1)=>by have:=h.low;show j<W.heap.size;omega)
 rcases (withGo_mem t s.tpls x).1 hx with rfl | hx
 ·exact ht
 ·exact SlM.all h.tpl (p:=TplOK) (fun _ _ _ q=>q.1) x hx.1
theorem FoW.styV (hb:Below W'.heap.size W' W) {y:StyF} {t e c:Value} {B:Nat} (hB:w.heap.size+1<B) (hy:StyOK y) (hp:StyP (memNo W' (fun k=>k<B)) y t e c):SyV (memNo W (FoF w.heap.size)) y (styCells y t e c):=by
 refine⟨hy,t,e,c,rfl,hp.mono (fun a u q=>?_)⟩
 obtain⟨q1,q2⟩:=memNo_get q
 exact memNo_of (sees_bel hb a u q1) (fun q3=>q2 (by show a.block<B;have:a.block<=w.heap.size+1:=q3;omega))
end
set_option maxRecDepth 100000 in
set_option maxHeartbeats 8000000 in
theorem foldR_any {mem:Addr->Option Value} {lv:Value} {fs:List FctE} (hE:EsM mem lv fs) (hgd:∀ x∈fs,FGood x.f) (hfl:fs.length<=20000) (w:World) (hs:Sees mem w):
 Calls Tryz.prog 17 #[lv] w (RefFold (fs.map FctE.f) w):=by
 have HE:=Lib.hid hE
 obtain⟨fa,fc,fb,fo,rfl,hfm,hfa,hfe⟩:=hE.open_
 have HFA:=Lib.hid hfa
 have HFE:=Lib.hid hfe
 have HS:=Lib.hid hs
 have HGF:=Lib.hid hgd
 obtain⟨W2,hW2⟩:∃ W2,W2=(w.alloc (.cells #[.slice none 0 0,.slice none 0 0] 27)).alloc (.cells #[.slice none 0 0,.slice none 0 0] 27):=⟨_,rfl⟩
 have H0:Hid (FoL w (fs.map FctE.f) 0 (.slice none 0 0) (.slice none 0 0) ⟨[],[]⟩ W2):=Lib.hid (by
  refine⟨⟨?_,by rw[hW2];exact heap_new1 w _ _,SlM.nil _ _,SlM.nil _ _,by rw[hW2];exact(bel1 w _).alloc (by simp) _⟩,RefI.start _,(by intro x hx;cases hx),Nat.le_refl _,Nat.le_refl _⟩
  rw[hW2]
  have:=World.alloc_heap_new (w.alloc (.cells #[.slice none 0 0,.slice none 0 0] 27)) (.cells #[.slice none 0 0,.slice none 0 0] 27)
  simpa using this)
 have HW2:=Lib.hid hW2
 clear hE hs hgd hfa hfe hW2
 go_enter Tryz.func17,Tryz.ntmps17
 go_upto_region 2 with (first
  |((with_reducible refine at_sbuild 27 _ rfl ?_);go_must (refine wpList_buildTo rfl 27 _ rfl _ rfl _ (by simp[Act.eval];with_reducible exact built_stz) ?_))
  |((with_reducible refine at_sstore 27 _ _ rfl ?_);go_must (refine wpList_snew rfl S_state _ _ rfl rfl _ _ #[.slice none 0 0,.slice none 0 0] (by simp[Act.eval]) (by simp[Act.eval]) rfl rfl (by simp[Value.oneCell']) ?_)))
 rw[<-HW2.out]
 clear HW2
 go_wp2_with fail
 go_loopw [4] (fun i wr=>∃ (k:Nat) (sv tv:Value) (s:StF),k<=fs.length/\i=.int .i64 k/\Hid (FoL w (fs.map FctE.f) k sv tv s wr)) (fun i _=>fs.length - (intOf i).toNat)
 case atStart=>exact⟨0,.slice none 0 0,.slice none 0 0,⟨[],[]⟩,Nat.zero_le _,rfl,H0⟩
 case round=>
  obtain⟨k,sv,tv,s,hk,rfl,HL⟩:=hrel
  obtain⟨sa,sc,rfl⟩:=SlM.slice HL.out.wld.sty
  obtain⟨ta,tc,rfl⟩:=SlM.slice HL.out.wld.tpl
  by_cases hlt:k<fs.length
  ·obtain⟨hxo,hat⟩:=HFE.out k hlt
   obtain rfl:=HFA.out (by omega)
   have HAT:Hid (fs[k].at (fun p=>wr.cell? p) fb (fo+k * 23)):=Lib.hid (fun j u hj=>(HS.out.bel HL.out.wld.bel) _ _ (hat j u hj))
   have HXO:=Lib.hid hxo
   have hkm:k<(fs.map FctE.f).length:=by rw[List.length_map];exact hlt
   have hgx:(fs.map FctE.f)[k]=fs[k].f:=List.getElem_map _
   have HNX:Hid (∀ W',Below wr.heap.size wr W'->fs[k].f.kind≠7->(fs[k].f.kind≠3\/(findS s fs[k].f.story).isSome=true)->FoL w (fs.map FctE.f) (k+1) (.slice sa s.stories.length sc) (.slice ta s.tpls.length tc) s W'):=Lib.hid (fun W' hb h1 h2=>HL.out.next hkm (by rw[hgx];exact h1) (by rw[hgx];exact h2) hb)
   have HPB:Hid (∀ W' (y:StyF) sv',fs[k].f.kind=3->(findS s fs[k].f.story).isSome=false->y.id=fs[k].f.story->StyIs fs[k].f.story (Mg.foldG (fs.map FctE.f) fs[k].f.story) y->StyGood y->FoW w sv' (.slice ta s.tpls.length tc) (styIns s y) W'->FoL w (fs.map FctE.f) (k+1) sv' (.slice ta s.tpls.length tc) (styIns s y) W'):=Lib.hid (fun W' y sv' h1 h2 h3 h4 h5 h6=>HL.out.pub hkm (by rw[hgx];exact h1) (by rw[hgx];exact h2) (by rw[hgx];exact h3) (by rw[hgx];exact h4) h5 h6)
   have HTP:Hid (∀ W' tv',fs[k].f.kind=7->FoW w (.slice sa s.stories.length sc) tv' (tplIns s ⟨fs[k].f.name,fs[k].f.text⟩) W'->FoL w (fs.map FctE.f) (k+1) (.slice sa s.stories.length sc) tv' (tplIns s ⟨fs[k].f.name,fs[k].f.text⟩) W'):=Lib.hid (fun W' tv' h1 h2=>by
    have:=HL.out.tpl_ (W':=W') (tv':=tv') hkm (by rw[hgx];exact h1) (by rw[hgx];exact h2)
    rw[hgx]at this
    exact this)
   have HSZ:Hid (fs[k].cells.size=23):=Lib.hid rfl
   have HON:=Lib.hid (fs[k].one)
   have HW:=Lib.hid HL.out.wld
   have hns:=HL.out.ns
   have hnt:=HL.out.nt
   have hflk:(k:Int)<fs.length:=by omega
   clear hxo hat HL hkm hgx
   generalize fs[k]=x at *
   go_upto_region 6 with (first
    |((with_reducible refine at_fload _ rfl ?_);go_must (refine wpList_fct_mid rfl _ rfl (by simp[Act.eval]) HAT.out ?_))
    |((with_reducible refine at_fstore _ _ rfl ?_);go_must (refine wpList_fct_new rfl _ _ rfl rfl _ _ _ (by simp[Act.eval]) (by simp[Act.eval]) (by rfl) HSZ.out HON.out ?_)))
   obtain⟨W5,hW5⟩:∃ W5,W5=wr.alloc (.cells x.cells 50):=⟨_,rfl⟩
   rw[<-hW5]
   have hb5:Below wr.heap.size wr W5:=by rw[hW5];exact bel1 _ _
   have HB5:=Lib.hid hb5
   have HX5:Hid (W5.heap[wr.heap.size]?=some (.cells (fctCells x.f x.tv x.bv x.av) 50 (0,0))):=Lib.hid (by rw[hW5,<-FctE.cells_eq];exact World.alloc_heap_new _ _)
   have HW5:=Lib.hid (HW.out.keep hb5)
   have hTN:w.heap.size+1<wr.heap.size:=HW.out.low
   obtain⟨M,hM⟩:∃ M,M=wr.heap.size:=⟨_,rfl⟩
   rw[<-hM]at HX5 hTN ⊢
   clear hW5 hb5 HAT HW hM
   have c3:W5.cell? ⟨M,3,none⟩=some (.int .i64 x.f.story):=rowcell HX5.out
   have cF:=Lib.hid (refFind_any HW5.out.st x.f.story W5 (memNo_sees _ _))
   go_wp2_with ((with_reducible refine at_sload 27 _ rfl ?_);go_must (refine wpList_sload rfl S_state _ rfl (by simp[Act.eval]) #[(.slice sa s.stories.length sc),(.slice ta s.tpls.length tc)] rfl HW5.out.box ?_))
   refine cF.out.mono ?_
   rintro e W6 ⟨u,rfl,hu,hb6⟩
   obtain⟨_,t0,e0,c0,rfl,hP⟩:=hu
   obtain⟨t1,t2,e1,e2,c1,c2,rfl,rfl,rfl⟩:=hP.shape
   have HW6:=Lib.hid (HW5.out.keep hb6)
   have HB6:Hid (Below wr.heap.size wr W6):=Lib.hid (HB5.out.trans (hb6.mono HB5.out.size))
   have HX6:=Lib.hid ((hb6.block _ (qh HX5.out)).trans HX5.out)
   clear hP hb6 cF c3 HX5 HW5 HB5
   generalize (findS s x.f.story).isSome=q at *
   generalize styOf s x.f.story=X at *
   go_upto_region 7 with ((with_reducible refine at_sstore 34 _ _ rfl ?_);go_must (refine wpList_snew rfl S_sty _ _ rfl rfl _ _ (styCells X (.slice t1 X.topics.length t2) (.slice e1 X.eds.length e2) (.slice c1 X.corr.length c2)) (by simp[Act.eval]) (by simp[Act.eval]) rfl rfl (by simp[Value.oneCell']) ?_))
   obtain⟨W7,hW7⟩:∃ W7,W7=W6.alloc (.cells (styCells X (.slice t1 X.topics.length t2) (.slice e1 X.eds.length e2) (.slice c1 X.corr.length c2)) 34):=⟨_,rfl⟩
   rw[<-hW7]
   have hb7:Below W6.heap.size W6 W7:=by rw[hW7];exact bel1 _ _
   have HW7:=Lib.hid (HW6.out.keep hb7)
   have HB7:Hid (Below wr.heap.size wr W7):=Lib.hid (HB6.out.trans (hb7.mono HB6.out.size))
   have HX7:=Lib.hid ((hb7.block _ (qh HX6.out)).trans HX6.out)
   clear hW7 hb7 HW6 HB6 HX6
   have c2:W7.cell? ⟨M,2,none⟩=some (.int .i64 x.f.kind):=rowcell HX7.out
   by_cases hk3:x.f.kind=3
   ·cases q with
    |true=>
     have HN:=Lib.hid (HNX.out W7 HB7.out (by omega) (.inr rfl))
     rw[hk3]at c2
     clear hk3
     go_wp2_with fail
     go_roundw
     case rel=>exact⟨k+1,(.slice sa s.stories.length sc),(.slice ta s.tpls.length tc),s,by omega,by go_num,HN⟩
     case measure=>(try simp only[intOf]);omega
    |false=>
     have HPB2:Hid (∀ W' (y:StyF) sv',y.id=x.f.story->StyIs x.f.story (Mg.foldG (fs.map FctE.f) x.f.story) y->StyGood y->FoW w sv' (.slice ta s.tpls.length tc) (styIns s y) W'->FoL w (fs.map FctE.f) (k+1) sv' (.slice ta s.tpls.length tc) (styIns s y) W'):=Lib.hid (fun W' y sv'=>HPB.out W' y sv' hk3 rfl)
     have HK3:=Lib.hid hk3
     rw[hk3]at c2
     clear hk3 HTP HNX HPB
     have c3:W7.cell? ⟨M,3,none⟩=some (.int .i64 x.f.story):=rowcell HX7.out
     have cS:=Lib.hid (storyR_any HE.out HGF.out HXO.out.fok.i3 hfl W7 (HS.out.bel HW7.out.bel))
     go_wp2_with fail
     refine cS.out.mono ?_
     rintro e W8 ⟨y,ty,ey,cy,rfl,hyid,hyis,hyok,hyP,hyg,hb8⟩
     have HYP:=Lib.hid hyP
     obtain⟨y1,y2,y3,y4,y5,y6,rfl,rfl,rfl⟩:=hyP.shape
     have HYI:=Lib.hid hyid
     have HYS:=Lib.hid hyis
     have HYO:=Lib.hid hyok
     have HYG:=Lib.hid hyg
     have HW8:=Lib.hid (HW7.out.keep hb8)
     have HB8:=Lib.hid hb8
     have HX8:=Lib.hid ((hb8.block _ (qh HX7.out)).trans HX7.out)
     clear hyP hyid hyis hyok hyg hb8 cS c2 c3
     go_upto_region 9 with ((with_reducible refine at_sstore 34 _ _ rfl ?_);go_must (refine wpList_snew rfl S_sty _ _ rfl rfl _ _ (styCells y (.slice y1 y.topics.length y2) (.slice y3 y.eds.length y4) (.slice y5 y.corr.length y6)) (by simp[Act.eval]) (by simp[Act.eval]) rfl rfl (by simp[Value.oneCell']) ?_))
     obtain⟨W9,hW9⟩:∃ W9,W9=W8.alloc (.cells (styCells y (.slice y1 y.topics.length y2) (.slice y3 y.eds.length y4) (.slice y5 y.corr.length y6)) 34):=⟨_,rfl⟩
     rw[<-hW9]
     have hb9:Below W8.heap.size W8 W9:=by rw[hW9];exact bel1 _ _
     have HW9:=Lib.hid (HW8.out.keep hb9)
     have HX9:=Lib.hid ((hb9.block _ (qh HX8.out)).trans HX8.out)
     have HY9:Hid (W9.heap[W8.heap.size]?=some (.cells (styCells y (.slice y1 y.topics.length y2) (.slice y3 y.eds.length y4) (.slice y5 y.corr.length y6)) 34 (0,0))):=Lib.hid (by rw[hW9];exact World.alloc_heap_new _ _)
     have HSY:=Lib.hid (FoW.styV (w:=w) hb9 HW7.out.low HYO.out HYP.out)
     have hML:M<W8.heap.size:=qh HX8.out
     have hTL:w.heap.size+1<W8.heap.size:=HW8.out.low
     generalize hY:W8.heap.size=Y at *
     clear hW9 hb9 HW8 HX8 HX7 HB8 HYP hY HW7
     obtain⟨sa2,sc2,sb,so,scs,hsv,hcap,hsm,hsa,hvs,hcat⟩:=HW9.out.sty.cells
     injection hsv with hsv1 hsv0 hsv2
     subst hsv1 hsv2
     clear hsv0
     have HSA:=Lib.hid hsa
     have HVS:=Lib.hid hvs
     have HCAT:=Lib.hid hcat
     have hcl:=hvs.1
     have HCL:=Lib.hid hcl
     have hID:∀ j (h:j<s.stories.length),W9.cell? ⟨sb,so+j * 8,none⟩=some (.int .i64 (s.stories[j]).id):=fun j hj=>by
      obtain⟨_,_,_,_,h1,_⟩:=hvs.2 j hj (by omega)
      have h2:=hcat j (by omega) 0 (by rw[h1];show 0<8;omega)
      rw[h1]at h2
      exact memNo_sees _ _ _ _ h2
     have HIDS:=Lib.hid hID
     have hc63:sc<=9223372036854775807:=by unfold maxLen at hsm;exact hsm
     clear hvs hsa hcat hsm hcl hID
     go_wp2_with fail
     obtain⟨wo,rfl⟩:∃ wo,wo=wr:=⟨_,rfl⟩
     go_loopw [9] (fun i wq=>∃ j:Nat,j<=s.stories.length/\i=.int .i64 j/\Hid (∀ q (h:q<s.stories.length),q<j->(s.stories[q]).id<y.id)/\Hid (Below W9.heap.size W9 wq)) (fun i _=>s.stories.length - (intOf i).toNat)
     case atStart=>exact⟨0,Nat.zero_le _,rfl,Lib.hid (fun q _ h=>absurd h (by omega)),Lib.hid (Below.refl _ _)⟩
     case round=>
      obtain⟨j,hj,rfl,HJ,HB⟩:=hrel
      have k0:wr.cell? ⟨w.heap.size+1,0,none⟩=some (.slice sa s.stories.length sc):=rowcell ((HB.out.block _ (qh HW9.out.box)).trans HW9.out.box)
      have q0:wr.cell? ⟨Y,0,none⟩=some (.int .i64 y.id):=rowcell ((HB.out.block _ (qh HY9.out)).trans HY9.out)
      by_cases hjl:∃ h:j<s.stories.length,(s.stories[j]).id<y.id
      ·obtain⟨hjl,hless2⟩:=hjl
       obtain rfl:=HSA.out (by have:=HCL.out;omega)
       have HJ2:Hid (∀ q (h:q<s.stories.length),q<j+1->(s.stories[q]).id<y.id):=Lib.hid (fun q hq hqj=>by
        by_cases e:q=j
        ·subst e;exact hless2
        ·exact HJ.out q hq (by omega))
       have r0:wr.cell? ⟨sb,so+j * 8,none⟩=some (.int .i64 (s.stories[j]).id):=sees_bel HB.out _ _ (HIDS.out j hjl)
       have hj63:(j:Int)<s.stories.length:=by omega
       generalize (s.stories[j]).id=yi at *
       go_upto_region 10 with fail
       go_quiet (fail)
       go_wp2_with fail
       go_roundw
       case rel=>exact⟨j+1,by omega,by go_num,HJ2,Lib.hid (below_drewN HB.out _)⟩
       case measure=>(try simp only[intOf]);omega
      have hend:(∀ h:j<s.stories.length,¬ (s.stories[j]).id<y.id):=fun h q=>hjl ⟨h,q⟩
      have HPUT:=Lib.hid (putAt_here (x:=y) hj HJ.out hend)
      have HFROM:Hid (∀ W,(Instr.slice 24 (.slice sa s.stories.length sc) (some (.int .i64 (j:Int))) none none).run Tryz.prog W=.ok (.slice (if sc=j then sa else Option.map (fun x=>x.add (j * 8)) sa) (scs.drop j).length (sc - j)) W):=Lib.hid (fun W=>by rw[List.length_drop,HCL.out];exact run_row_from E_sty elem_stys sa _ sc j hj W)
      have HON8:Hid (∀ c∈scs,c.size=8/\OneC c):=Lib.hid (HVS.out.ones (fun _ _ q=>q.one))
      have HRD:Hid (∀ W,Below W9.heap.size W9 W->Reads W W.heap.size 8 (if sc=j then sa else Option.map (fun x=>x.add (j * 8)) sa) (scs.drop j).length ((scs.drop j).flatMap Array.toList)):=Lib.hid (fun W hb=>reads_cells_drop ((memNo_sees W9 _).bel hb) (by omega) (fun c hc=>(HON8.out c hc).1) (fun h=>HSA.out (by have:=HCL.out;omega)) HCAT.out j (by have:=HCL.out;omega))
      have HRT:Hid (∀ W,Below W9.heap.size W9 W->Reads W W.heap.size 8 sa (scs.take j).length ((scs.take j).flatMap Array.toList)):=Lib.hid (fun W hb=>reads_cells_take ((memNo_sees W9 _).bel hb) (by omega) (fun c hc=>(HON8.out c hc).1) (fun h=>HSA.out (by have:=HCL.out;omega)) HCAT.out j)
      have HDON:Hid (∀ c∈scs.drop j,c.size=8/\OneC c):=Lib.hid (fun c hc=>HON8.out c (List.mem_of_mem_drop hc))
      have HTON:Hid (∀ c∈scs.take j,c.size=8/\OneC c):=Lib.hid (fun c hc=>HON8.out c (List.mem_of_mem_take hc))
      have HEON:Hid (∀ c∈[styCells y (.slice y1 y.topics.length y2) (.slice y3 y.eds.length y4) (.slice y5 y.corr.length y6)]++scs.drop j,c.size=8/\OneC c):=Lib.hid (fun c hc=>by
       rcases List.mem_append.1 hc with hc | hc
       ·rw[List.mem_singleton.1 hc];exact HSY.out.one
       ·exact HDON.out c hc)
      have HDL:Hid ((scs.drop j).length<=20000):=Lib.hid (by rw[List.length_drop,HCL.out];omega)
      have HTJ:Hid ((scs.take j).length=j):=Lib.hid (by rw[List.length_take,HCL.out];omega)
      have HTL:Hid ((scs.take j).length<=20000):=Lib.hid (by rw[List.length_take,HCL.out];omega)
      obtain⟨da,hda⟩:∃ da,da=(if sc=j then sa else Option.map (fun x=>x.add (j * 8)) sa):=⟨_,rfl⟩
      rw[<-hda]at HFROM HRD
      clear hda
      by_cases hjl2:j<s.stories.length
      case pos=>
       have hno:=hend hjl2
       obtain⟨ya,hya⟩:∃ ya,sa=some ya:=by
        have:=HSA.out (by have:=HCL.out;omega)
        exact⟨_,this⟩
       have hya2:=HSA.out (by have:=HCL.out;omega)
       subst hya2
       have r0:wr.cell? ⟨sb,so+j * 8,none⟩=some (.int .i64 (s.stories[j]).id):=sees_bel HB.out _ _ (HIDS.out j hjl2)
       have hj63:(j:Int)<s.stories.length:=by omega
       generalize (s.stories[j]).id=yi at *
       clear hend hya ya hjl hjl2
       go_upto_region 10 with fail
       go_quiet (fail)
       go_upto_region 12 with fail
       clear r0 hno hj63
       have HBQ:=fun n=>Lib.hid (below_drewN HB.out n)
       clear k0 q0
       refine wp_sch (.take 0 (.take 2 (.take 3 (.take 4 (.take 5 (.only 1 (.only 6 (.only 7 .done)))))))) 1000 (fun W2=>Below W9.heap.size W9 W2) (by kernel_rfl) (by kernel_rfl) (HBQ _).out.drew ?_
       generalize hWd:World.drew _=Wd at *
       have HBD:Hid (Below W9.heap.size W9 Wd):=Lib.hid (by rw[<-hWd];exact(HBQ _).out.drew)
       clear hWd HBQ HB
       refine wpSch_take rfl (.agg (styCells y (.slice y1 y.topics.length y2) (.slice y3 y.eds.length y4) (.slice y5 y.corr.length y6))) (fun _ _ _ _ h=>h) HBD.out (by rfl) (fun W2 hW=>by exact exec_smid S_sty _ rfl (by simp[Act.eval]) _ rfl (whole_cells ((hW.block _ (qh HY9.out)).trans HY9.out))) ?_
       simp only[Act.put,List.setIfInBounds_toArray,List.set_cons_zero,List.set_cons_succ]
       refine wpSch_take rfl (.pointer (some ⟨w.heap.size+1,0,none⟩)) (fun _ _ _ _ h=>h) HBD.out (by rfl) (fun W2 hW=>by go_simp) ?_
       simp only[Act.put,List.setIfInBounds_toArray,List.set_cons_zero,List.set_cons_succ]
       refine wpSch_take rfl (.slice (some ⟨sb,so,none⟩) s.stories.length sc) (fun _ _ _ _ h=>h) HBD.out (by rfl) (fun W2 hW=>by have q0:W2.cell? ⟨w.heap.size+1,0,none⟩=some (.slice (some ⟨sb,so,none⟩) s.stories.length sc):=rowcell ((hW.block _ (qh HW9.out.box)).trans HW9.out.box);go_simp) ?_
       simp only[Act.put,List.setIfInBounds_toArray,List.set_cons_zero,List.set_cons_succ]
       refine wpSch_take rfl (.int .i64 j) (fun _ _ _ _ h=>h) HBD.out (by rfl) (fun W2 hW=>by go_simp) ?_
       simp only[Act.put,List.setIfInBounds_toArray,List.set_cons_zero,List.set_cons_succ]
       refine wpSch_take rfl (.slice da (scs.drop j).length (sc - j)) (fun _ _ _ _ h=>h) HBD.out (by rfl) (fun W2 hW=>by exact exec_slice_lo elem_stys rfl rfl rfl (HFROM.out _)) ?_
       simp only[Act.put,List.setIfInBounds_toArray,List.set_cons_zero,List.set_cons_succ]
       refine wpSch_only rfl (fun K hK=>?_)
       rw[if_pos (by rfl)]
       refine wp_one_slice E_sty _ rfl (.agg (styCells y (.slice y1 y.topics.length y2) (.slice y3 y.eds.length y4) (.slice y5 y.corr.length y6))) rfl (by simp[Act.eval]) ?_
       have HBE:Hid (Below W9.heap.size W9 (Wd.alloc (.cells (styCells y (.slice y1 y.topics.length y2) (.slice y3 y.eds.length y4) (.slice y5 y.corr.length y6)) 34))):=Lib.hid (HBD.out.trans ((bel1 Wd _).mono HBD.out.size))
       refine hK _ _ HBE.out ?_
       clear hK K
       simp only[Act.put,List.setIfInBounds_toArray,List.set_cons_zero,List.set_cons_succ]
       refine wpSch_only rfl (fun K hK=>?_)
       rw[if_pos (by rfl)]
       have hdl:=HDL.out
       have hbds:=HBD.out.size
       refine wp_app_row E_sty _ _ rfl (by simp[Act.eval]) (grow_one (B:=W9.heap.size) (e:=34) (sz:=8) (w:=Wd) (by omega) (c:=styCells y (.slice y1 y.topics.length y2) (.slice y3 y.eds.length y4) (.slice y5 y.corr.length y6)) rfl HSY.out.one.2) da (sc - j) (scs.drop j) HDON.out (by simp[Act.eval]) (HRD.out _ HBE.out) (by rw[List.length_singleton];omega) (by rw[World.size_alloc];omega) ?_
       intro v6 w6 hr6 hg6 ho6
       have HBF:Hid (Below W9.heap.size W9 w6):=Lib.hid (HBE.out.grown hg6 (by rw[World.size_alloc];omega) (fun _ e=>by have:=own_le e;omega))
       obtain⟨a6,c6,hv6⟩:=hr6.shape
       generalize hE6:([styCells y (.slice y1 y.topics.length y2) (.slice y3 y.eds.length y4) (.slice y5 y.corr.length y6)]++scs.drop j)=es6 at hr6 hv6
       rw[hE6]at HEON
       obtain⟨n6,hn6⟩:∃ n6,n6=es6.length:=⟨_,rfl⟩
       rw[<-hn6]at hv6
       subst hv6
       have HN6:=Lib.hid hn6
       have HR6:=Lib.hid hr6
       have HE6:=Lib.hid hE6
       have HE6L:Hid (es6.length=1+(scs.drop j).length):=Lib.hid (by rw[<-hE6,List.length_append];rfl)
       clear hE6 hn6
       clear hr6 hg6 ho6 hdl
       refine hK _ _ HBF.out ?_
       clear hK K
       simp only[Act.put,List.setIfInBounds_toArray,List.set_cons_zero,List.set_cons_succ]
       refine wpSch_only rfl (fun K hK=>?_)
       rw[if_pos (by rfl)]
       go_simp
       refine hK _ _ HBF.out ?_
       clear hK K
       refine wpSch_done ?_
       have k6:w6.cell? ⟨w.heap.size+1,0,none⟩=some (.slice (some ⟨sb,so,none⟩) s.stories.length sc):=rowcell ((HBF.out.block _ (qh HW9.out.box)).trans HW9.out.box)
       have htl2:=HTJ.out
       have htl:=HTL.out
       have hdl:=HDL.out
       have hb6s:=HBF.out.size
       have hl6:w.heap.size+1<w6.heap.size:=by have:=HW9.out.low;omega
       go_upto_region 14 with (first
        |((with_reducible refine at_sslice 24 _ _ rfl ?_);go_must (refine wpList_empty_slice rfl E_sty _ rfl rfl ?_))
        |((with_reducible refine at_sappend _ _ 24 rfl ?_);(refine wpList_app_row rfl E_sty _ _ rfl (by simp[Act.eval]) (GRow.empty w6 w6.heap.size (Nat.le_refl _) (by decide)) (some ⟨sb,so,none⟩) sc (scs.take j) HTON.out ?h1 ?h2 ?h3 ?h4 ?_);go_must (case h1=>(simp[Act.eval,htl2]));go_must (case h2=>exact(HRT.out _ (HBF.out.trans ((bel1 w6 _).mono hb6s))));go_must (case h3=>(rw[List.length_nil];omega));go_must (case h4=>(rw[World.size_alloc];omega));go_must (intro v7 w7 hr7 hg7 ho7;have hb7:Below w6.heap.size w6 w7:=(bel1 w6 _).grown hg7 (by rw[World.size_alloc];omega) (fun _ e=>own_le e);have HR7:Hid (GRow w7 w6.heap.size 34 8 v7 (scs.take j)):=Lib.hid hr7;have HB7:=Lib.hid hb7;clear hr7 hg7 ho7 hb7))
        |((with_reducible refine at_sappend _ _ 24 rfl ?_);go_must (refine wpList_app_row rfl E_sty _ _ rfl ?h0 HR7.out a6 c6 es6 HEON.out ?h1 ?h2 ?h3 ?h4 ?_);go_must (case h0=>simp[Act.eval]);go_must (case h1=>simp[Act.eval,HN6.out]);go_must (case h2=>exact GRow.reads (cap:=c6) (by have h:=HR6.out.bel HB7.out;rw[HN6.out]at h;exact h));go_must (case h3=>(have:=HE6L.out;omega));go_must (case h4=>(have:=HB7.out.size;omega));go_must (intro v8 w8 hr8 hg8 ho8;obtain⟨a8,c8,hv8⟩:=hr8.shape;obtain⟨n8,hn8⟩:∃ n8,n8=(scs.take j++es6).length:=⟨_,rfl⟩;rw[<-hn8]at hv8;subst hv8;have HB8:Hid (Below W9.heap.size W9 w8):=Lib.hid (HBF.out.trans ((HB7.out.grown hg8 HB7.out.size (fun j e=>(HR7.out.ge j e).1)).mono hb6s));have HR8:=Lib.hid hr8;have k8:w8.cell? ⟨w.heap.size+1,0,none⟩=some (.slice (some ⟨sb,so,none⟩) s.stories.length sc):=rowcell ((HB8.out.block _ (qh HW9.out.box)).trans HW9.out.box);have z8:w8.frozen? ⟨w.heap.size+1,0,none⟩=false:=rowfree ((HB8.out.block _ (qh HW9.out.box)).trans HW9.out.box);clear hr8 hg8 ho8 hn8)))
       have HW10:Hid (FoW w (.slice a8 n8 c8) (.slice ta s.tpls.length tc) (styIns s y) (w8.setCell ⟨w.heap.size+1,0,none⟩ (.slice a8 n8 c8))):=Lib.hid (by
        have h1:=(HW9.out.keep HB8.out).setS (sv':=.slice a8 n8 c8) (l:=s.stories.take j++y::s.stories.drop j) (GRow.stys (cs:=scs.take j++es6) HR8.out (by
         rw[<-HE6.out]
         exact((HVS.out.take j).app ((VsM.one HSY.out).app (HVS.out.drop j))).mono (fun x c q=>q.mono (memNo_bel HB8.out))) (fun b t u e hc=>memNo_of hc (fun q=>by
          have q1:b<=w.heap.size+1:=q
          have:=(HR8.out.ge b e).1
          have:=HW9.out.low
          omega)))
        rw[<-HPUT.out]at h1
        exact h1)
       have HX10:Hid ((w8.setCell ⟨w.heap.size+1,0,none⟩ (.slice a8 n8 c8)).heap[M]?=some (.cells (fctCells x.f x.tv x.bv x.av) 50 (0,0))):=Lib.hid (by rw[Below.heap_setCell _ _ _ _ (by simp only;omega)];exact(HB8.out.block _ (qh HX9.out)).trans HX9.out)
       have HN:=Lib.hid (HPB2.out _ y _ HYI.out HYS.out HYG.out HW10.out)
       obtain⟨W10,hW10⟩:∃ W10,W10=w8.setCell ⟨w.heap.size+1,0,none⟩ (.slice a8 n8 c8):=⟨_,rfl⟩
       rw[<-hW10]at HX10 HN ⊢
       clear hW10 k6 k8 z8 HW10
       have c2:W10.cell? ⟨M,2,none⟩=some (.int .i64 3):=(rowcell HX10.out).trans (by rw[<-HK3.out];rfl)
       go_wp2_with fail
       go_roundw
       case rel=>exact⟨k+1,.slice a8 n8 c8,(.slice ta s.tpls.length tc),styIns s y,by omega,by go_num,HN⟩
       case measure=>(try simp only[intOf]);omega
      case neg=>
       have hje:j=s.stories.length:=by omega
       have hj63:¬ ((j:Int)<s.stories.length):=by omega
       clear hend hjl hjl2
       go_upto_region 10 with fail
       go_quiet (fail)
       go_upto_region 12 with fail
       clear hje hj63
       have HBQ:=fun n=>Lib.hid (below_drewN HB.out n)
       clear k0 q0
       refine wp_sch (.take 0 (.take 2 (.take 3 (.take 4 (.take 5 (.only 1 (.only 6 (.only 7 .done)))))))) 1000 (fun W2=>Below W9.heap.size W9 W2) (by kernel_rfl) (by kernel_rfl) (HBQ _).out.drew ?_
       generalize hWd:World.drew _=Wd at *
       have HBD:Hid (Below W9.heap.size W9 Wd):=Lib.hid (by rw[<-hWd];exact(HBQ _).out.drew)
       clear hWd HBQ HB
       refine wpSch_take rfl (.agg (styCells y (.slice y1 y.topics.length y2) (.slice y3 y.eds.length y4) (.slice y5 y.corr.length y6))) (fun _ _ _ _ h=>h) HBD.out (by rfl) (fun W2 hW=>by exact exec_smid S_sty _ rfl (by simp[Act.eval]) _ rfl (whole_cells ((hW.block _ (qh HY9.out)).trans HY9.out))) ?_
       simp only[Act.put,List.setIfInBounds_toArray,List.set_cons_zero,List.set_cons_succ]
       refine wpSch_take rfl (.pointer (some ⟨w.heap.size+1,0,none⟩)) (fun _ _ _ _ h=>h) HBD.out (by rfl) (fun W2 hW=>by go_simp) ?_
       simp only[Act.put,List.setIfInBounds_toArray,List.set_cons_zero,List.set_cons_succ]
       refine wpSch_take rfl (.slice sa s.stories.length sc) (fun _ _ _ _ h=>h) HBD.out (by rfl) (fun W2 hW=>by have q0:W2.cell? ⟨w.heap.size+1,0,none⟩=some (.slice sa s.stories.length sc):=rowcell ((hW.block _ (qh HW9.out.box)).trans HW9.out.box);go_simp) ?_
       simp only[Act.put,List.setIfInBounds_toArray,List.set_cons_zero,List.set_cons_succ]
       refine wpSch_take rfl (.int .i64 j) (fun _ _ _ _ h=>h) HBD.out (by rfl) (fun W2 hW=>by go_simp) ?_
       simp only[Act.put,List.setIfInBounds_toArray,List.set_cons_zero,List.set_cons_succ]
       refine wpSch_take rfl (.slice da (scs.drop j).length (sc - j)) (fun _ _ _ _ h=>h) HBD.out (by rfl) (fun W2 hW=>by exact exec_slice_lo elem_stys rfl rfl rfl (HFROM.out _)) ?_
       simp only[Act.put,List.setIfInBounds_toArray,List.set_cons_zero,List.set_cons_succ]
       refine wpSch_only rfl (fun K hK=>?_)
       rw[if_pos (by rfl)]
       refine wp_one_slice E_sty _ rfl (.agg (styCells y (.slice y1 y.topics.length y2) (.slice y3 y.eds.length y4) (.slice y5 y.corr.length y6))) rfl (by simp[Act.eval]) ?_
       have HBE:Hid (Below W9.heap.size W9 (Wd.alloc (.cells (styCells y (.slice y1 y.topics.length y2) (.slice y3 y.eds.length y4) (.slice y5 y.corr.length y6)) 34))):=Lib.hid (HBD.out.trans ((bel1 Wd _).mono HBD.out.size))
       refine hK _ _ HBE.out ?_
       clear hK K
       simp only[Act.put,List.setIfInBounds_toArray,List.set_cons_zero,List.set_cons_succ]
       refine wpSch_only rfl (fun K hK=>?_)
       rw[if_pos (by rfl)]
       have hdl:=HDL.out
       have hbds:=HBD.out.size
       refine wp_app_row E_sty _ _ rfl (by simp[Act.eval]) (grow_one (B:=W9.heap.size) (e:=34) (sz:=8) (w:=Wd) (by omega) (c:=styCells y (.slice y1 y.topics.length y2) (.slice y3 y.eds.length y4) (.slice y5 y.corr.length y6)) rfl HSY.out.one.2) da (sc - j) (scs.drop j) HDON.out (by simp[Act.eval]) (HRD.out _ HBE.out) (by rw[List.length_singleton];omega) (by rw[World.size_alloc];omega) ?_
       intro v6 w6 hr6 hg6 ho6
       have HBF:Hid (Below W9.heap.size W9 w6):=Lib.hid (HBE.out.grown hg6 (by rw[World.size_alloc];omega) (fun _ e=>by have:=own_le e;omega))
       obtain⟨a6,c6,hv6⟩:=hr6.shape
       generalize hE6:([styCells y (.slice y1 y.topics.length y2) (.slice y3 y.eds.length y4) (.slice y5 y.corr.length y6)]++scs.drop j)=es6 at hr6 hv6
       rw[hE6]at HEON
       obtain⟨n6,hn6⟩:∃ n6,n6=es6.length:=⟨_,rfl⟩
       rw[<-hn6]at hv6
       subst hv6
       have HN6:=Lib.hid hn6
       have HR6:=Lib.hid hr6
       have HE6:=Lib.hid hE6
       have HE6L:Hid (es6.length=1+(scs.drop j).length):=Lib.hid (by rw[<-hE6,List.length_append];rfl)
       clear hE6 hn6
       clear hr6 hg6 ho6 hdl
       refine hK _ _ HBF.out ?_
       clear hK K
       simp only[Act.put,List.setIfInBounds_toArray,List.set_cons_zero,List.set_cons_succ]
       refine wpSch_only rfl (fun K hK=>?_)
       rw[if_pos (by rfl)]
       go_simp
       refine hK _ _ HBF.out ?_
       clear hK K
       refine wpSch_done ?_
       have k6:w6.cell? ⟨w.heap.size+1,0,none⟩=some (.slice sa s.stories.length sc):=rowcell ((HBF.out.block _ (qh HW9.out.box)).trans HW9.out.box)
       have htl2:=HTJ.out
       have htl:=HTL.out
       have hdl:=HDL.out
       have hb6s:=HBF.out.size
       have hl6:w.heap.size+1<w6.heap.size:=by have:=HW9.out.low;omega
       go_upto_region 14 with (first
        |((with_reducible refine at_sslice 24 _ _ rfl ?_);go_must (refine wpList_empty_slice rfl E_sty _ rfl rfl ?_))
        |((with_reducible refine at_sappend _ _ 24 rfl ?_);(refine wpList_app_row rfl E_sty _ _ rfl (by simp[Act.eval]) (GRow.empty w6 w6.heap.size (Nat.le_refl _) (by decide)) sa sc (scs.take j) HTON.out ?h1 ?h2 ?h3 ?h4 ?_);go_must (case h1=>(simp[Act.eval,htl2]));go_must (case h2=>exact(HRT.out _ (HBF.out.trans ((bel1 w6 _).mono hb6s))));go_must (case h3=>(rw[List.length_nil];omega));go_must (case h4=>(rw[World.size_alloc];omega));go_must (intro v7 w7 hr7 hg7 ho7;have hb7:Below w6.heap.size w6 w7:=(bel1 w6 _).grown hg7 (by rw[World.size_alloc];omega) (fun _ e=>own_le e);have HR7:Hid (GRow w7 w6.heap.size 34 8 v7 (scs.take j)):=Lib.hid hr7;have HB7:=Lib.hid hb7;clear hr7 hg7 ho7 hb7))
        |((with_reducible refine at_sappend _ _ 24 rfl ?_);go_must (refine wpList_app_row rfl E_sty _ _ rfl ?h0 HR7.out a6 c6 es6 HEON.out ?h1 ?h2 ?h3 ?h4 ?_);go_must (case h0=>simp[Act.eval]);go_must (case h1=>simp[Act.eval,HN6.out]);go_must (case h2=>exact GRow.reads (cap:=c6) (by have h:=HR6.out.bel HB7.out;rw[HN6.out]at h;exact h));go_must (case h3=>(have:=HE6L.out;omega));go_must (case h4=>(have:=HB7.out.size;omega));go_must (intro v8 w8 hr8 hg8 ho8;obtain⟨a8,c8,hv8⟩:=hr8.shape;obtain⟨n8,hn8⟩:∃ n8,n8=(scs.take j++es6).length:=⟨_,rfl⟩;rw[<-hn8]at hv8;subst hv8;have HB8:Hid (Below W9.heap.size W9 w8):=Lib.hid (HBF.out.trans ((HB7.out.grown hg8 HB7.out.size (fun j e=>(HR7.out.ge j e).1)).mono hb6s));have HR8:=Lib.hid hr8;have k8:w8.cell? ⟨w.heap.size+1,0,none⟩=some (.slice sa s.stories.length sc):=rowcell ((HB8.out.block _ (qh HW9.out.box)).trans HW9.out.box);have z8:w8.frozen? ⟨w.heap.size+1,0,none⟩=false:=rowfree ((HB8.out.block _ (qh HW9.out.box)).trans HW9.out.box);clear hr8 hg8 ho8 hn8)))
       have HW10:Hid (FoW w (.slice a8 n8 c8) (.slice ta s.tpls.length tc) (styIns s y) (w8.setCell ⟨w.heap.size+1,0,none⟩ (.slice a8 n8 c8))):=Lib.hid (by
        have h1:=(HW9.out.keep HB8.out).setS (sv':=.slice a8 n8 c8) (l:=s.stories.take j++y::s.stories.drop j) (GRow.stys (cs:=scs.take j++es6) HR8.out (by
         rw[<-HE6.out]
         exact((HVS.out.take j).app ((VsM.one HSY.out).app (HVS.out.drop j))).mono (fun x c q=>q.mono (memNo_bel HB8.out))) (fun b t u e hc=>memNo_of hc (fun q=>by
          have q1:b<=w.heap.size+1:=q
          have:=(HR8.out.ge b e).1
          have:=HW9.out.low
          omega)))
        rw[<-HPUT.out]at h1
        exact h1)
       have HX10:Hid ((w8.setCell ⟨w.heap.size+1,0,none⟩ (.slice a8 n8 c8)).heap[M]?=some (.cells (fctCells x.f x.tv x.bv x.av) 50 (0,0))):=Lib.hid (by rw[Below.heap_setCell _ _ _ _ (by simp only;omega)];exact(HB8.out.block _ (qh HX9.out)).trans HX9.out)
       have HN:=Lib.hid (HPB2.out _ y _ HYI.out HYS.out HYG.out HW10.out)
       obtain⟨W10,hW10⟩:∃ W10,W10=w8.setCell ⟨w.heap.size+1,0,none⟩ (.slice a8 n8 c8):=⟨_,rfl⟩
       rw[<-hW10]at HX10 HN ⊢
       clear hW10 k6 k8 z8 HW10
       have c2:W10.cell? ⟨M,2,none⟩=some (.int .i64 3):=(rowcell HX10.out).trans (by rw[<-HK3.out];rfl)
       go_wp2_with fail
       go_roundw
       case rel=>exact⟨k+1,.slice a8 n8 c8,(.slice ta s.tpls.length tc),styIns s y,by omega,by go_num,HN⟩
       case measure=>(try simp only[intOf]);omega
   by_cases hk7:x.f.kind=7
   ·have HTP2:=Lib.hid (HTP.out · · hk7)
    have n3:(x.f.kind == 3)=false:=by simpa using hk3
    have HTO:Hid (TplOK ⟨x.f.name,x.f.text⟩):=Lib.hid ⟨HXO.out.fok.s19,HXO.out.fok.s18⟩
    rw[hk7]at c2 n3
    clear hk3 hk7 HPB HNX
    have c18:W7.cell? ⟨M,18,none⟩=some (.string x.f.text):=rowcell HX7.out
    have c19:W7.cell? ⟨M,19,none⟩=some (.string x.f.name):=rowcell HX7.out
    have k1:W7.cell? ⟨w.heap.size+1,1,none⟩=some (.slice ta s.tpls.length tc):=rowcell HW7.out.box
    have cW:=Lib.hid (with_any (t:=⟨x.f.name,x.f.text⟩) HW7.out.tpl (by omega) W7 (memNo_sees _ _))
    go_wp2_with ((with_reducible refine at_sbuild 52 _ rfl ?_);go_must (refine wpList_buildTo rfl 52 _ rfl _ rfl _ (by simp[Act.eval];with_reducible exact built_tplA _ _) ?_))
    refine cW.out.mono ?_
    rintro e W8 ⟨v8,rfl,hr8,hb8⟩
    obtain⟨a8,c8,hv8⟩:=hr8.shape
    obtain⟨n8,hn8⟩:∃ n8,n8=((withGo ⟨x.f.name,x.f.text⟩ false s.tpls).map tplCells).length:=⟨_,rfl⟩
    rw[<-hn8]at hv8
    subst hv8
    have HW8:=Lib.hid (HW7.out.keep hb8)
    have HT8:=Lib.hid (HW7.out.tplsM hr8 HTO.out)
    have k8:W8.cell? ⟨w.heap.size+1,1,none⟩=some (.slice ta s.tpls.length tc):=rowcell HW8.out.box
    have z8:W8.frozen? ⟨w.heap.size+1,1,none⟩=false:=rowfree HW8.out.box
    have HN:=Lib.hid (HTP2.out _ _ (HW8.out.setT HT8.out))
    clear hr8 hb8 cW c18 c19 k1 hn8
    go_wp2_with fail
    go_roundw
    case rel=>exact⟨k+1,(.slice sa s.stories.length sc),.slice a8 n8 c8,tplIns s ⟨x.f.name,x.f.text⟩,by omega,by go_num,HN⟩
    case measure=>(try simp only[intOf]);omega
   have n3:(x.f.kind == 3)=false:=by simpa using hk3
   have n7:(x.f.kind == 7)=false:=by simpa using hk7
   have HN:=Lib.hid (HNX.out W7 HB7.out hk7 (.inl hk3))
   clear hk3 hk7
   go_wp2_with fail
   go_roundw
   case rel=>exact⟨k+1,(.slice sa s.stories.length sc),(.slice ta s.tpls.length tc),s,by omega,by go_num,HN⟩
   case measure=>(try simp only[intOf]);omega
  ·obtain rfl:k=fs.length:=by omega
   have HW:=Lib.hid HL.out.wld
   have HFI:Hid (FoldIs (fs.map FctE.f) s):=Lib.hid (by
    have h:=HL.out.ref
    rw[show (fs.map FctE.f).take fs.length=fs.map FctE.f by rw[<-List.length_map (f:=FctE.f)];exact List.take_length]at h
    exact h.fin)
   have HGD:=Lib.hid HL.out.good
   have hns:=HL.out.ns
   clear HL
   go_wp2_with (first
    |((with_reducible refine at_sload 27 _ rfl ?_);go_must (refine wpList_sload rfl S_state _ rfl (by simp[Act.eval]) #[(.slice sa s.stories.length sc),(.slice ta s.tpls.length tc)] rfl HW.out.box ?_))
    |((with_reducible refine at_sstore 27 _ _ rfl ?_);go_must (refine wpList_sstore (cs:=#[(.slice sa s.stories.length sc),(.slice ta s.tpls.length tc)]) rfl S_state _ _ rfl (by simp[Act.eval,Act.put]) (by simp[Act.eval,Act.put]) HW.out.res rfl rfl (by simp[Value.oneCell']) ?_)))
   refine bodyPost_ret (results_cell_row (p:=2) (ty:=27) (by kernel_rfl) _ _ w.heap.size _ _ (0,0) _ (by simp[Act.put]) (setRow_heap _ _ _ _ _ _ HW.out.res) Tryz.underlying27 rfl (by kernel_rfl)) rfl ?_
   have hu9:=upd_row wr w.heap.size #[(.slice sa s.stories.length sc),(.slice ta s.tpls.length tc)]
   refine⟨(.slice sa s.stories.length sc),(.slice ta s.tpls.length tc),s,rfl,HFI.out,HW.out.st.mono (fun a u e=>?_),HGD.out,by rw[List.length_map];exact hns,below_setRow HW.out.bel (Nat.le_refl _) _⟩
   obtain⟨q1,q2⟩:=memNo_get (memNo_upd (F:=FoF w.heap.size) hu9 (fun k _ e=>by show k<=w.heap.size+1;have:k=w.heap.size:=e;omega) a u e)
   exact memNo_of q1 (fun q=>q2 (by show a.block<=w.heap.size+1;have:a.block<w.heap.size:=q;omega))
def BkV (M:Addr->Option Value) (x:Blk) (c:Array Value):Prop:=(x.text.size<=maxLen/\okI x.kind/\okI x.id)/\∃ ao cap,c=blkCells x (.slice ao x.lab.after.length cap)/\IntsM M (.slice ao x.lab.after.length cap) x.lab.after
def CoV (x:Corr) (c:Array Value):Prop:=CorrOK x/\c=corrCells x
section
variable {M M':Addr->Option Value} {w:World} {B:Nat} {v:Value} {cs:List (Array Value)} {c:Array Value}
theorem EVal.one {x:EdnF} (h:EVal M x c):c.size=5/\OneC c:=by
 obtain⟨_,bv,rfl,hb⟩:=h
 obtain⟨ba,bc,rfl⟩:=hb.slice
 exact⟨rfl,fun u hu=>by simp at hu;rcases hu with rfl | rfl | rfl | rfl | rfl <;> rfl⟩
theorem BkV.one {x:Blk} (h:BkV M x c):c.size=9/\OneC c:=by
 obtain⟨_,ao,cap,rfl,_⟩:=h
 exact⟨rfl,fun u hu=>by simp at hu;rcases hu with rfl | rfl | rfl | rfl | rfl | rfl | rfl | rfl | rfl <;> rfl⟩
theorem CoV.one {x:Corr} (h:CoV x c):c.size=5/\OneC c:=by
 obtain⟨_,rfl⟩:=h
 exact⟨rfl,fun u hu=>by simp at hu;rcases hu with rfl | rfl | rfl | rfl | rfl <;> rfl⟩
theorem BkV.mono {x:Blk} (h:BkV M x c) (hm:∀ a u,M a=some u->M' a=some u):BkV M' x c:=by
 obtain⟨h0,ao,cap,h1,h2⟩:=h
 exact⟨h0,ao,cap,h1,h2.mono hm⟩
theorem EdnsM.cells {l:List EdnF} (h:EdnsM M v l):∃ ao cap b o cs,v=.slice ao l.length cap/\l.length<=cap/\cap<=maxLen/\(0<l.length->ao=some ⟨b,o,none⟩)/\VsM (EVal M) l cs/\∀ j (h:j<cs.length),CellsAt M b (o+j * 5) cs[j]:=
 SlM.cells h fun _ _ _ q=>by
  obtain⟨g0,bv,g1,g2⟩:=q
  exact⟨_,⟨g0,bv,rfl,g2⟩,g1⟩
theorem CorrsM.cells {l:List Corr} (h:CorrsM M v l):∃ ao cap b o cs,v=.slice ao l.length cap/\l.length<=cap/\cap<=maxLen/\(0<l.length->ao=some ⟨b,o,none⟩)/\VsM CoV l cs/\∀ j (h:j<cs.length),CellsAt M b (o+j * 5) cs[j]:=
 SlM.cells h fun _ _ _ q=>⟨_,⟨q.1,rfl⟩,q.2⟩
theorem blkAt_cells {x:Blk} {b o:Nat} {ao:Option Addr} {cap:Nat} (hp:x.text.size<=maxLen/\okI x.kind/\okI x.id) (hi:IntsM M (.slice ao x.lab.after.length cap) x.lab.after) (h:CellsAt M b o (blkCells x (.slice ao x.lab.after.length cap))):BlkAt M x b o:=
 ⟨⟨h 0 (by show 0<9;omega),h 1 (by show 1<9;omega),h 2 (by show 2<9;omega),h 3 (by show 3<9;omega),h 4 (by show 4<9;omega)⟩,⟨h 5 (by show 5<9;omega),h 7 (by show 7<9;omega),h 8 (by show 8<9;omega)⟩,hp,_,h 6 (by show 6<9;omega),hi⟩
theorem BlksM.cells_ {l:List Blk} (h:BlksM M v l):∃ ao cap b o cs,v=.slice ao l.length cap/\l.length<=cap/\cap<=maxLen/\(0<l.length->ao=some ⟨b,o,none⟩)/\VsM (BkV M) l cs/\∀ j (h:j<cs.length),CellsAt M b (o+j * 9) cs[j]:=
 SlM.cells (At:=BlkAt M) h fun x b o q=>by
  obtain⟨⟨h0,h1,h2,h3,h4⟩,⟨h5,h7,h8⟩,hp,av,h6,hi⟩:=q
  obtain⟨ao,cap,rfl⟩:=hi.slice
  refine⟨_,⟨hp,ao,cap,rfl,hi⟩,fun t ht=>?_⟩
  have ht9:t<9:=ht
  match t,ht9 with
  |0,_=>exact h0
  |1,_=>exact h1
  |2,_=>exact h2
  |3,_=>exact h3
  |4,_=>exact h4
  |5,_=>exact h5
  |6,_=>exact h6
  |7,_=>exact h7
  |8,_=>exact h8
theorem GRow.edns {l:List EdnF} (h:GRow w B 39 5 v cs) (hv:VsM (EVal M) l cs) (hM:∀ b j u,v.ownBlock=some b->w.cell? ⟨b,j,none⟩=some u->M ⟨b,j,none⟩=some u):EdnsM M v l:=
 GRow.slm h hv (fun x c b o q hc=>by
  obtain⟨g0,bv,rfl,g2⟩:=q
  exact⟨g0,bv,hc,g2⟩) hM
theorem GRow.cors {l:List Corr} (h:GRow w B 69 5 v cs) (hv:VsM CoV l cs) (hM:∀ b j u,v.ownBlock=some b->w.cell? ⟨b,j,none⟩=some u->M ⟨b,j,none⟩=some u):CorrsM M v l:=
 GRow.slm h hv (fun x c b o q hc=>by
  obtain⟨g0,rfl⟩:=q
  exact⟨g0,hc⟩) hM
theorem GRow.blks {l:List Blk} (h:GRow w B 58 9 v cs) (hv:VsM (BkV M) l cs) (hM:∀ b j u,v.ownBlock=some b->w.cell? ⟨b,j,none⟩=some u->M ⟨b,j,none⟩=some u):BlksM M v l:=
 GRow.slm (At:=BlkAt M) h hv (fun x c b o q hc=>by
  obtain⟨g0,ao,cap,rfl,g2⟩:=q
  exact blkAt_cells g0 g2 hc) hM
end
structure Shorted (l:List Fct) (w:World) (r:Value) (fs:List FctE) (w':World):Prop where
 row:FRow w' w.heap.size r fs
 map:fs.map FctE.f=shortL7 l
 ok:∀ x∈fs,x.ok (memNo w' (fun k=>r.ownBlock=some k))
 bel:Below w.heap.size w w'
theorem Shorted.es {l:List Fct} {w w':World} {r:Value} {fs:List FctE} (h:Shorted l w r fs w'):EsM (fun a=>w'.cell? a) r fs:=
 h.row.es fun x hx=>(h.ok x hx).mono (memNo_sees w' _)
theorem Shorted.len {l:List Fct} {w w':World} {r:Value} {fs:List FctE} (h:Shorted l w r fs w'):fs.length<=40:=by
 have:=congrArg List.length h.map
 rw[List.length_map]at this
 rw[this];exact shortL7_len l
theorem Shorted.good {l:List Fct} {w w':World} {r:Value} {fs:List FctE} (h:Shorted l w r fs w'):∀ x∈fs,FGood x.f:=fun x hx=>by
 refine shortL7_good l _ ?_
 rw[<-h.map]
 exact List.mem_map_of_mem hx
theorem short_law {mem:Addr->Option Value} {v:Value} {es:List FctE} (h:EsM mem v es) (w:World) (hs:Sees mem w):
 Calls Tryz.prog 18 #[v] w (fun e w'=>∃ ra rc fs,e=.returned (.slice ra fs.length rc)/\Shorted (es.map FctE.f) w (.slice ra fs.length rc) fs w'):=
 (short_any h w hs).mono fun e w' hp=>by
   obtain⟨r,fs,rfl,h1,h2,h3,h4⟩:=hp
   obtain⟨ra,rc,rfl⟩:=h1.shape
   exact⟨ra,rc,fs,rfl,h1,h2,h3,h4⟩
end Go.Proofs.YtdkkhmjlamkgdaaGreatDoor
namespace Go.Proofs.YtdkkhmjlamkgdaaGreatDoor
open Go.RowKit Mg Go.Shelf
def pickF (c n:Int):Int:=(if c<0 then -(c+1) else c) % n
theorem pickF_lt {c n:Int} (h:0<n):0<=pickF c n/\pickF c n<n:=⟨Int.emod_nonneg _ (by omega),Int.emod_lt_of_pos _ h⟩
theorem pick_any (c n:Int) (hc:okI c) (hn:0<n) (hn2:n<=1000000) (w:World):
 Calls Tryz.prog 27 #[.int .i64 c,.int .i64 n] w fun e w'=>e=.returned (.int .i64 (pickF c n))/\w=w':=by
 obtain⟨hc1,hc2⟩:=hc
 by_cases h:c<0
 ·have HR:Hid (pickF c n=-(c+1) % n):=Lib.hid (by unfold pickF;rw[if_pos h])
  have h0:0<=-(c+1):=by omega
  go_enter Tryz.func27,Tryz.ntmps27
  go_wp2_with fail
  go_ret
  exact⟨ret_int (by rw[HR.out,<-Int.neg_tmod];exact Int.tmod_eq_emod_of_nonneg h0),rfl⟩
 ·have HR:Hid (pickF c n=c % n):=Lib.hid (by unfold pickF;rw[if_neg h])
  have h0:0<=c:=by omega
  go_enter Tryz.func27,Tryz.ntmps27
  go_wp2_with fail
  go_ret
  exact⟨ret_int (by rw[HR.out]),rfl⟩
end Go.Proofs.YtdkkhmjlamkgdaaGreatDoor

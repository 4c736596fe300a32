/-
  WHAT IS PROVED HERE: 9 texts joined, each with its own head: what the walks of the program give. Conditions: each at its place.
-/
import Derived.Test.YtdkkhmjlamkgdaaGreatDoorBq5
import Derived.Deep.DeepCutAuto
import Derived.Deep.CutBlock
import Derived.Test.YtdkkhmjlamkgdaaGreatDoorProg
import Derived.ProofKit
import Derived.OpenShut
import Derived.ChangeSame
import Derived.Deep.Fields
import Derived.SizedLaws
import Derived.Test.YtdkkhmjlamkgdaaGreatDoorCards
import Derived.Test.YtdkkhmjlamkgdaaGreatDoorTie
import Derived.ChangeMaps5
import Derived.Carry
import Derived.Deep.DeepHandedRow
namespace Go.Proofs.YtdkkhmjlamkgdaaGreatDoor
open Go.RowKit Mg Go.Shelf Go.Maps
theorem tplCells_neq (x y:TplF) (W:World):(binOp .neq 52 (.agg (tplCells x)) (.agg (tplCells y))).run Tryz.prog W=.ok (.bool (!decide (x=y))) W:=by
 obtain⟨a0,a1⟩:=x
 obtain⟨b0,b1⟩:=y
 rw[run_neq_struct,run_equalIn_agg _ _ _ _ _ (by kernel_rfl) (by kernel_rfl)]
 simp only[Program.fieldsOf,Tryz.underlying52]
 go_simp
 simp only[toList_iff]
 by_cases h0:a0=b0 <;> by_cases h1:a1=b1 <;> simp[h0,h1]
set_option maxRecDepth 10000 in
set_option maxHeartbeats 1000000 in
theorem eqTpls_any {mem:Addr->Option Value} {v u:Value} {l m:List TplF} (h1:TplsM mem v l) (h2:TplsM mem u m) (w:World) (hs:Sees mem w):
 Calls Tryz.prog 60 #[v,u] w fun e w'=>e=.returned (.bool (decide (l=m)))/\Below w.heap.size w w':=by
 obtain⟨ao,cap,b,o,rfl,hcap,hm,hao,hcells⟩:=SlM.open_ h1
 obtain⟨ao2,cap2,b2,o2,rfl,hcap2,hm2,hao2,hcells2⟩:=SlM.open_ h2
 have HS:=Lib.hid hs
 have HA:=Lib.hid hao
 have HA2:=Lib.hid hao2
 have HC:=Lib.hid hcells
 have HC2:=Lib.hid hcells2
 have hlen:(l.length:Int)<=9223372036854775807:=by unfold maxLen at hm;omega
 have hlen2:(m.length:Int)<=9223372036854775807:=by unfold maxLen at hm2;omega
 clear hao hao2 hcells hcells2 hs h1 h2 hcap hcap2 hm hm2
 by_cases hl:l.length=m.length
 ·have HL:=Lib.hid hl
  rw[<-hl]
  clear hl
  go_enter Tryz.func60,Tryz.ntmps60
  go_wp2_with fail
  go_loopw [13] (fun i wr=>∃ k:Nat,k<=l.length/\i=.int .i64 k/\Below w.heap.size w wr/\Hid (l.take k=m.take k)) (fun i _=>l.length - (intOf i).toNat)
  case atStart=>exact⟨0,Nat.zero_le _,rfl,Below.refl _ _,Lib.hid rfl⟩
  case round=>
   obtain⟨k,hk,rfl,hb,ht⟩:=hrel
   by_cases hlt:k<l.length
   ·have hlt2:k<m.length:=by rw[<-HL.out];exact hlt
    have g1:=cells_see (sz:=2) (HS.out.bel hb) (HC.out k hlt).2 rfl
    have g2:=cells_see (sz:=2) (HS.out.bel hb) (HC2.out k hlt2).2 rfl
    obtain rfl:=HA.out (by omega)
    obtain rfl:=HA2.out (by omega)
    have HE:Hid (l[k]=m[k]->l.take (k+1)=m.take (k+1)):=Lib.hid (take_step hlt hlt2 ht.out)
    have HN:Hid (l[k]≠m[k]->l≠m):=Lib.hid (ne_of_get hlt hlt2)
    generalize l[k]=x at *
    generalize m[k]=y at *
    have G1:=Lib.hid g1
    have G2:=Lib.hid g2
    clear g1 g2
    have hqr:∀ W:World,(binOp .neq 52 (.agg (tplCells x)) (.agg (tplCells y))).run Tryz.prog W=.ok (.bool (!decide (x=y))) W:=fun W=>tplCells_neq x y W
    have hk0:(0:Int)<=k:=by omega
    have hk1:(k:Int)<l.length:=by omega
    clear ht hlt2
    by_cases hxy:x=y
    ·have HE2:=Lib.hid (HE.out hxy)
     have hxd:decide (x=y)=true:=decide_eq_true hxy
     rw[hxd]at hqr
     clear hxy
     clear HE
     go_wp2_with fail
     refine wp_tail 8 (by kernel_rfl) (by kernel_rfl) ?_
     simp only[List.take_succ_cons,List.take_zero,List.drop_succ_cons,List.drop_zero]
     still_step
     still_step
     still_step
     refine wpStill_value rfl _ (exec_smid S_tpl _ rfl (by simp[Act.eval]) (tplCells x) rfl G1.out) ?_
     simp only[Act.put,List.setIfInBounds_toArray,List.set_cons_zero,List.set_cons_succ]
     still_step
     still_step
     still_step
     refine wpStill_value rfl _ (exec_smid S_tpl _ rfl (by simp[Act.eval]) (tplCells y) rfl G2.out) ?_
     simp only[Act.put,List.setIfInBounds_toArray,List.set_cons_zero,List.set_cons_succ]
     refine wpStill_nil ?_
     go_wp2_with fail
     go_roundw
     case rel=>exact⟨k+1,by omega,by go_num,hb.drew,HE2⟩
     case measure=>simp[intOf];omega
    ·have hxd:decide (x=y)=false:=decide_eq_false hxy
     rw[hxd]at hqr
     have HNE:=Lib.hid hxy
     clear hxy
     go_wp2_with fail
     refine wp_tail 8 (by kernel_rfl) (by kernel_rfl) ?_
     simp only[List.take_succ_cons,List.take_zero,List.drop_succ_cons,List.drop_zero]
     still_step
     still_step
     still_step
     refine wpStill_value rfl _ (exec_smid S_tpl _ rfl (by simp[Act.eval]) (tplCells x) rfl G1.out) ?_
     simp only[Act.put,List.setIfInBounds_toArray,List.set_cons_zero,List.set_cons_succ]
     still_step
     still_step
     still_step
     refine wpStill_value rfl _ (exec_smid S_tpl _ rfl (by simp[Act.eval]) (tplCells y) rfl G2.out) ?_
     simp only[Act.put,List.setIfInBounds_toArray,List.set_cons_zero,List.set_cons_succ]
     refine wpStill_nil ?_
     go_wp2_with fail
     go_ret
     exact⟨ret_bool (by symm;exact decide_eq_false (HN.out HNE.out)),hb.drew⟩
   ·have e:k=l.length:=by omega
    subst e
    have HF:Hid (l=m):=Lib.hid (eq_full HL.out ht.out)
    go_wp2_with fail
    go_ret
    exact⟨ret_bool (by symm;exact decide_eq_true HF.out),hb⟩
 ·have hne:decide (l.length=m.length)=false:=decide_eq_false hl
  have HNE:Hid (l≠m):=Lib.hid (fun e=>hl (by rw[e]))
  go_enter Tryz.func60,Tryz.ntmps60
  go_wp2_with fail
  all_goals first
   |(go_ret
     exact⟨ret_bool (by symm;exact decide_eq_false HNE.out),Below.refl _ _⟩)
   |(exfalso;simp_all;done)
set_option maxRecDepth 10000 in
set_option maxHeartbeats 4000000 in
theorem same_law {mem:Addr->Option Value} {v u:Value} {x y:StF} (h1:StateM mem v x) (h2:StateM mem u y) (w:World) (hs:Sees mem w):
 Calls Tryz.prog 31 #[v,u] w fun e w'=>e=.returned (.bool (decide (x=y)))/\Below w.heap.size w w':=by
 obtain⟨sv,tv,rfl,hs1,ht1⟩:=h1
 obtain⟨sv2,tv2,rfl,hs2,ht2⟩:=h2
 obtain⟨sts,tps⟩:=x
 obtain⟨sts2,tps2⟩:=y
 dsimp only at hs1 ht1 hs2 ht2
 have HL:=Lib.hid (fun W hW=>eqStys_any hs1 hs2 W hW)
 have HT:=Lib.hid (fun W hW=>eqTpls_any ht1 ht2 W hW)
 obtain⟨a,c,rfl⟩:=SlM.slice hs1
 obtain⟨a2,c2,rfl⟩:=SlM.slice hs2
 obtain⟨b,d,rfl⟩:=SlM.slice ht1
 obtain⟨b2,d2,rfl⟩:=SlM.slice ht2
 have HR:Hid (decide ((⟨sts,tps⟩:StF)=⟨sts2,tps2⟩)=(decide (sts=sts2) && decide (tps=tps2))):=Lib.hid (by simp only[StF.mk.injEq,Bool.decide_and])
 have HS:=Lib.hid hs
 clear hs1 hs2 ht1 ht2 hs
 generalize hn1:sts.length=n1 at *
 generalize hn2:sts2.length=n2 at *
 generalize hn3:tps.length=n3 at *
 generalize hn4:tps2.length=n4 at *
 clear hn1 hn2 hn3 hn4
 obtain⟨W2,hW2⟩:∃ W2,W2=(w.alloc (.cells #[.slice a n1 c,.slice b n3 d] 27)).alloc (.cells #[.slice a2 n2 c2,.slice b2 n4 d2] 27):=⟨_,rfl⟩
 have hB2:Below w.heap.size w W2:=by rw[hW2];exact(bel1 w _).alloc (by simp) _
 have HN1:Hid (W2.heap[w.heap.size]?=some (.cells #[.slice a n1 c,.slice b n3 d] 27 (0,0))):=Lib.hid (by rw[hW2];exact heap_new1 w _ _)
 have HN2:Hid (W2.heap[w.heap.size+1]?=some (.cells #[.slice a2 n2 c2,.slice b2 n4 d2] 27 (0,0))):=Lib.hid (by
  rw[hW2]
  have:=World.alloc_heap_new (w.alloc (.cells #[.slice a n1 c,.slice b n3 d] 27)) (.cells #[.slice a2 n2 c2,.slice b2 n4 d2] 27)
  simpa using this)
 have HB2:=Lib.hid hB2
 have HW2:=Lib.hid hW2
 have HS2:=Lib.hid (HS.out.bel hB2)
 clear hB2 hW2
 go_enter Tryz.func31,Tryz.ntmps31
 go_upto_region 1 with fail
 rw[<-HW2.out]
 have HB:=HB2
 have HSW:=HS2
 have HH1:=HN1
 have HH2:=HN2
 clear HB2 HS2 HN1 HN2 HW2
 have p0:W2.cell? ⟨w.heap.size,0,none⟩=some (.slice a n1 c):=rowcell HH1.out
 have q0:W2.cell? ⟨w.heap.size+1,0,none⟩=some (.slice a2 n2 c2):=rowcell HH2.out
 have p1:W2.cell? ⟨w.heap.size,1,none⟩=some (.slice b n3 d):=rowcell HH1.out
 have q1:W2.cell? ⟨w.heap.size+1,1,none⟩=some (.slice b2 n4 d2):=rowcell HH2.out
 go_wp2_with fail
 refine(HL.out _ HSW.out).mono ?_
 rintro e w10 ⟨rfl,hb⟩
 have HB:=Lib.hid (HB.out.trans (hb.mono HB.out.size))
 have HSW:=Lib.hid (HSW.out.bel hb)
 have HH1:=Lib.hid ((hb.block _ (hlt HH1.out)).trans HH1.out)
 have HH2:=Lib.hid ((hb.block _ (hlt HH2.out)).trans HH2.out)
 clear hb p0 q0 p1 q1
 have p0:w10.cell? ⟨w.heap.size,0,none⟩=some (.slice a n1 c):=rowcell HH1.out
 have q0:w10.cell? ⟨w.heap.size+1,0,none⟩=some (.slice a2 n2 c2):=rowcell HH2.out
 have p1:w10.cell? ⟨w.heap.size,1,none⟩=some (.slice b n3 d):=rowcell HH1.out
 have q1:w10.cell? ⟨w.heap.size+1,1,none⟩=some (.slice b2 n4 d2):=rowcell HH2.out
 have EN:Hid (decide (sts=sts2)=false->decide (sts=sts2)=false):=Lib.hid (fun h=>h)
 have EY:Hid (decide (sts=sts2)=true->sts=sts2):=Lib.hid of_decide_eq_true
 generalize hq:decide (sts=sts2)=q at *
 cases q with
 |false=>
  clear hq EY EN
  have EN:=Lib.hid (Eq.refl false)
  go_wp2_with fail
  go_ret
  exact⟨ret_false (by first|(rw[HR.out];simp;done) | (simp[EN.out];done)),HB.out⟩
 |true=>
  clear hq EY EN
  go_wp2_with fail
  refine(HT.out _ HSW.out).mono ?_
  rintro e w11 ⟨rfl,hb⟩
  have HB:=Lib.hid (HB.out.trans (hb.mono HB.out.size))
  have HSW:=Lib.hid (HSW.out.bel hb)
  have HH1:=Lib.hid ((hb.block _ (hlt HH1.out)).trans HH1.out)
  have HH2:=Lib.hid ((hb.block _ (hlt HH2.out)).trans HH2.out)
  clear hb p0 q0 p1 q1
  have p0:w11.cell? ⟨w.heap.size,0,none⟩=some (.slice a n1 c):=rowcell HH1.out
  have q0:w11.cell? ⟨w.heap.size+1,0,none⟩=some (.slice a2 n2 c2):=rowcell HH2.out
  have p1:w11.cell? ⟨w.heap.size,1,none⟩=some (.slice b n3 d):=rowcell HH1.out
  have q1:w11.cell? ⟨w.heap.size+1,1,none⟩=some (.slice b2 n4 d2):=rowcell HH2.out
  have EN:Hid (decide (tps=tps2)=false->decide (tps=tps2)=false):=Lib.hid (fun h=>h)
  have EY:Hid (decide (tps=tps2)=true->tps=tps2):=Lib.hid of_decide_eq_true
  generalize hq:decide (tps=tps2)=q at *
  cases q with
  |false=>
   clear hq EY EN
   have EN:=Lib.hid (Eq.refl false)
   go_wp2_with fail
   go_ret
   exact⟨ret_false (by first|(rw[HR.out];simp;done) | (simp[EN.out];done)),HB.out⟩
  |true=>
   clear hq EY EN
   go_wp2_with fail
   go_ret
   exact⟨ret_true (by first|(rw[HR.out];simp;done) | (simp;done)),HB.out⟩
set_option maxRecDepth 100000 in
set_option maxHeartbeats 8000000 in
theorem sameStoryR_any {mem:Addr->Option Value} {v u:Value} {x y:StyF} (h1:StyV mem v x) (h2:StyV mem u y) (w:World) (hs:Sees mem w):
 Calls Tryz.prog 25 #[v,u] w fun e w'=>e=.returned (.bool (decide (x=y)))/\Below w.heap.size w w':=by
 obtain⟨_,tv,ev,cv,rfl,ht1,he1,hc1⟩:=h1
 obtain⟨_,tv2,ev2,cv2,rfl,ht2,he2,hc2⟩:=h2
 obtain⟨id,author,topics,eds,pub,corr,retr,taken⟩:=x
 obtain⟨id2,author2,topics2,eds2,pub2,corr2,retr2,taken2⟩:=y
 have HT:=Lib.hid (fun W hW=>sameStrs_any ht1 ht2 W hW)
 have HE:=Lib.hid (fun W hW=>sameEdns_any he1 he2 W hW)
 obtain⟨ta,tc,rfl⟩:=ht1.slice
 obtain⟨ta2,tc2,rfl⟩:=ht2.slice
 obtain⟨ea,ec,rfl⟩:=SlM.slice he1
 obtain⟨ea2,ec2,rfl⟩:=SlM.slice he2
 obtain⟨ca,cc,cb,co,rfl,hcap,hm,hca,hcat⟩:=SlM.open_ hc1
 obtain⟨ca2,cc2,cb2,co2,rfl,hcap2,hm2,hca2,hcat2⟩:=SlM.open_ hc2
 have HA:=Lib.hid hca
 have HA2:=Lib.hid hca2
 have HCC:=Lib.hid hcat
 have HCC2:=Lib.hid hcat2
 have HS:=Lib.hid hs
 dsimp only at HT HE HA HA2 HCC HCC2 ⊢
 have hl1:(corr.length:Int)<=9223372036854775807:=by dsimp only at hm hcap;unfold maxLen at hm;omega
 have hl2:(corr2.length:Int)<=9223372036854775807:=by dsimp only at hm2 hcap2;unfold maxLen at hm2;omega
 have HNE:Hid (topics≠topics2\/eds≠eds2\/corr≠corr2\/id≠id2\/author≠author2\/pub≠pub2\/retr≠retr2\/taken≠taken2->decide ((⟨id,author,topics,eds,pub,corr,retr,taken⟩:StyF)=⟨id2,author2,topics2,eds2,pub2,corr2,retr2,taken2⟩)=false):=Lib.hid (fun h=>decide_eq_false (fun q=>by
  injection q with q1 q2 q3 q4 q5 q6 q7 q8
  rcases h with h | h | h | h | h | h | h | h
  ·exact h q3
  ·exact h q4
  ·exact h q6
  ·exact h q1
  ·exact h q2
  ·exact h q5
  ·exact h q7
  ·exact h q8))
 have HEQ:Hid (id=id2->author=author2->topics=topics2->eds=eds2->pub=pub2->corr=corr2->retr=retr2->taken=taken2->decide ((⟨id,author,topics,eds,pub,corr,retr,taken⟩:StyF)=⟨id2,author2,topics2,eds2,pub2,corr2,retr2,taken2⟩)=true):=Lib.hid (fun q1 q2 q3 q4 q5 q6 q7 q8=>decide_eq_true (by subst q1 q2 q3 q4 q5 q6 q7 q8;rfl))
 clear ht1 ht2 he1 he2 hc1 hc2 hs hca hca2 hcat hcat2 hcap hcap2 hm hm2
 generalize decide ((⟨id,author,topics,eds,pub,corr,retr,taken⟩:StyF)=⟨id2,author2,topics2,eds2,pub2,corr2,retr2,taken2⟩)=D at *
 obtain⟨W2,hW2⟩:∃ W2,W2=(w.alloc (.cells #[.int .i64 id,.string author,.slice ta topics.length tc,.slice ea eds.length ec,.int .i64 pub,.slice ca corr.length cc,.bool retr,.bool taken] 34)).alloc (.cells #[.int .i64 id2,.string author2,.slice ta2 topics2.length tc2,.slice ea2 eds2.length ec2,.int .i64 pub2,.slice ca2 corr2.length cc2,.bool retr2,.bool taken2] 34):=⟨_,rfl⟩
 have hB2:Below w.heap.size w W2:=by rw[hW2];exact(bel1 w _).alloc (by simp) _
 have HN1:Hid (W2.heap[w.heap.size]?=some (.cells #[.int .i64 id,.string author,.slice ta topics.length tc,.slice ea eds.length ec,.int .i64 pub,.slice ca corr.length cc,.bool retr,.bool taken] 34 (0,0))):=Lib.hid (by rw[hW2];exact heap_new1 w _ _)
 have HN2:Hid (W2.heap[w.heap.size+1]?=some (.cells #[.int .i64 id2,.string author2,.slice ta2 topics2.length tc2,.slice ea2 eds2.length ec2,.int .i64 pub2,.slice ca2 corr2.length cc2,.bool retr2,.bool taken2] 34 (0,0))):=Lib.hid (by
  rw[hW2]
  have:=World.alloc_heap_new (w.alloc (.cells #[.int .i64 id,.string author,.slice ta topics.length tc,.slice ea eds.length ec,.int .i64 pub,.slice ca corr.length cc,.bool retr,.bool taken] 34)) (.cells #[.int .i64 id2,.string author2,.slice ta2 topics2.length tc2,.slice ea2 eds2.length ec2,.int .i64 pub2,.slice ca2 corr2.length cc2,.bool retr2,.bool taken2] 34)
  simpa using this)
 have HB2:=Lib.hid hB2
 have HW2:=Lib.hid hW2
 have HS2:=Lib.hid (HS.out.bel hB2)
 clear hB2 hW2
 have HTQ:Hid (∀ q,decide (topics=topics2)=q->(q=true->topics=topics2)/\(q=false->topics≠topics2)):=Lib.hid (fun q e=>⟨fun h=>of_decide_eq_true (e.trans h),fun h=>of_decide_eq_false (e.trans h)⟩)
 have HEQ2:Hid (∀ q,decide (eds=eds2)=q->(q=true->eds=eds2)/\(q=false->eds≠eds2)):=Lib.hid (fun q e=>⟨fun h=>of_decide_eq_true (e.trans h),fun h=>of_decide_eq_false (e.trans h)⟩)
 generalize hq1:decide (topics=topics2)=b1 at *
 generalize hq2:decide (eds=eds2)=b2 at *
 have HQ1:=Lib.hid (HTQ.out b1 rfl)
 have HQ2:=Lib.hid (HEQ2.out b2 rfl)
 clear hq1 hq2 HTQ HEQ2
 go_enter Tryz.func25,Tryz.ntmps25
 go_upto_region 1 with fail
 rw[<-HW2.out]
 have p2:W2.cell? ⟨w.heap.size,2,none⟩=some (.slice ta topics.length tc):=rowcell HN1.out
 have q2:W2.cell? ⟨w.heap.size+1,2,none⟩=some (.slice ta2 topics2.length tc2):=rowcell HN2.out
 go_wp2_with fail
 refine(HT.out _ HS2.out).mono ?_
 rintro e w3 ⟨rfl,hb3⟩
 have HB3:=Lib.hid (HB2.out.trans (hb3.mono HB2.out.size))
 have HS3:=Lib.hid (HS2.out.bel hb3)
 have HH1:=Lib.hid ((hb3.block _ (hlt HN1.out)).trans HN1.out)
 have HH2:=Lib.hid ((hb3.block _ (hlt HN2.out)).trans HN2.out)
 clear hb3 p2 q2 HN1 HN2 HB2 HS2 HW2
 have p3:w3.cell? ⟨w.heap.size,3,none⟩=some (.slice ea eds.length ec):=rowcell HH1.out
 have q3:w3.cell? ⟨w.heap.size+1,3,none⟩=some (.slice ea2 eds2.length ec2):=rowcell HH2.out
 go_wp2_with fail
 refine(HE.out _ HS3.out).mono ?_
 rintro e w4 ⟨rfl,hb4⟩
 have HB:=Lib.hid (HB3.out.trans (hb4.mono HB3.out.size))
 have HS4:=Lib.hid (HS3.out.bel hb4)
 have HH3:=Lib.hid ((hb4.block _ (hlt HH1.out)).trans HH1.out)
 have HH4:=Lib.hid ((hb4.block _ (hlt HH2.out)).trans HH2.out)
 clear hb4 p3 q3 HH1 HH2 HB3 HS3 HT HE
 cases b1 with
 |false=>
  have HF:=Lib.hid (HNE.out (.inl (HQ1.out.2 rfl)))
  have HBF:=HB
  go_wp2_with fail
  go_ret
  exact⟨ret_false HF.out,HBF.out⟩
 |true=>
  have HT1:=Lib.hid (HQ1.out.1 rfl)
  cases b2 with
  |false=>
   have HF:=Lib.hid (HNE.out (.inr (.inl (HQ2.out.2 rfl))))
   have HBF:=HB
   go_wp2_with fail
   go_ret
   exact⟨ret_false HF.out,HBF.out⟩
  |true=>
   have HE1:=Lib.hid (HQ2.out.1 rfl)
   clear HQ1 HQ2
   have p5:w4.cell? ⟨w.heap.size,5,none⟩=some (.slice ca corr.length cc):=rowcell HH3.out
   have q5:w4.cell? ⟨w.heap.size+1,5,none⟩=some (.slice ca2 corr2.length cc2):=rowcell HH4.out
   by_cases hl:corr.length=corr2.length
   case' neg=>
    have hne:decide (corr.length=corr2.length)=false:=decide_eq_false hl
    have hne2:((corr.length:Int) == (corr2.length:Int))=false:=by simp;omega
    have hne3:((corr.length:Int) != (corr2.length:Int))=true:=by simp;omega
    have HF:=Lib.hid (HNE.out (.inr (.inr (.inl (fun e=>hl (by rw[e]))))))
    have HBF:=HB
    go_wp2_with fail
    all_goals first
     |(go_ret
       exact⟨ret_false HF.out,HBF.out⟩)
   have HL:=Lib.hid hl
   rw[<-hl]at q5
   clear hl
   go_wp2_with fail
   clear p5 q5
   go_loopw [7] (fun i wr=>∃ k:Nat,k<=corr.length/\i=.int .i64 k/\Hid (Below w4.heap.size w4 wr)/\Hid (corr.take k=corr2.take k)) (fun i _=>corr.length - (intOf i).toNat)
   case atStart=>exact⟨0,Nat.zero_le _,rfl,Lib.hid (Below.refl _ _),Lib.hid rfl⟩
   case round=>
    obtain⟨k,hk,rfl,HBW,ht⟩:=hrel
    have HG1:=Lib.hid ((HBW.out.block _ (qh HH3.out)).trans HH3.out)
    have HG2:=Lib.hid ((HBW.out.block _ (qh HH4.out)).trans HH4.out)
    have HBF:Hid (Below w.heap.size w wr):=Lib.hid (HB.out.trans (HBW.out.mono HB.out.size))
    have p5:wr.cell? ⟨w.heap.size,5,none⟩=some (.slice ca corr.length cc):=rowcell HG1.out
    by_cases hlt:k<corr.length
    ·have hlt2:k<corr2.length:=by rw[<-HL.out];exact hlt
     have q5:wr.cell? ⟨w.heap.size+1,5,none⟩=some (.slice ca2 corr.length cc2):=by rw[HL.out];exact rowcell HG2.out
     have G1:=Lib.hid (cells_see (sz:=5) (HS4.out.bel HBW.out) (HCC.out k hlt).2 rfl)
     have G2:=Lib.hid (cells_see (sz:=5) (HS4.out.bel HBW.out) (HCC2.out k hlt2).2 rfl)
     obtain rfl:=HA.out (by omega)
     obtain rfl:=HA2.out (by omega)
     have HE3:Hid (corr[k]=corr2[k]->corr.take (k+1)=corr2.take (k+1)):=Lib.hid (take_step hlt hlt2 ht.out)
     have HN:Hid (corr[k]≠corr2[k]->corr≠corr2):=Lib.hid (ne_of_get hlt hlt2)
     generalize corr[k]=x at *
     generalize corr2[k]=y at *
     have hqr:∀ W:World,(binOp .neq 69 (.agg (corrCells x)) (.agg (corrCells y))).run Tryz.prog W=.ok (.bool (!decide (x=y))) W:=fun W=>corrCells_neq x y W
     have hk0:(0:Int)<=k:=by omega
     have hk1:(k:Int)<corr.length:=by omega
     clear ht hlt2
     have hdd:(x=y/\decide (x=y)=true)\/(x≠y/\decide (x=y)=false):=by
      by_cases e:x=y
      ·exact .inl ⟨e,decide_eq_true e⟩
      ·exact .inr ⟨e,decide_eq_false e⟩
     rcases hdd with ⟨hxy,hxd⟩ | ⟨hxy,hxd⟩
     all_goals
      rw[hxd]at hqr
      clear hxd
      have HXY:=Lib.hid hxy
      clear hxy
      go_upto_region 8 with fail
      refine wp_tail 10 (by kernel_rfl) (by kernel_rfl) ?_
      simp only[List.take_succ_cons,List.take_zero,List.drop_succ_cons,List.drop_zero]
      still_step
      still_step
      still_step
      still_step
      refine wpStill_value rfl _ (exec_smid S_corr _ rfl (by simp[Act.eval]) (corrCells x) rfl G1.out) ?_
      simp only[Act.put,List.setIfInBounds_toArray,List.set_cons_zero,List.set_cons_succ]
      still_step
      still_step
      still_step
      still_step
      refine wpStill_value rfl _ (exec_smid S_corr _ rfl (by simp[Act.eval]) (corrCells y) rfl G2.out) ?_
      simp only[Act.put,List.setIfInBounds_toArray,List.set_cons_zero,List.set_cons_succ]
      refine wpStill_nil ?_
      go_wp2_with fail
      first
       |(go_roundw
         case rel=>exact⟨k+1,by omega,by go_num,Lib.hid HBW.out.drew,Lib.hid (HE3.out HXY.out)⟩
         case measure=>simp[intOf];omega)
       |(go_ret
         exact⟨ret_false (HNE.out (.inr (.inr (.inl (HN.out HXY.out))))),HBF.out.drew⟩)
    ·obtain rfl:k=corr.length:=by omega
     have HC1:Hid (corr=corr2):=Lib.hid (eq_full HL.out ht.out)
     have p0:wr.cell? ⟨w.heap.size,0,none⟩=some (.int .i64 id):=rowcell HG1.out
     have q0:wr.cell? ⟨w.heap.size+1,0,none⟩=some (.int .i64 id2):=rowcell HG2.out
     have p1:wr.cell? ⟨w.heap.size,1,none⟩=some (.string author):=rowcell HG1.out
     have q1:wr.cell? ⟨w.heap.size+1,1,none⟩=some (.string author2):=rowcell HG2.out
     have p4:wr.cell? ⟨w.heap.size,4,none⟩=some (.int .i64 pub):=rowcell HG1.out
     have q4:wr.cell? ⟨w.heap.size+1,4,none⟩=some (.int .i64 pub2):=rowcell HG2.out
     have p6:wr.cell? ⟨w.heap.size,6,none⟩=some (.bool retr):=rowcell HG1.out
     have q6:wr.cell? ⟨w.heap.size+1,6,none⟩=some (.bool retr2):=rowcell HG2.out
     have p7:wr.cell? ⟨w.heap.size,7,none⟩=some (.bool taken):=rowcell HG1.out
     have q7:wr.cell? ⟨w.heap.size+1,7,none⟩=some (.bool taken2):=rowcell HG2.out
     clear HH3 HH4 HG1 HG2 HCC HCC2
     by_cases e0:id=id2
     case' neg=>
      have HF:=Lib.hid (HNE.out (.inr (.inr (.inr (.inl e0)))))
      have n0:(id == id2)=false:=by simpa using e0
      clear e0 HNE HEQ
      go_wp2_with fail
      go_ret
      exact⟨ret_false HF.out,HBF.out⟩
     have n0:(id == id2)=true:=by simpa using e0
     by_cases e1:author=author2
     case' neg=>
      have HF:=Lib.hid (HNE.out (.inr (.inr (.inr (.inr (.inl e1))))))
      have n1:(author.toList == author2.toList)=false:=(str_dec author author2).trans (decide_eq_false e1)
      clear e1 HNE HEQ
      go_wp2_with fail
      go_ret
      exact⟨ret_false HF.out,HBF.out⟩
     have n1:(author.toList == author2.toList)=true:=(str_dec author author2).trans (decide_eq_true e1)
     by_cases e2:pub=pub2
     case' neg=>
      have HF:=Lib.hid (HNE.out (.inr (.inr (.inr (.inr (.inr (.inl e2)))))))
      have n2:(pub == pub2)=false:=by simpa using e2
      clear e2 HNE HEQ
      go_wp2_with fail
      go_ret
      exact⟨ret_false HF.out,HBF.out⟩
     have n2:(pub == pub2)=true:=by simpa using e2
     by_cases e3:retr=retr2
     case' neg=>
      have HF:=Lib.hid (HNE.out (.inr (.inr (.inr (.inr (.inr (.inr (.inl e3))))))))
      have n3:(retr == retr2)=false:=by simpa using e3
      clear e3 HNE HEQ
      go_wp2_with fail
      go_ret
      exact⟨ret_false HF.out,HBF.out⟩
     have n3:(retr == retr2)=true:=by simpa using e3
     by_cases e4:taken=taken2
     case' neg=>
      have HF:=Lib.hid (HNE.out (.inr (.inr (.inr (.inr (.inr (.inr (.inr e4))))))))
      have n4:(taken == taken2)=false:=by simpa using e4
      clear e4 HNE HEQ
      go_wp2_with fail
      go_ret
      exact⟨ret_false HF.out,HBF.out⟩
     have n4:(taken == taken2)=true:=by simpa using e4
     have HF:=Lib.hid (HEQ.out e0 e1 HT1.out HE1.out e2 HC1.out e3 e4)
     clear e0 e1 e2 e3 e4 HNE HEQ
     go_wp2_with fail
     go_ret
     exact⟨ret_true HF.out,HBF.out⟩
theorem tplCells_neqR (x y:TplF) (W:World):(binOp .neq 52 (.agg (tplCells x)) (.agg (tplCells y))).run Tryz.prog W=.ok (.bool (!decide (x=y))) W:=by
 obtain⟨a0,a1⟩:=x
 obtain⟨b0,b1⟩:=y
 rw[run_neq_struct,run_equalIn_agg _ _ _ _ _ (by kernel_rfl) (by kernel_rfl)]
 simp only[Program.fieldsOf,Tryz.underlying52]
 go_simp
 simp only[toList_iff]
 by_cases h0:a0=b0 <;> by_cases h1:a1=b1 <;> simp[h0,h1]
set_option maxRecDepth 100000 in
set_option maxHeartbeats 8000000 in
theorem sameR_law {mem:Addr->Option Value} {v u:Value} {x y:StF} (h1:StateM mem v x) (h2:StateM mem u y) (w:World) (hs:Sees mem w):
 Calls Tryz.prog 32 #[v,u] w fun e w'=>e=.returned (.bool (decide (x=y)))/\Below w.heap.size w w':=by
 obtain⟨sv,tv,rfl,hs1,ht1⟩:=h1
 obtain⟨sv2,tv2,rfl,hs2,ht2⟩:=h2
 obtain⟨l,p⟩:=x
 obtain⟨m,q⟩:=y
 obtain⟨ao,cap,b,o,rfl,hcap,hm,hao,hat⟩:=SlM.open_ hs1
 obtain⟨ao2,cap2,b2,o2,rfl,hcap2,hm2,hao2,hat2⟩:=SlM.open_ hs2
 obtain⟨po,pap,pb,pp,rfl,pcap,pm,hpo,hpt⟩:=SlM.open_ ht1
 obtain⟨po2,pap2,pb2,pp2,rfl,pcap2,pm2,hpo2,hpt2⟩:=SlM.open_ ht2
 have HA:=Lib.hid hao
 have HA2:=Lib.hid hao2
 have HAT:=Lib.hid hat
 have HAT2:=Lib.hid hat2
 have HP:=Lib.hid hpo
 have HP2:=Lib.hid hpo2
 have HPT:=Lib.hid hpt
 have HPT2:=Lib.hid hpt2
 have HS:=Lib.hid hs
 dsimp only at *
 have hl1:(l.length:Int)<=9223372036854775807:=by unfold maxLen at hm;omega
 have hl2:(m.length:Int)<=9223372036854775807:=by unfold maxLen at hm2;omega
 have hl3:(p.length:Int)<=9223372036854775807:=by unfold maxLen at pm;omega
 have hl4:(q.length:Int)<=9223372036854775807:=by unfold maxLen at pm2;omega
 have HNE:Hid (l≠m\/p≠q->decide ((⟨l,p⟩:StF)=⟨m,q⟩)=false):=Lib.hid (fun h=>decide_eq_false (fun e=>by
  injection e with e1 e2
  rcases h with h | h
  ·exact h e1
  ·exact h e2))
 have HEQ:Hid (l=m->p=q->decide ((⟨l,p⟩:StF)=⟨m,q⟩)=true):=Lib.hid (fun e1 e2=>decide_eq_true (by subst e1 e2;rfl))
 generalize decide ((⟨l,p⟩:StF)=⟨m,q⟩)=D at *
 clear hs1 ht1 hs2 ht2 hao hao2 hat hat2 hpo hpo2 hpt hpt2 hs hcap hcap2 hm hm2 pcap pcap2 pm pm2
 obtain⟨W2,hW2⟩:∃ W2,W2=(w.alloc (.cells #[.slice ao l.length cap,.slice po p.length pap] 27)).alloc (.cells #[.slice ao2 m.length cap2,.slice po2 q.length pap2] 27):=⟨_,rfl⟩
 have hB2:Below w.heap.size w W2:=by rw[hW2];exact(bel1 w _).alloc (by simp) _
 have HN1:Hid (W2.heap[w.heap.size]?=some (.cells #[.slice ao l.length cap,.slice po p.length pap] 27 (0,0))):=Lib.hid (by rw[hW2];exact heap_new1 w _ _)
 have HN2:Hid (W2.heap[w.heap.size+1]?=some (.cells #[.slice ao2 m.length cap2,.slice po2 q.length pap2] 27 (0,0))):=Lib.hid (by
  rw[hW2]
  have:=World.alloc_heap_new (w.alloc (.cells #[.slice ao l.length cap,.slice po p.length pap] 27)) (.cells #[.slice ao2 m.length cap2,.slice po2 q.length pap2] 27)
  simpa using this)
 have HB2:=Lib.hid hB2
 have HW2:=Lib.hid hW2
 have HS2:=Lib.hid (HS.out.bel hB2)
 clear hB2 hW2
 go_enter Tryz.func32,Tryz.ntmps32
 go_upto_region 1 with fail
 rw[<-HW2.out]
 clear HW2
 have p0:W2.cell? ⟨w.heap.size,0,none⟩=some (.slice ao l.length cap):=rowcell HN1.out
 have p1:W2.cell? ⟨w.heap.size,1,none⟩=some (.slice po p.length pap):=rowcell HN1.out
 have q0:W2.cell? ⟨w.heap.size+1,0,none⟩=some (.slice ao2 m.length cap2):=rowcell HN2.out
 have q1:W2.cell? ⟨w.heap.size+1,1,none⟩=some (.slice po2 q.length pap2):=rowcell HN2.out
 by_cases e1:l.length=m.length
 case' neg=>
  have hne:decide (l.length=m.length)=false:=decide_eq_false e1
  have HF:=Lib.hid (HNE.out (.inl (fun e=>e1 (by rw[e]))))
  have HBF:=HB2
  go_wp2_with fail
  all_goals first
   |(go_ret
     exact⟨ret_false HF.out,HBF.out⟩)
 have HL:=Lib.hid e1
 rw[<-e1]at q0
 clear e1
 by_cases e2:p.length=q.length
 case' neg=>
  have hne:decide (p.length=q.length)=false:=decide_eq_false e2
  have HF:=Lib.hid (HNE.out (.inr (fun e=>e2 (by rw[e]))))
  have HBF:=HB2
  go_wp2_with fail
  all_goals first
   |(go_ret
     exact⟨ret_false HF.out,HBF.out⟩)
 have HLP:=Lib.hid e2
 rw[<-e2]at q1
 clear e2
 go_wp2_with fail
 clear p0 p1 q0 q1
 go_loopw [5] (fun i wr=>∃ k:Nat,k<=l.length/\i=.int .i64 k/\Hid (Below W2.heap.size W2 wr)/\Hid (l.take k=m.take k)) (fun i _=>l.length - (intOf i).toNat)
 case atStart=>exact⟨0,Nat.zero_le _,rfl,Lib.hid (Below.refl _ _),Lib.hid rfl⟩
 case round=>
  obtain⟨k,hk,rfl,HBW,ht⟩:=hrel
  have p0:wr.cell? ⟨w.heap.size,0,none⟩=some (.slice ao l.length cap):=rowcell ((HBW.out.block _ (qh HN1.out)).trans HN1.out)
  by_cases hlt:k<l.length
  ·have hlt2:k<m.length:=by rw[<-HL.out];exact hlt
   have q0:wr.cell? ⟨w.heap.size+1,0,none⟩=some (.slice ao2 l.length cap2):=by rw[HL.out];exact rowcell ((HBW.out.block _ (qh HN2.out)).trans HN2.out)
   obtain rfl:=HA.out (by omega)
   obtain rfl:=HA2.out (by omega)
   obtain⟨hok,tv,ev,cv,hcells,hP⟩:=HAT.out k hlt
   obtain⟨hok2,tv2,ev2,cv2,hcells2,hP2⟩:=HAT2.out k hlt2
   have HV1:Hid (StyV mem (.agg (styCells l[k] tv ev cv)) l[k]):=Lib.hid ⟨hok,_,_,_,rfl,hP⟩
   have HV2:Hid (StyV mem (.agg (styCells m[k] tv2 ev2 cv2)) m[k]):=Lib.hid ⟨hok2,_,_,_,rfl,hP2⟩
   have HSD:=Lib.hid (HS2.out.bel HBW.out.drew)
   have HD1:=Lib.hid (cells_see (sz:=8) HSD.out hcells rfl)
   have HD2:=Lib.hid (cells_see (sz:=8) HSD.out hcells2 rfl)
   obtain⟨t1,t2,e1,e2,c1,c2,rfl,rfl,rfl⟩:=hP.shape
   obtain⟨t3,t4,e3,e4,c3,c4,rfl,rfl,rfl⟩:=hP2.shape
   generalize l[k].topics.length=n1 at *
   generalize l[k].eds.length=n2 at *
   generalize l[k].corr.length=n3 at *
   generalize m[k].topics.length=n4 at *
   generalize m[k].eds.length=n5 at *
   generalize m[k].corr.length=n6 at *
   clear hok hok2 hcells hcells2 hP hP2
   have HE:Hid (l[k]=m[k]->l.take (k+1)=m.take (k+1)):=Lib.hid (take_step hlt hlt2 ht.out)
   have HN:Hid (l[k]≠m[k]->l≠m):=Lib.hid (ne_of_get hlt hlt2)
   have hk0:(0:Int)<=k:=by omega
   have hk1:(k:Int)<l.length:=by omega
   generalize l[k]=x at *
   generalize m[k]=y at *
   have HC:=Lib.hid (sameStoryR_any HV1.out HV2.out wr.drew HSD.out)
   have HC9:Hid (decide (x=y)=true->x=y):=Lib.hid of_decide_eq_true
   have HC8:Hid (decide (x=y)=false->x≠y):=Lib.hid of_decide_eq_false
   generalize hq:decide (x=y)=r at *
   clear hq ht
   go_upto_region 6 with fail
   refine wp_tail 10 (by kernel_rfl) (by kernel_rfl) ?_
   simp only[List.take_succ_cons,List.take_zero,List.drop_succ_cons,List.drop_zero]
   still_step
   still_step
   still_step
   still_step
   refine wpStill_value rfl _ (exec_smid S_sty _ rfl (by simp[Act.eval]) (styCells x (.slice t1 n1 t2) (.slice e1 n2 e2) (.slice c1 n3 c2)) rfl HD1.out) ?_
   simp only[Act.put,List.setIfInBounds_toArray,List.set_cons_zero,List.set_cons_succ]
   still_step
   still_step
   still_step
   still_step
   refine wpStill_value rfl _ (exec_smid S_sty _ rfl (by simp[Act.eval]) (styCells y (.slice t3 n4 t4) (.slice e3 n5 e4) (.slice c3 n6 c4)) rfl HD2.out) ?_
   simp only[Act.put,List.setIfInBounds_toArray,List.set_cons_zero,List.set_cons_succ]
   refine wpStill_nil ?_
   clear p0 q0
   go_wp2_with fail
   refine HC.out.mono ?_
   rintro e w3 ⟨rfl,hb3⟩
   have HB3:Hid (Below W2.heap.size W2 w3):=Lib.hid (HBW.out.drew.trans (hb3.mono HBW.out.size))
   clear hb3 HC
   cases r with
   |true=>
    have HE2:=Lib.hid (HE.out (HC9.out rfl))
    clear HC9 HC8
    go_wp2_with fail
    go_roundw
    case rel=>exact⟨k+1,by omega,by go_num,HB3,HE2⟩
    case measure=>simp[intOf];omega
   |false=>
    have HF:=Lib.hid (HNE.out (.inl (HN.out (HC8.out rfl))))
    have HBF:Hid (Below w.heap.size w w3):=Lib.hid (HB2.out.trans (HB3.out.mono HB2.out.size))
    clear HC9 HC8
    go_wp2_with fail
    go_ret
    exact⟨ret_false HF.out,HBF.out⟩
  ·obtain rfl:k=l.length:=by omega
   have HLM:Hid (l=m):=Lib.hid (eq_full HL.out ht.out)
   have HBW0:=HBW
   go_wp2_with fail
   clear p0
   go_loopw [7] (fun i wr=>∃ k:Nat,k<=p.length/\i=.int .i64 k/\Hid (Below W2.heap.size W2 wr)/\Hid (p.take k=q.take k)) (fun i _=>p.length - (intOf i).toNat)
   case atStart=>exact⟨0,Nat.zero_le _,rfl,HBW0,Lib.hid rfl⟩
   case round=>
    obtain⟨k,hk,rfl,HBW,ht⟩:=hrel
    have p0:wr.cell? ⟨w.heap.size,1,none⟩=some (.slice po p.length pap):=rowcell ((HBW.out.block _ (qh HN1.out)).trans HN1.out)
    have HBF:Hid (Below w.heap.size w wr):=Lib.hid (HB2.out.trans (HBW.out.mono HB2.out.size))
    by_cases hlt:k<p.length
    ·have hlt2:k<q.length:=by rw[<-HLP.out];exact hlt
     have q0:wr.cell? ⟨w.heap.size+1,1,none⟩=some (.slice po2 p.length pap2):=by rw[HLP.out];exact rowcell ((HBW.out.block _ (qh HN2.out)).trans HN2.out)
     have G1:=Lib.hid (cells_see (sz:=2) (HS2.out.bel HBW.out) (HPT.out k hlt).2 rfl)
     have G2:=Lib.hid (cells_see (sz:=2) (HS2.out.bel HBW.out) (HPT2.out k hlt2).2 rfl)
     obtain rfl:=HP.out (by omega)
     obtain rfl:=HP2.out (by omega)
     have HE3:Hid (p[k]=q[k]->p.take (k+1)=q.take (k+1)):=Lib.hid (take_step hlt hlt2 ht.out)
     have HN:Hid (p[k]≠q[k]->p≠q):=Lib.hid (ne_of_get hlt hlt2)
     generalize p[k]=x at *
     generalize q[k]=y at *
     have hqr:∀ W:World,(binOp .neq 52 (.agg (tplCells x)) (.agg (tplCells y))).run Tryz.prog W=.ok (.bool (!decide (x=y))) W:=fun W=>tplCells_neqR x y W
     have hk0:(0:Int)<=k:=by omega
     have hk1:(k:Int)<p.length:=by omega
     clear ht hlt2
     have hdd:(x=y/\decide (x=y)=true)\/(x≠y/\decide (x=y)=false):=by
      by_cases e:x=y
      ·exact .inl ⟨e,decide_eq_true e⟩
      ·exact .inr ⟨e,decide_eq_false e⟩
     rcases hdd with ⟨hxy,hxd⟩ | ⟨hxy,hxd⟩
     all_goals
      rw[hxd]at hqr
      clear hxd
      have HXY:=Lib.hid hxy
      clear hxy
      go_upto_region 12 with fail
      refine wp_tail 10 (by kernel_rfl) (by kernel_rfl) ?_
      simp only[List.take_succ_cons,List.take_zero,List.drop_succ_cons,List.drop_zero]
      still_step
      still_step
      still_step
      still_step
      refine wpStill_value rfl _ (exec_smid S_tpl _ rfl (by simp[Act.eval]) (tplCells x) rfl G1.out) ?_
      simp only[Act.put,List.setIfInBounds_toArray,List.set_cons_zero,List.set_cons_succ]
      still_step
      still_step
      still_step
      still_step
      refine wpStill_value rfl _ (exec_smid S_tpl _ rfl (by simp[Act.eval]) (tplCells y) rfl G2.out) ?_
      simp only[Act.put,List.setIfInBounds_toArray,List.set_cons_zero,List.set_cons_succ]
      refine wpStill_nil ?_
      go_wp2_with fail
      first
       |(go_roundw
         case rel=>exact⟨k+1,by omega,by go_num,Lib.hid HBW.out.drew,Lib.hid (HE3.out HXY.out)⟩
         case measure=>simp[intOf];omega)
       |(go_ret
         exact⟨ret_false (HNE.out (.inr (HN.out HXY.out))),HBF.out.drew⟩)
    ·obtain rfl:k=p.length:=by omega
     have HF:=Lib.hid (HEQ.out HLM.out (eq_full HLP.out ht.out))
     go_wp2_with fail
     go_ret
     exact⟨ret_true HF.out,HBF.out⟩
theorem stepG_author {K:Nat} {g:StG} {f:Fct} (hg:g.author.size<=K) (hf:f.author.size<=K):(Mg.stepG g f).author.size<=K:=by
 unfold Mg.stepG
 split
 ·exact hf
 split
 ·split <;> exact hg
 split
 ·exact hg
 split
 ·exact hg
 split <;> exact hg
theorem foldl_author {K:Nat}:∀ (l:List Fct) (g:StG),g.author.size<=K->(∀ f∈l,f.author.size<=K)->(l.foldl Mg.stepG g).author.size<=K
 |[],_,h,_=>h
 |f::l,_,h,hl=>foldl_author l _ (stepG_author h (hl f List.mem_cons_self)) (fun x hx=>hl x (List.mem_cons_of_mem _ hx))
theorem fold_author {K:Nat} {l:List Fct} {s:StF} (h:FoldIs l s) (hl:∀ f∈l,f.author.size<=K):∀ x∈s.stories,x.author.size<=K:=fun x hx=>by
 rw[(h.val x hx).author]
 split
 ·exact Nat.zero_le _
 ·exact foldl_author _ _ (Nat.zero_le _) (fun f hf=>hl f (List.mem_filter.1 hf).1)
theorem short_author {K:Nat} {l:List Fct} (hl:∀ f∈l,f.author.size<=K):∀ f∈shortL7 l,f.author.size<=K:=fun f hf=>by
 obtain⟨y,hy,rfl⟩:=List.mem_map.1 hf
 exact hl y (List.mem_of_mem_take hy)
structure FoldedR (l:List Fct) (w:World) (sv tv:Value) (s:StF) (w':World):Prop where
 is:FoldIs l s
 st:StateM (memNo w' (fun k=>k<w.heap.size)) (.agg #[sv,tv]) s
 good:∀ x∈s.stories,StyGood x
 len:s.stories.length<=l.length
 bel:Below w.heap.size w w'
theorem Shorted.foldR {l:List Fct} {w w':World} {r:Value} {fs:List FctE} (h:Shorted l w r fs w'):Calls Tryz.prog 17 #[r] w' (fun e w2=>∃ a c b d s,e=.returned (.agg #[.slice a s.stories.length c,.slice b s.tpls.length d])/\FoldedR (shortL7 l) w' (.slice a s.stories.length c) (.slice b s.tpls.length d) s w2):=by
 have:=foldR_any h.es h.good (by have:=h.len;omega) w' (Sees.self w')
 rw[h.map]at this
 refine this.mono fun e w2 hp=>?_
 obtain⟨sv,tv,s,rfl,h1,h2,h3,h4,h5⟩:=hp
 obtain⟨sv',tv',e,q1,q2⟩:=h2
 injection e with e
 have e1:sv=sv':=by have:=congrArg (fun x=>x[0]?) e;simpa using this
 have e2:tv=tv':=by have:=congrArg (fun x=>x[1]?) e;simpa using this
 subst e1 e2
 obtain⟨a,c,rfl⟩:=SlM.slice q1
 obtain⟨b,d,rfl⟩:=SlM.slice q2
 exact⟨a,c,b,d,s,rfl,h1,⟨_,_,rfl,q1,q2⟩,h3,h4,h5⟩
def SmF (C X:Nat) (k:Nat):Prop:=k=C\/k=X
structure SmW (w3:World) (X:Nat) (sv tv:Value) (x:StyF) (cs:Array Value) (W:World):Prop where
 box:W.heap[X]?=some (.cells cs 34 (0,0))
 vv:SyV (memNo W (SmF w3.heap.size X)) x cs
 cb:W.heap[w3.heap.size]?=some (.cells #[sv,tv] 27 (0,0))
 bel:Below w3.heap.size w3 W
 low:w3.heap.size<X
section
variable {w3 W W':World} {X:Nat} {sv tv:Value} {x:StyF} {cs:Array Value}
theorem SmW.keep (h:SmW w3 X sv tv x cs W) (hb:Below W.heap.size W W'):SmW w3 X sv tv x cs W':=
 ⟨(hb.block _ (qh h.box)).trans h.box,h.vv.mono (memNo_bel hb),(hb.block _ (qh h.cb)).trans h.cb,h.bel.trans (hb.mono h.bel.size),h.low⟩
theorem SmW.set (h:SmW w3 X sv tv x cs W) (j:Nat) (u:Value) {y:StyF} (hy:SyV (memNo W (SmF w3.heap.size X)) y (cs.setIfInBounds j u)):SmW w3 X sv tv y (cs.setIfInBounds j u) (W.setCell ⟨X,j,none⟩ u):=by
 have hu:=upd_cell W X j u
 have hl:=h.low
 exact⟨blk_set h.box,hy.mono (memNo_upd hu (fun k _ e=>.inr e)),by rw[hu.block _ (qh h.cb) (by omega)];exact h.cb,h.bel.setCell (by show w3.heap.size<=X;omega) _,hl⟩
theorem SmW.open_ (h:SmW w3 X sv tv x cs W):∃ ta tc ea ec ca cc,cs=styCells x (.slice ta x.topics.length tc) (.slice ea x.eds.length ec) (.slice ca x.corr.length cc)/\StyOK x/\StyP (memNo W (SmF w3.heap.size X)) x (.slice ta x.topics.length tc) (.slice ea x.eds.length ec) (.slice ca x.corr.length cc):=by
 obtain⟨h0,t,e,c,h1,h2⟩:=h.vv
 obtain⟨t1,t2,e1,e2,c1,c2,rfl,rfl,rfl⟩:=h2.shape
 exact⟨t1,t2,e1,e2,c1,c2,h1,h0,h2⟩
theorem SmW.new (h:SmW w3 X sv tv x cs W) {k:Nat} (hk:W.heap.size<=k):¬ SmF w3.heap.size X k:=fun q=>by
 have:=qh h.box
 have:=h.low
 rcases q with q | q <;> omega
theorem okI_wrap64 (v:Int):okI (wrap64 v):=by
 unfold okI wrap64;omega
end
section
variable {P:Program} {t e:TypeId} {z:Value} {sz bytes:Nat} {w:World} {o:Oper} {a:Act} {Q:Exit->Act->World->Prop} {K:Act->World->Prop}
theorem wp_empty_slice (T:ElemT P t e z sz bytes) (parts:Array (Nat × Operand)) (ho:o.op=.buildSlice t 0 parts) (hp:parts=#[])
 (hK:K (a.put o.dst (.slice (some ⟨w.heap.size,0,none⟩) 0 0)) (w.alloc (.cells #[] e))):o.wp P a w K Q:=by
 obtain⟨i0,hi0,hz0,hz1,hz2⟩:=info_parts T.inf
 subst hp
 have hr:(Instr.buildSlice t 0 #[]).run P w=.ok (.slice (some ⟨w.heap.size,0,none⟩) 0 0) (w.alloc (.cells #[] e)):=by
  simp[Instr.buildSlice,run_underlying T.und,sizeOf,typeInfo,hi0,Instr.fill,newRow]
  rw[show Array.range 0=#[] from by simp[Array.range]]
  simp
 unfold Oper.wp execOp
 simp only[ho,List.map_toArray,List.map_nil,Sem.run_bind,hr,Result.andThen_ok]
 exact hK
end
set_option maxRecDepth 100000 in
theorem elem_edns:Tryz.prog.underlying 31=some (.slice (Tryz.prog.elem 31)):=Tryz.underlying31
set_option maxRecDepth 100000 in
theorem elem_blks:Tryz.prog.underlying 37=some (.slice (Tryz.prog.elem 37)):=Tryz.underlying37
theorem built_cz:Tryz.prog.built 69 []=some (corrCells ⟨str0,0,0,str0,0⟩):=by kernel_rfl
theorem corr0_ok:CorrOK ⟨str0,0,0,str0,0⟩:=⟨str0_ok,okI_zero,okI_zero,str0_ok,okI_zero⟩
theorem exec_slice_hi {P:Program} {o:Oper} {a:Act} {w:World} {t e:TypeId} {x l:Operand} {ao:Option Addr} {n c:Nat} {u r:Value} (ht:P.underlying t=some (.slice e)) (ho:o.op=.slice t x none (some l) none) (hx:a.eval x=.slice ao n c) (hl:a.eval l=u) (hr:(Instr.slice t (.slice ao n c) none (some u) none).run P w=.ok r w):(execOp a.eval o).run P w=.ok (.value r) w:=by
 unfold execOp
 simp only[ho,hx,hl,Instr.sliceAt,Option.map_some,Option.map_none,Sem.run_bind,run_underlying ht,hr,Result.andThen_ok]
 rfl
theorem one_x:OneC #[.string ⟨#[120]⟩]:=fun u hu=>by simp at hu;subst hu;rfl
set_option maxRecDepth 100000 in
set_option maxHeartbeats 16000000 in
theorem samematch_any {mem:Addr->Option Value} {v v2:Value} {es es2:List FctE} (h:EsM mem v es) (h2:EsM mem v2 es2) (ha:∀ x∈es,x.f.author.size<=140737488351232) (field:Int) (hfi:okI field) (w:World) (hs:Sees mem w):
 Calls Tryz.prog 11 #[v,v2,.int .i64 field] w fun e w'=>e=.returned (.bool true)/\Below w.heap.size w w':=by
 have c0:=Lib.hid (sane_any w)
 have HS:=Lib.hid hs
 have HE:=Lib.hid h
 have HE2:=Lib.hid h2
 have HFI:=Lib.hid hfi
 have HAU:Hid (∀ f∈shortL7 (es.map FctE.f),f.author.size<=140737488351232):=Lib.hid (short_author (fun f hf=>by
  obtain⟨x,hx,rfl⟩:=List.mem_map.1 hf
  exact ha x hx))
 obtain⟨va,vc,vb,vo,rfl,_⟩:=h.open_
 obtain⟨ua,uc,ub,uo,rfl,_⟩:=h2.open_
 clear h h2 hs ha hfi
 go_enter Tryz.func11,Tryz.ntmps11
 go_wp2_with fail
 refine c0.out.mono ?_
 rintro e w0 ⟨rfl,hb0⟩
 have HBW:Hid (Below w.heap.size w w0):=Lib.hid hb0
 clear hb0 c0
 have cSA:=Lib.hid (short_law HE.out w0 (HS.out.bel HBW.out))
 go_wp2_with fail
 refine cSA.out.mono ?_
 rintro e w1A ⟨raA,rcA,fsA,rfl,hsh⟩
 have cFA:=Lib.hid hsh.foldR
 have HCA:Hid (Below w0.heap.size w0 w1A):=Lib.hid hsh.bel
 clear hsh cSA
 go_wp2_with fail
 refine cFA.out.mono ?_
 rintro e w2A ⟨aA,cA,bA,dA,sA,rfl,hF⟩
 have HFA:=Lib.hid hF
 have HDA:Hid (Below w0.heap.size w0 w2A):=Lib.hid (HCA.out.trans (hF.bel.mono HCA.out.size))
 clear hF cFA
 go_upto_region 3 with ((with_reducible refine at_sstore 27 _ _ rfl ?_);go_must (refine wpList_snew rfl S_state _ _ rfl rfl _ _ #[.slice aA sA.stories.length cA,.slice bA sA.tpls.length dA] (by simp[Act.eval]) (by simp[Act.eval]) rfl rfl (by simp[Value.oneCell']) ?_))
 obtain⟨w3A,hw3A⟩:∃ w3,w3=w2A.alloc (.cells #[.slice aA sA.stories.length cA,.slice bA sA.tpls.length dA] 27):=⟨_,rfl⟩
 rw[<-hw3A]
 have hb3A:Below w2A.heap.size w2A w3A:=by rw[hw3A];exact bel1 _ _
 have HXA:Hid (w3A.heap[w2A.heap.size]?=some (.cells #[.slice aA sA.stories.length cA,.slice bA sA.tpls.length dA] 27 (0,0))):=Lib.hid (by rw[hw3A];exact World.alloc_heap_new _ _)
 have HEA:Hid (Below w0.heap.size w0 w3A):=Lib.hid (HDA.out.trans (hb3A.mono HDA.out.size))
 have HSTA:Hid (StateM (fun p=>w3A.cell? p) (.agg #[.slice aA sA.stories.length cA,.slice bA sA.tpls.length dA]) sA):=Lib.hid (HFA.out.st.mono (fun p u e=>sees_bel hb3A p u (memNo_sees _ _ p u e)))
 have HB3A:=Lib.hid hb3A
 replace HBW:Hid (Below w.heap.size w w3A):=Lib.hid (HBW.out.trans (HEA.out.mono HBW.out.size))
 have HBWA:=HBW
 clear hw3A hb3A HCA
 have cSB:=Lib.hid (short_law HE2.out w3A (HS.out.bel HBW.out))
 go_wp2_with fail
 refine cSB.out.mono ?_
 rintro e w1B ⟨raB,rcB,fsB,rfl,hsh⟩
 have cFB:=Lib.hid hsh.foldR
 have HCB:Hid (Below w3A.heap.size w3A w1B):=Lib.hid hsh.bel
 clear hsh cSB
 go_wp2_with fail
 refine cFB.out.mono ?_
 rintro e w2B ⟨aB,cB,bB,dB,sB,rfl,hF⟩
 have HFB:=Lib.hid hF
 have HDB:Hid (Below w3A.heap.size w3A w2B):=Lib.hid (HCB.out.trans (hF.bel.mono HCB.out.size))
 clear hF cFB
 go_upto_region 4 with ((with_reducible refine at_sstore 27 _ _ rfl ?_);go_must (refine wpList_snew rfl S_state _ _ rfl rfl _ _ #[.slice aB sB.stories.length cB,.slice bB sB.tpls.length dB] (by simp[Act.eval]) (by simp[Act.eval]) rfl rfl (by simp[Value.oneCell']) ?_))
 obtain⟨w3B,hw3B⟩:∃ w3,w3=w2B.alloc (.cells #[.slice aB sB.stories.length cB,.slice bB sB.tpls.length dB] 27):=⟨_,rfl⟩
 rw[<-hw3B]
 have hb3B:Below w2B.heap.size w2B w3B:=by rw[hw3B];exact bel1 _ _
 have HXB:Hid (w3B.heap[w2B.heap.size]?=some (.cells #[.slice aB sB.stories.length cB,.slice bB sB.tpls.length dB] 27 (0,0))):=Lib.hid (by rw[hw3B];exact World.alloc_heap_new _ _)
 have HEB:Hid (Below w3A.heap.size w3A w3B):=Lib.hid (HDB.out.trans (hb3B.mono HDB.out.size))
 have HSTB:Hid (StateM (fun p=>w3B.cell? p) (.agg #[.slice aB sB.stories.length cB,.slice bB sB.tpls.length dB]) sB):=Lib.hid (HFB.out.st.mono (fun p u e=>sees_bel hb3B p u (memNo_sees _ _ p u e)))
 have HB3B:=Lib.hid hb3B
 replace HBW:Hid (Below w.heap.size w w3B):=Lib.hid (HBW.out.trans (HEB.out.mono HBW.out.size))
 have HBWB:=HBW
 clear hw3B hb3B HCB
 have cSC:=Lib.hid (short_law HE.out w3B (HS.out.bel HBW.out))
 go_wp2_with fail
 refine cSC.out.mono ?_
 rintro e w1C ⟨raC,rcC,fsC,rfl,hsh⟩
 have cFC:=Lib.hid hsh.foldR
 have HCC:Hid (Below w3B.heap.size w3B w1C):=Lib.hid hsh.bel
 clear hsh cSC
 go_wp2_with fail
 refine cFC.out.mono ?_
 rintro e w2C ⟨aC,cC,bC,dC,sC,rfl,hF⟩
 have HFC:=Lib.hid hF
 have HDC:Hid (Below w3B.heap.size w3B w2C):=Lib.hid (HCC.out.trans (hF.bel.mono HCC.out.size))
 clear hF cFC
 go_upto_region 5 with ((with_reducible refine at_sstore 27 _ _ rfl ?_);go_must (refine wpList_snew rfl S_state _ _ rfl rfl _ _ #[.slice aC sC.stories.length cC,.slice bC sC.tpls.length dC] (by simp[Act.eval]) (by simp[Act.eval]) rfl rfl (by simp[Value.oneCell']) ?_))
 obtain⟨w3C,hw3C⟩:∃ w3,w3=w2C.alloc (.cells #[.slice aC sC.stories.length cC,.slice bC sC.tpls.length dC] 27):=⟨_,rfl⟩
 rw[<-hw3C]
 have hb3C:Below w2C.heap.size w2C w3C:=by rw[hw3C];exact bel1 _ _
 have HXC:Hid (w3C.heap[w2C.heap.size]?=some (.cells #[.slice aC sC.stories.length cC,.slice bC sC.tpls.length dC] 27 (0,0))):=Lib.hid (by rw[hw3C];exact World.alloc_heap_new _ _)
 have HEC:Hid (Below w3B.heap.size w3B w3C):=Lib.hid (HDC.out.trans (hb3C.mono HDC.out.size))
 have HSTC:Hid (StateM (fun p=>w3C.cell? p) (.agg #[.slice aC sC.stories.length cC,.slice bC sC.tpls.length dC]) sC):=Lib.hid (HFC.out.st.mono (fun p u e=>sees_bel hb3C p u (memNo_sees _ _ p u e)))
 have HB3C:=Lib.hid hb3C
 replace HBW:Hid (Below w.heap.size w w3C):=Lib.hid (HBW.out.trans (HEC.out.mono HBW.out.size))
 have HBWC:=HBW
 clear hw3C hb3C HCC
 have HSC:Hid (StateM (fun p=>w2C.cell? p) (.agg #[(.slice aC sC.stories.length cC),(.slice bC sC.tpls.length dC)]) sC):=Lib.hid (HFC.out.st.mono (fun p u e=>memNo_sees _ _ p u e))
 have HSB:Hid (StateM (fun p=>w2C.cell? p) (.agg #[.slice aB sB.stories.length cB,.slice bB sB.tpls.length dB]) sB):=Lib.hid (HSTB.out.mono (fun p u e=>sees_bel HDC.out p u e))
 have HSA:Hid (StateM (fun p=>w2C.cell? p) (.agg #[.slice aA sA.stories.length cA,.slice bA sA.tpls.length dA]) sA):=Lib.hid (HSTA.out.mono (fun p u e=>sees_bel (HEB.out.trans (HDC.out.mono HEB.out.size)) p u e))
 have HBB:Hid (w2C.heap[w2B.heap.size]?=some (.cells #[.slice aB sB.stories.length cB,.slice bB sB.tpls.length dB] 27 (0,0))):=Lib.hid ((HDC.out.block _ (qh HXB.out)).trans HXB.out)
 have HBA:Hid (w2C.heap[w2A.heap.size]?=some (.cells #[.slice aA sA.stories.length cA,.slice bA sA.tpls.length dA] 27 (0,0))):=Lib.hid (((HEB.out.trans (HDC.out.mono HEB.out.size)).block _ (qh HXA.out)).trans HXA.out)
 have HGDC:=Lib.hid HFC.out.good
 have HAUC:Hid (∀ x∈sC.stories,x.author.size<=140737488351232):=Lib.hid (fold_author HFC.out.is HAU.out)
 have HBW2:Hid (Below w.heap.size w w2C):=Lib.hid (by
  exact HBWB.out.trans (HDC.out.mono HBWB.out.size))
 have hlen40:sC.stories.length<=40:=Nat.le_trans HFC.out.len (shortL7_len _)
 generalize hA:w2A.heap.size=A at *
 generalize hB:w2B.heap.size=B at *
 clear hA hB HFA HFB HFC HDA HDB HDC HEA HEB HEC HSTA HSTB HSTC HXA HXB HB3A HB3B HAU HE HE2 HS
 have k0:w3C.cell? ⟨w2C.heap.size,0,none⟩=some (.slice aC sC.stories.length cC):=rowcell HXC.out
 go_upto_if 28 with fail
 go_cut [11] from 12 to 156 (fun s11 wc=>∃ (sv tv:Value) (s3:StF),Hid (wc.heap[w2C.heap.size]?=some (.cells #[sv,tv] 27 (0,0)))/\Hid (StateM (fun p=>wc.cell? p) (.agg #[sv,tv]) s3)/\Hid (Below w2C.heap.size w2C wc))
 case rest=>
  obtain⟨sv,tv,s3,HXD,HSD,HBD⟩:=hcut
  obtain⟨Wd,hWd⟩:∃ Wd,Wd=wc.drew:=⟨_,rfl⟩
  have hwd:Below wc.heap.size wc Wd:=by rw[hWd];exact(Below.refl _ wc).drew
  have HXE:=Lib.hid ((hwd.block _ (qh HXD.out)).trans HXD.out)
  have HBE:Hid (Below w2C.heap.size w2C Wd):=Lib.hid (HBD.out.trans (hwd.mono HBD.out.size))
  have HXEA:=Lib.hid ((HBE.out.block _ (qh HBA.out)).trans HBA.out)
  have HXEB:=Lib.hid ((HBE.out.block _ (qh HBB.out)).trans HBB.out)
  have HTA:Hid (StateM (fun p=>Wd.cell? p) (.agg #[.slice aA sA.stories.length cA,.slice bA sA.tpls.length dA]) sA):=Lib.hid (HSA.out.mono (fun p u e=>sees_bel HBE.out p u e))
  have HTB:Hid (StateM (fun p=>Wd.cell? p) (.agg #[.slice aB sB.stories.length cB,.slice bB sB.tpls.length dB]) sB):=Lib.hid (HSB.out.mono (fun p u e=>sees_bel HBE.out p u e))
  have HTD:Hid (StateM (fun p=>Wd.cell? p) (.agg #[sv,tv]) s3):=Lib.hid (HSD.out.mono (fun p u e=>sees_bel hwd p u e))
  have HSW:Hid (Sees (fun p=>Wd.cell? p) Wd):=Lib.hid (Sees.self Wd)
  have HZ0:Hid (Below Wd.heap.size Wd Wd):=Lib.hid (Below.refl _ _)
  have HBWD:Hid (Below w.heap.size w Wd):=Lib.hid (HBW2.out.trans (HBE.out.mono HBW2.out.size))
  have HDT:Hid (decide (sA=sA)=true):=Lib.hid (decide_eq_true rfl)
  clear hwd HXD HBD HSD
  go_upto_region 33 with fail
  refine wp_sch (.take 0 (.take 1 (.take 2 (.take 3 (.only 4 (.take 5 (.take 6 (.take 7 (.take 8 (.take 10 (.take 11 (.only 9 (.only 12 (.take 13 (.take 14 (.take 15 (.take 16 (.take 17 (.take 19 (.take 20 (.only 18 (.only 21 (.take 22 (.take 23 (.only 24 .done))))))))))))))))))))))))) 1000 (fun W2=>Below Wd.heap.size Wd W2) (by kernel_rfl) (by kernel_rfl) (by rw[<-hWd];exact HZ0.out) ?_
  rw[<-hWd]
  clear hWd
  refine wpSch_take rfl (.bool true) (fun _ _ _ _ h=>h) HZ0.out (by rfl) (fun W2 hW=>by go_simp) ?_
  simp only[Act.put,List.setIfInBounds_toArray,List.set_cons_zero,List.set_cons_succ]
  refine wpSch_take rfl (.bool true) (fun _ _ _ _ h=>h) HZ0.out (by rfl) (fun W2 hW=>by go_simp) ?_
  simp only[Act.put,List.setIfInBounds_toArray,List.set_cons_zero,List.set_cons_succ]
  refine wpSch_take rfl (.agg #[.slice aA sA.stories.length cA,.slice bA sA.tpls.length dA]) (fun _ _ _ _ h=>h) HZ0.out (by rfl) (fun W2 hW=>by exact exec_smid S_state _ rfl (by simp[Act.eval]) _ rfl (whole_cells ((hW.block _ (qh HXEA.out)).trans HXEA.out))) ?_
  simp only[Act.put,List.setIfInBounds_toArray,List.set_cons_zero,List.set_cons_succ]
  refine wpSch_take rfl (.agg #[.slice aA sA.stories.length cA,.slice bA sA.tpls.length dA]) (fun _ _ _ _ h=>h) HZ0.out (by rfl) (fun W2 hW=>by exact exec_smid S_state _ rfl (by simp[Act.eval]) _ rfl (whole_cells ((hW.block _ (qh HXEA.out)).trans HXEA.out))) ?_
  simp only[Act.put,List.setIfInBounds_toArray,List.set_cons_zero,List.set_cons_succ]
  refine wpSch_only rfl (fun K hK=>?_)
  rw[if_pos (by rfl)]
  go_simp
  refine(same_law (HTA.out) (HTA.out) _ (HSW.out.bel HZ0.out)).mono ?_
  rintro e wz1 ⟨rfl,hbz1⟩
  dsimp only
  have HZ1:Hid (Below Wd.heap.size Wd wz1):=Lib.hid (HZ0.out.trans (hbz1.mono HZ0.out.size))
  clear hbz1
  rw[HDT.out]
  refine hK _ _ HZ1.out ?_
  clear hK K
  refine wpSch_take rfl (.bool true) (fun _ _ _ _ h=>h) HZ1.out (by rfl) (fun W2 hW=>by go_simp) ?_
  simp only[Act.put,List.setIfInBounds_toArray,List.set_cons_zero,List.set_cons_succ]
  refine wpSch_take rfl (.bool true) (fun _ _ _ _ h=>h) HZ1.out (by rfl) (fun W2 hW=>by go_simp) ?_
  simp only[Act.put,List.setIfInBounds_toArray,List.set_cons_zero,List.set_cons_succ]
  refine wpSch_take rfl (.agg #[.slice aA sA.stories.length cA,.slice bA sA.tpls.length dA]) (fun _ _ _ _ h=>h) HZ1.out (by rfl) (fun W2 hW=>by exact exec_smid S_state _ rfl (by simp[Act.eval]) _ rfl (whole_cells ((hW.block _ (qh HXEA.out)).trans HXEA.out))) ?_
  simp only[Act.put,List.setIfInBounds_toArray,List.set_cons_zero,List.set_cons_succ]
  refine wpSch_take rfl (.agg #[.slice aB sB.stories.length cB,.slice bB sB.tpls.length dB]) (fun _ _ _ _ h=>h) HZ1.out (by rfl) (fun W2 hW=>by exact exec_smid S_state _ rfl (by simp[Act.eval]) _ rfl (whole_cells ((hW.block _ (qh HXEB.out)).trans HXEB.out))) ?_
  simp only[Act.put,List.setIfInBounds_toArray,List.set_cons_zero,List.set_cons_succ]
  refine wpSch_take rfl (.agg #[.slice aA sA.stories.length cA,.slice bA sA.tpls.length dA]) (fun _ _ _ _ h=>h) HZ1.out (by rfl) (fun W2 hW=>by exact exec_smid S_state _ rfl (by simp[Act.eval]) _ rfl (whole_cells ((hW.block _ (qh HXEA.out)).trans HXEA.out))) ?_
  simp only[Act.put,List.setIfInBounds_toArray,List.set_cons_zero,List.set_cons_succ]
  refine wpSch_take rfl (.agg #[.slice aB sB.stories.length cB,.slice bB sB.tpls.length dB]) (fun _ _ _ _ h=>h) HZ1.out (by rfl) (fun W2 hW=>by exact exec_smid S_state _ rfl (by simp[Act.eval]) _ rfl (whole_cells ((hW.block _ (qh HXEB.out)).trans HXEB.out))) ?_
  simp only[Act.put,List.setIfInBounds_toArray,List.set_cons_zero,List.set_cons_succ]
  refine wpSch_only rfl (fun K hK=>?_)
  rw[if_pos (by rfl)]
  go_simp
  refine(same_law (HTA.out) (HTB.out) _ (HSW.out.bel HZ1.out)).mono ?_
  rintro e wz2 ⟨rfl,hbz2⟩
  dsimp only
  have HZ2:Hid (Below Wd.heap.size Wd wz2):=Lib.hid (HZ1.out.trans (hbz2.mono HZ1.out.size))
  clear hbz2
  refine hK _ _ HZ2.out ?_
  clear hK K
  refine wpSch_only rfl (fun K hK=>?_)
  rw[if_pos (by rfl)]
  go_simp
  refine(sameR_law (HTA.out) (HTB.out) _ (HSW.out.bel HZ2.out)).mono ?_
  rintro e wz3 ⟨rfl,hbz3⟩
  dsimp only
  have HZ3:Hid (Below Wd.heap.size Wd wz3):=Lib.hid (HZ2.out.trans (hbz3.mono HZ2.out.size))
  clear hbz3
  refine hK _ _ HZ3.out ?_
  clear hK K
  generalize decide (sA=sB)=q1 at *
  refine wpSch_take rfl (.bool true) (fun _ _ _ _ h=>h) HZ3.out (by rfl) (fun W2 hW=>by cases q1 <;> go_simp) ?_
  simp only[Act.put,List.setIfInBounds_toArray,List.set_cons_zero,List.set_cons_succ]
  refine wpSch_take rfl (.bool true) (fun _ _ _ _ h=>h) HZ3.out (by rfl) (fun W2 hW=>by go_simp) ?_
  simp only[Act.put,List.setIfInBounds_toArray,List.set_cons_zero,List.set_cons_succ]
  refine wpSch_take rfl (.bool true) (fun _ _ _ _ h=>h) HZ3.out (by rfl) (fun W2 hW=>by go_simp) ?_
  simp only[Act.put,List.setIfInBounds_toArray,List.set_cons_zero,List.set_cons_succ]
  refine wpSch_take rfl (.agg #[.slice aA sA.stories.length cA,.slice bA sA.tpls.length dA]) (fun _ _ _ _ h=>h) HZ3.out (by rfl) (fun W2 hW=>by exact exec_smid S_state _ rfl (by simp[Act.eval]) _ rfl (whole_cells ((hW.block _ (qh HXEA.out)).trans HXEA.out))) ?_
  simp only[Act.put,List.setIfInBounds_toArray,List.set_cons_zero,List.set_cons_succ]
  refine wpSch_take rfl (.agg #[sv,tv]) (fun _ _ _ _ h=>h) HZ3.out (by rfl) (fun W2 hW=>by exact exec_smid S_state _ rfl (by simp[Act.eval]) _ rfl (whole_cells ((hW.block _ (qh HXE.out)).trans HXE.out))) ?_
  simp only[Act.put,List.setIfInBounds_toArray,List.set_cons_zero,List.set_cons_succ]
  refine wpSch_take rfl (.agg #[.slice aA sA.stories.length cA,.slice bA sA.tpls.length dA]) (fun _ _ _ _ h=>h) HZ3.out (by rfl) (fun W2 hW=>by exact exec_smid S_state _ rfl (by simp[Act.eval]) _ rfl (whole_cells ((hW.block _ (qh HXEA.out)).trans HXEA.out))) ?_
  simp only[Act.put,List.setIfInBounds_toArray,List.set_cons_zero,List.set_cons_succ]
  refine wpSch_take rfl (.agg #[sv,tv]) (fun _ _ _ _ h=>h) HZ3.out (by rfl) (fun W2 hW=>by exact exec_smid S_state _ rfl (by simp[Act.eval]) _ rfl (whole_cells ((hW.block _ (qh HXE.out)).trans HXE.out))) ?_
  simp only[Act.put,List.setIfInBounds_toArray,List.set_cons_zero,List.set_cons_succ]
  refine wpSch_only rfl (fun K hK=>?_)
  rw[if_pos (by rfl)]
  go_simp
  refine(same_law (HTA.out) (HTD.out) _ (HSW.out.bel HZ3.out)).mono ?_
  rintro e wz4 ⟨rfl,hbz4⟩
  dsimp only
  have HZ4:Hid (Below Wd.heap.size Wd wz4):=Lib.hid (HZ3.out.trans (hbz4.mono HZ3.out.size))
  clear hbz4
  refine hK _ _ HZ4.out ?_
  clear hK K
  refine wpSch_only rfl (fun K hK=>?_)
  rw[if_pos (by rfl)]
  go_simp
  refine(sameR_law (HTA.out) (HTD.out) _ (HSW.out.bel HZ4.out)).mono ?_
  rintro e wz5 ⟨rfl,hbz5⟩
  dsimp only
  have HZ5:Hid (Below Wd.heap.size Wd wz5):=Lib.hid (HZ4.out.trans (hbz5.mono HZ4.out.size))
  clear hbz5
  refine hK _ _ HZ5.out ?_
  clear hK K
  generalize decide (sA=s3)=q2 at *
  refine wpSch_take rfl (.bool true) (fun _ _ _ _ h=>h) HZ5.out (by rfl) (fun W2 hW=>by cases q2 <;> go_simp) ?_
  simp only[Act.put,List.setIfInBounds_toArray,List.set_cons_zero,List.set_cons_succ]
  refine wpSch_take rfl (.bool true) (fun _ _ _ _ h=>h) HZ5.out (by rfl) (fun W2 hW=>by go_simp) ?_
  simp only[Act.put,List.setIfInBounds_toArray,List.set_cons_zero,List.set_cons_succ]
  refine wpSch_only rfl (fun K hK=>?_)
  rw[if_pos (by rfl)]
  go_simp
  refine hK _ _ HZ5.out ?_
  clear hK K
  refine wpSch_done ?_
  go_wp2_with fail
  go_ret
  exact⟨rfl,HBWD.out.trans (HZ5.out.mono HBWD.out.size)⟩
 case first=>
  by_cases hn:0<sC.stories.length
  case neg=>
   have hn2:¬ ((0:Int)<sC.stories.length):=by omega
   go_wp2_with fail
   go_meet
   exact⟨(.slice aC sC.stories.length cC),(.slice bC sC.tpls.length dC),sC,HXC,Lib.hid (HSC.out.mono (fun p u e=>sees_bel HB3C.out p u e)),HB3C⟩
  obtain⟨sv0,tv0,hsv,hst0,htp0⟩:=HSC.out
  injection hsv with hsv
  have e1:(.slice aC sC.stories.length cC)=sv0:=by have:=congrArg (fun x=>x[0]?) hsv;simpa using this
  have e2:(.slice bC sC.tpls.length dC)=tv0:=by have:=congrArg (fun x=>x[1]?) hsv;simpa using this
  rw[<-e1]at hst0
  rw[<-e2]at htp0
  clear hsv e1 e2
  obtain⟨sa,sc,sb,so,scs,hsv,hcap,hsm,hsa,hvs,hcat⟩:=hst0.cells
  injection hsv with hsv1 hsv0 hsv2
  subst hsv1 hsv2
  clear hsv0
  have HTP0:=Lib.hid htp0
  have HVS:=Lib.hid hvs
  have HCAT:=Lib.hid hcat
  have hcl:=hvs.1
  obtain rfl:=hsa hn
  obtain⟨m,hm⟩:∃ m,sC.stories.length=m+1:=⟨sC.stories.length - 1,by omega⟩
  obtain⟨hyok,t0,e0,c0,hy1,hyp⟩:=hvs.2 m (by omega) (by omega)
  obtain⟨ta,tc,ea,ec,ca,cc,rfl,rfl,rfl⟩:=hyp.shape
  have HYC:Hid (∀ j,j<8->w3C.cell? ⟨sb,so+m * 8+j,none⟩=(styCells (sC.stories[m]'(by omega)) (.slice ta (sC.stories[m]'(by omega)).topics.length tc) (.slice ea (sC.stories[m]'(by omega)).eds.length ec) (.slice ca (sC.stories[m]'(by omega)).corr.length cc))[j]?):=Lib.hid (by
   have h1:=hcat m (by omega)
   rw[hy1]at h1
   exact cells_see (sz:=8) (mem:=fun p=>w2C.cell? p) (fun p u e=>sees_bel HB3C.out p u e) h1 rfl)
  have HYA:=Lib.hid (HAUC.out _ (List.getElem_mem (show m<sC.stories.length by omega)))
  have HYV:Hid (SyV (fun p=>w2C.cell? p) (sC.stories[m]'(by omega)) (styCells (sC.stories[m]'(by omega)) (.slice ta (sC.stories[m]'(by omega)).topics.length tc) (.slice ea (sC.stories[m]'(by omega)).eds.length ec) (.slice ca (sC.stories[m]'(by omega)).corr.length cc))):=Lib.hid ⟨hyok,_,_,_,rfl,hyp⟩
  have hc63:cC<=9223372036854775807:=by unfold maxLen at hsm;exact hsm
  have hmc:m+1<=cC:=by omega
  have hm40:m<=40:=by omega
  have HCL:Hid (scs.length=m+1):=Lib.hid (by rw[hcl,hm])
  have HGX:=HGDC.out _ (List.getElem_mem (show m<sC.stories.length by omega))
  have HTL:=Lib.hid HGX.tops
  have HCN:=Lib.hid HGX.ncor
  have HEN:=Lib.hid HGX.neds
  have HBN:Hid (∀ e∈(sC.stories[m]'(by omega)).eds,e.blocks.length<=100):=Lib.hid (fun e he=>(HGX.blks e he).1)
  have HONS:Hid (∀ c∈scs,c.size=8/\OneC c):=Lib.hid (hvs.ones (fun _ _ q=>q.one))
  clear HGX HGDC
  have HVT:Hid (VsM (SyV (fun p=>w2C.cell? p)) (sC.stories.take m) (scs.take m)):=Lib.hid (hvs.take m)
  generalize (sC.stories[m]'(by omega))=x at *
  generalize sC.stories.take m=tk at *
  rw[hm]at HXC k0
  rw[hm]
  clear hvs hcat hcl hsa hy1 hyp hyok htp0 hst0 hsm hcap hn hlen40 HVS HAUC HSC
  clear hm
  have hm63:(m:Int)+1<=41:=by omega
  go_upto_region 7 with (first
   |((with_reducible refine at_sload 34 _ rfl ?_);go_must (refine wpList_smid rfl S_sty _ rfl (by simp[Act.eval]) (styCells x (.slice ta x.topics.length tc) (.slice ea x.eds.length ec) (.slice ca x.corr.length cc)) rfl HYC.out ?_))
   |((with_reducible refine at_sstore 34 _ _ rfl ?_);go_must (refine wpList_snew rfl S_sty _ _ rfl rfl _ _ (styCells x (.slice ta x.topics.length tc) (.slice ea x.eds.length ec) (.slice ca x.corr.length cc)) (by simp[Act.eval]) (by simp[Act.eval]) rfl rfl (by simp[Value.oneCell']) ?_)))
  obtain⟨W5,hW5⟩:∃ W5,W5=w3C.alloc (.cells (styCells x (.slice ta x.topics.length tc) (.slice ea x.eds.length ec) (.slice ca x.corr.length cc)) 34):=⟨_,rfl⟩
  rw[<-hW5]
  have hXl:w2C.heap.size<w3C.heap.size:=qh HXC.out
  have HW5:Hid (SmW w2C w3C.heap.size (.slice (some ⟨sb,so,none⟩) (m+1) cC) (.slice bC sC.tpls.length dC) x (styCells x (.slice ta x.topics.length tc) (.slice ea x.eds.length ec) (.slice ca x.corr.length cc)) W5):=Lib.hid (by
   have b5:Below w3C.heap.size w3C W5:=by rw[hW5];exact bel1 _ _
   refine⟨by rw[hW5];exact World.alloc_heap_new _ _,HYV.out.mono (fun p u e=>memNo_of (sees_bel b5 p u (sees_bel HB3C.out p u e)) (fun q=>?_)),(b5.block _ hXl).trans HXC.out,HB3C.out.trans (b5.mono HB3C.out.size),hXl⟩
   have:=World.block_lt_of_cell? w2C p e
   rcases q with q | q <;> omega)
  generalize hX:w3C.heap.size=X at *
  clear hW5 k0 HYC HYV HXC HB3C hX
  obtain⟨p0,p1⟩:=pickF_lt (c:=field) (n:=8) (by omega)
  have cP:=Lib.hid (pick_any field 8 HFI.out (by omega) (by omega) W5)
  generalize pickF field 8=q at *
  go_wp2_with fail
  refine cP.out.mono ?_
  rintro e w5' ⟨rfl,rfl⟩
  clear cP
  have HP0:Hid (0<=q/\q<8):=Lib.hid ⟨p0,p1⟩
  clear p0 p1
  go_upto_block 0 with fail
  go_cut [12] from 13 to 143 (fun s12 wc=>∃ (y:StyF) (cs:Array Value),Hid (SmW w2C X (.slice (some ⟨sb,so,none⟩) (m+1) cC) (.slice bC sC.tpls.length dC) y cs wc))
  case rest=>
   obtain⟨y,cs,HWY⟩:=hcut
   obtain⟨ta2,tc2,ea2,ec2,ca2,cc2,rfl,_,_⟩:=HWY.out.open_
   obtain⟨Wd,hWd⟩:∃ Wd,Wd=wc.drew:=⟨_,rfl⟩
   have hwd:Below wc.heap.size wc Wd:=by rw[hWd];exact(Below.refl _ wc).drew
   have HWD:=Lib.hid (HWY.out.keep hwd)
   have HCD:=Lib.hid HWD.out.cb
   have HXD:=Lib.hid HWD.out.box
   have HBW9:=Lib.hid HWD.out.bel
   have HYV:=Lib.hid HWD.out.vv
   have HYO:=Lib.hid HWD.out.vv.one.2
   have HLOW:Hid (w2C.heap.size<Wd.heap.size):=Lib.hid (qh HCD.out)
   have HZ:Hid (Below Wd.heap.size Wd Wd):=Lib.hid (Below.refl _ _)
   have HTKL:Hid ((scs.take m).length<=40):=Lib.hid (by rw[List.length_take];omega)
   have HTON:Hid (∀ c∈scs.take m,c.size=8/\OneC c):=Lib.hid (HVT.out.ones (fun _ _ q=>q.one))
   have HRT:Hid (∀ W,Below Wd.heap.size Wd W->Reads W W.heap.size 8 (some ⟨sb,so,none⟩) (scs.take m).length ((scs.take m).flatMap Array.toList)):=Lib.hid (fun W hb=>reads_cells_take (M:=fun p=>w2C.cell? p) (fun p u e=>sees_bel hb p u (sees_bel HBW9.out p u e)) (by omega) (fun c hc=>(HONS.out c hc).1) (fun _=>rfl) HCAT.out m)
   have HUP:Hid (∀ W,(Instr.slice 24 (.slice (some ⟨sb,so,none⟩) (m+1) cC) none (some (.int .i64 (m:Int))) none).run Tryz.prog W=.ok (.slice (some ⟨sb,so,none⟩) (scs.take m).length cC) W):=Lib.hid (fun W=>by
    have:(scs.take m).length=m:=by rw[List.length_take,HCL.out];omega
    rw[this];exact run_row_upto E_sty elem_stys _ _ cC m (by omega) W)
   clear hwd HWY HWD
   go_upto_region 32 with fail
   refine wp_sch (.take 1 (.take 2 (.take 3 (.take 4 (.take 5 (.take 6 (.take 7 (.take 9 (.either 0 10 (.either 8 10 (.only 10 (.only 11 (.only 12 (.last 13 .done)))) (.only 8 (.only 11 (.only 12 (.last 13 .done))))) (.only 0 (.only 8 (.only 11 (.only 12 (.last 13 .done)))))))))))))) 13 (fun W2=>Below Wd.heap.size Wd W2) (by kernel_rfl) (by kernel_rfl) (by rw[<-hWd];exact HZ.out) ?_
   rw[<-hWd]
   clear hWd
   refine wpSch_take rfl (.pointer (some ⟨w2C.heap.size,0,none⟩)) (fun _ _ _ _ h=>h) HZ.out (by rfl) (fun W2 hW=>by go_simp) ?_
   simp only[Act.put,List.setIfInBounds_toArray,List.set_cons_zero,List.set_cons_succ]
   refine wpSch_take rfl (.slice (some ⟨sb,so,none⟩) (m+1) cC) (fun _ _ _ _ h=>h) HZ.out (by rfl) (fun W2 hW=>by have q0:W2.cell? ⟨w2C.heap.size,0,none⟩=some (.slice (some ⟨sb,so,none⟩) (m+1) cC):=rowcell ((hW.block _ (qh HCD.out)).trans HCD.out);go_simp) ?_
   simp only[Act.put,List.setIfInBounds_toArray,List.set_cons_zero,List.set_cons_succ]
   refine wpSch_take rfl (.pointer (some ⟨w2C.heap.size,0,none⟩)) (fun _ _ _ _ h=>h) HZ.out (by rfl) (fun W2 hW=>by go_simp) ?_
   simp only[Act.put,List.setIfInBounds_toArray,List.set_cons_zero,List.set_cons_succ]
   refine wpSch_take rfl (.slice (some ⟨sb,so,none⟩) (m+1) cC) (fun _ _ _ _ h=>h) HZ.out (by rfl) (fun W2 hW=>by have q0:W2.cell? ⟨w2C.heap.size,0,none⟩=some (.slice (some ⟨sb,so,none⟩) (m+1) cC):=rowcell ((hW.block _ (qh HCD.out)).trans HCD.out);go_simp) ?_
   simp only[Act.put,List.setIfInBounds_toArray,List.set_cons_zero,List.set_cons_succ]
   refine wpSch_take rfl (.int .i64 ((m:Int)+1)) (fun _ _ _ _ h=>h) HZ.out (by rfl) (fun W2 hW=>by go_simp) ?_
   simp only[Act.put,List.setIfInBounds_toArray,List.set_cons_zero,List.set_cons_succ]
   refine wpSch_take rfl (.int .i64 (m:Int)) (fun _ _ _ _ h=>h) HZ.out (by rfl) (fun W2 hW=>by have q0:IntKind.i64.wrap (m:Int)=m:=IntWalk.i64_in _ (by omega);go_simp) ?_
   simp only[Act.put,List.setIfInBounds_toArray,List.set_cons_zero,List.set_cons_succ]
   refine wpSch_take rfl (.slice (some ⟨sb,so,none⟩) (scs.take m).length cC) (fun _ _ _ _ h=>h) HZ.out (by rfl) (fun W2 hW=>by exact exec_slice_hi elem_stys rfl rfl rfl (HUP.out _)) ?_
   simp only[Act.put,List.setIfInBounds_toArray,List.set_cons_zero,List.set_cons_succ]
   refine wpSch_take rfl (.agg (styCells y (.slice ta2 y.topics.length tc2) (.slice ea2 y.eds.length ec2) (.slice ca2 y.corr.length cc2))) (fun _ _ _ _ h=>h) HZ.out (by rfl) (fun W2 hW=>by exact exec_smid S_sty _ rfl (by simp[Act.eval]) _ rfl (whole_cells ((hW.block _ (qh HXD.out)).trans HXD.out))) ?_
   simp only[Act.put,List.setIfInBounds_toArray,List.set_cons_zero,List.set_cons_succ]
   refine wpSch_either rfl rfl (fun K hK=>?_) (fun K hK=>?_)
   ·rw[if_pos (by rfl)]
    refine wp_empty_slice E_sty _ rfl rfl ?_
    obtain⟨We1,hWe⟩:∃ We,We=Wd.alloc (.cells #[] 34):=⟨_,rfl⟩
    obtain⟨ne1,hne⟩:∃ n,n=Wd.heap.size:=⟨_,rfl⟩
    have HRe1:Hid (GRow We1 Wd.heap.size 34 8 (.slice (some ⟨ne1,0,none⟩) 0 0) []):=Lib.hid (by rw[hWe,hne];exact GRow.empty Wd Wd.heap.size HZ.out.size (by decide))
    have HSe1:Hid (Below Wd.heap.size Wd We1):=Lib.hid (by rw[hWe];exact HZ.out.trans ((bel1 Wd _).mono HZ.out.size))
    have HLe1:Hid (Below Wd.heap.size Wd We1):=Lib.hid (by rw[hWe];exact bel1 Wd _)
    rw[<-hWe]
    rw[<-hne]
    clear hWe hne
    refine hK _ _ HSe1.out ?_
    clear hK K
    simp only[Act.put,List.setIfInBounds_toArray,List.set_cons_zero,List.set_cons_succ]
    refine wpSch_either rfl rfl (fun K hK=>?_) (fun K hK=>?_)
    ·rw[if_pos (by rfl)]
     have hnt:=HTKL.out
     refine wp_app_row E_sty _ _ rfl (by simp[Act.eval]) HRe1.out (some ⟨sb,so,none⟩) cC (scs.take m) HTON.out (by simp[Act.eval]) (HRT.out _ HSe1.out) (by rw[List.length_nil];omega) HSe1.out.size ?_
     intro va1 wa1 hr hg ho
     have HRa1:Hid (GRow wa1 Wd.heap.size 34 8 va1 (scs.take m)):=Lib.hid hr
     have HSa1:Hid (Below Wd.heap.size Wd wa1):=Lib.hid (HSe1.out.grown hg HSe1.out.size (fun j e=>(HRe1.out.ge j e).1))
     have HGa1:=Lib.hid hg
     obtain⟨aa1,ac1,hv⟩:=hr.shape
     obtain⟨an1,hn'⟩:∃ n,n=([]++scs.take m).length:=⟨_,rfl⟩
     rw[<-hn']at hv
     subst hv
     clear hr hg ho hn' hnt
     refine hK _ _ HSa1.out ?_
     clear hK K
     simp only[Act.put,List.setIfInBounds_toArray,List.set_cons_zero,List.set_cons_succ]
     refine wpSch_only rfl (fun K hK=>?_)
     rw[if_pos (by rfl)]
     refine wp_one_slice E_sty _ rfl (.agg (styCells y (.slice ta2 y.topics.length tc2) (.slice ea2 y.eds.length ec2) (.slice ca2 y.corr.length cc2))) rfl (by simp[Act.eval]) ?_
     have hcs:(Value.agg (styCells y (.slice ta2 y.topics.length tc2) (.slice ea2 y.eds.length ec2) (.slice ca2 y.corr.length cc2))).cells=(styCells y (.slice ta2 y.topics.length tc2) (.slice ea2 y.eds.length ec2) (.slice ca2 y.corr.length cc2)):=rfl
     rw[hcs]
     clear hcs
     obtain⟨Wo1,hWo⟩:∃ We,We=wa1.alloc (.cells (styCells y (.slice ta2 y.topics.length tc2) (.slice ea2 y.eds.length ec2) (.slice ca2 y.corr.length cc2)) 34):=⟨_,rfl⟩
     obtain⟨no1,hno⟩:∃ n,n=wa1.heap.size:=⟨_,rfl⟩
     have HOo1:Hid (Wo1.heap[no1]?=some (.cells (styCells y (.slice ta2 y.topics.length tc2) (.slice ea2 y.eds.length ec2) (.slice ca2 y.corr.length cc2)) 34 (0,0))):=Lib.hid (by rw[hWo,hno];exact World.alloc_heap_new _ _)
     have HSo1:Hid (Below Wd.heap.size Wd Wo1):=Lib.hid (by rw[hWo];exact HSa1.out.trans ((bel1 wa1 _).mono HSa1.out.size))
     have HLo1:Hid (Below wa1.heap.size wa1 Wo1):=Lib.hid (by rw[hWo];exact bel1 wa1 _)
     have HNo1:Hid (Wd.heap.size<=no1):=Lib.hid (by rw[hno];exact HSa1.out.size)
     rw[<-hWo]
     rw[<-hno]
     clear hWo hno
     refine hK _ _ HSo1.out ?_
     clear hK K
     simp only[Act.put,List.setIfInBounds_toArray,List.set_cons_zero,List.set_cons_succ]
     refine wpSch_only rfl (fun K hK=>?_)
     rw[if_pos (by rfl)]
     have hnt:=HTKL.out
     refine wp_app_one E_sty _ _ rfl (by simp[Act.eval]) (HRa1.out.bel HLo1.out) (styCells y (.slice ta2 y.topics.length tc2) (.slice ea2 y.eds.length ec2) (.slice ca2 y.corr.length cc2)) rfl HYO.out no1 1 (by simp[Act.eval]) HOo1.out (by omega) HSo1.out.size ?_
     intro vb wb hr hg ho
     have HRb:=Lib.hid hr
     have HSb:Hid (Below Wd.heap.size Wd wb):=Lib.hid (HSo1.out.grown hg HSo1.out.size (fun j e=>((HRa1.out.bel HLo1.out).ge j e).1))
     obtain⟨ab,cb,hv⟩:=hr.shape
     obtain⟨nb,hn'⟩:∃ n,n=(scs.take m++[(styCells y (.slice ta2 y.topics.length tc2) (.slice ea2 y.eds.length ec2) (.slice ca2 y.corr.length cc2))]).length:=⟨_,rfl⟩
     rw[<-hn']at hv
     subst hv
     clear hr hg ho hn' hnt
     refine hK _ _ HSb.out ?_
     clear hK K
     simp only[Act.put,List.setIfInBounds_toArray,List.set_cons_zero,List.set_cons_succ]
     refine wpSch_only rfl (fun K hK=>?_)
     rw[if_pos (by rfl)]
     go_simp
     refine hK _ _ HSb.out ?_
     clear hK K
     refine wpSch_last rfl (fun K hK=>?_)
     rw[if_pos (by rfl)]
     have HCB:=Lib.hid ((HSb.out.block _ (qh HCD.out)).trans HCD.out)
     have kb:wb.cell? ⟨w2C.heap.size,0,none⟩=some (.slice (some ⟨sb,so,none⟩) (m+1) cC):=rowcell HCB.out
     have zb:wb.frozen? ⟨w2C.heap.size,0,none⟩=false:=rowfree HCB.out
     go_simp
     refine hK _ _ ?_
     clear hK K kb zb
     refine wpSch_done ?_
     go_wp2_with fail
     go_meet
     have hub:=upd_cell wb w2C.heap.size 0 (.slice ab nb cb)
     have hvb:StysM (memNo wb (fun k=>k=w2C.heap.size)) (.slice ab nb cb) (tk++[y]):=GRow.stys HRb.out ((HVT.out.mono (fun _ _ q=>q.mono (fun p u e=>memNo_of (sees_bel HSb.out p u (sees_bel HBW9.out p u e)) (fun q2=>by have:=World.block_lt_of_cell? w2C p e;have q3:p.block=w2C.heap.size:=q2;omega)))).app (VsM.one (HYV.out.mono (fun p u e=>by
      obtain⟨q1,q2⟩:=memNo_get e
      exact memNo_of (sees_bel HSb.out p u q1) (fun q=>q2 (.inl q)))))) (fun b t u e hc=>memNo_of hc (fun q=>by
       have h1:=(HRb.out.ge b e).1
       have h2:=HLOW.out
       have q3:b=w2C.heap.size:=q
       omega))
     exact⟨.slice ab nb cb,(.slice bC sC.tpls.length dC),⟨tk++[y],sC.tpls⟩,Lib.hid (blk_set HCB.out),Lib.hid ⟨_,_,rfl,hvb.mono (fun p u e=>memNo_sees _ _ p u (memNo_upd (F:=fun k=>k=w2C.heap.size) hub (fun k _ e=>e) p u e)),HTP0.out.mono (fun p u e=>by
      have h1:=World.block_lt_of_cell? w2C p e
      exact hub.cell_some (sees_bel HSb.out p u (sees_bel HBW9.out p u e)) (fun q=>by have q3:p.block=w2C.heap.size:=q;omega))⟩,Lib.hid ((HBW9.out.trans (HSb.out.mono HBW9.out.size)).setCell (Nat.le_refl _) _)⟩
    ·rw[if_pos (by rfl)]
     refine wp_one_slice E_sty _ rfl (.agg (styCells y (.slice ta2 y.topics.length tc2) (.slice ea2 y.eds.length ec2) (.slice ca2 y.corr.length cc2))) rfl (by simp[Act.eval]) ?_
     have hcs:(Value.agg (styCells y (.slice ta2 y.topics.length tc2) (.slice ea2 y.eds.length ec2) (.slice ca2 y.corr.length cc2))).cells=(styCells y (.slice ta2 y.topics.length tc2) (.slice ea2 y.eds.length ec2) (.slice ca2 y.corr.length cc2)):=rfl
     rw[hcs]
     clear hcs
     obtain⟨Wo1,hWo⟩:∃ We,We=We1.alloc (.cells (styCells y (.slice ta2 y.topics.length tc2) (.slice ea2 y.eds.length ec2) (.slice ca2 y.corr.length cc2)) 34):=⟨_,rfl⟩
     obtain⟨no1,hno⟩:∃ n,n=We1.heap.size:=⟨_,rfl⟩
     have HOo1:Hid (Wo1.heap[no1]?=some (.cells (styCells y (.slice ta2 y.topics.length tc2) (.slice ea2 y.eds.length ec2) (.slice ca2 y.corr.length cc2)) 34 (0,0))):=Lib.hid (by rw[hWo,hno];exact World.alloc_heap_new _ _)
     have HSo1:Hid (Below Wd.heap.size Wd Wo1):=Lib.hid (by rw[hWo];exact HSe1.out.trans ((bel1 We1 _).mono HSe1.out.size))
     have HLo1:Hid (Below We1.heap.size We1 Wo1):=Lib.hid (by rw[hWo];exact bel1 We1 _)
     have HNo1:Hid (Wd.heap.size<=no1):=Lib.hid (by rw[hno];exact HSe1.out.size)
     rw[<-hWo]
     rw[<-hno]
     have HNOE:Hid (We1.heap.size<=no1):=Lib.hid (by rw[hno];exact Nat.le_refl _)
     clear hWo hno
     refine hK _ _ HSo1.out ?_
     clear hK K
     simp only[Act.put,List.setIfInBounds_toArray,List.set_cons_zero,List.set_cons_succ]
     refine wpSch_only rfl (fun K hK=>?_)
     rw[if_pos (by rfl)]
     have hnt:=HTKL.out
     refine wp_app_row E_sty _ _ rfl (by simp[Act.eval]) (HRe1.out.bel HLo1.out) (some ⟨sb,so,none⟩) cC (scs.take m) HTON.out (by simp[Act.eval]) (HRT.out _ HSo1.out) (by rw[List.length_nil];omega) HSo1.out.size ?_
     intro va1 wa1 hr hg ho
     have HRa1:Hid (GRow wa1 Wd.heap.size 34 8 va1 (scs.take m)):=Lib.hid hr
     have HSa1:Hid (Below Wd.heap.size Wd wa1):=Lib.hid (HSo1.out.grown hg HSo1.out.size (fun j e=>((HRe1.out.bel HLo1.out).ge j e).1))
     have HGa1:=Lib.hid hg
     obtain⟨aa1,ac1,hv⟩:=hr.shape
     obtain⟨an1,hn'⟩:∃ n,n=([]++scs.take m).length:=⟨_,rfl⟩
     rw[<-hn']at hv
     subst hv
     clear hr hg ho hn' hnt
     refine hK _ _ HSa1.out ?_
     clear hK K
     simp only[Act.put,List.setIfInBounds_toArray,List.set_cons_zero,List.set_cons_succ]
     have HOx:Hid (wa1.heap[no1]?=some (.cells (styCells y (.slice ta2 y.topics.length tc2) (.slice ea2 y.eds.length ec2) (.slice ca2 y.corr.length cc2)) 34 (0,0))):=Lib.hid ((HGa1.out.block _ (qh HOo1.out) (fun q=>by
      have:=(HRe1.out.ge _ q.symm).2
      have h2:=HNOE.out
      omega)).trans HOo1.out)
     refine wpSch_only rfl (fun K hK=>?_)
     rw[if_pos (by rfl)]
     have hnt:=HTKL.out
     refine wp_app_one E_sty _ _ rfl (by simp[Act.eval]) HRa1.out (styCells y (.slice ta2 y.topics.length tc2) (.slice ea2 y.eds.length ec2) (.slice ca2 y.corr.length cc2)) rfl HYO.out no1 1 (by simp[Act.eval]) HOx.out (by omega) HSa1.out.size ?_
     intro vb wb hr hg ho
     have HRb:=Lib.hid hr
     have HSb:Hid (Below Wd.heap.size Wd wb):=Lib.hid (HSa1.out.grown hg HSa1.out.size (fun j e=>(HRa1.out.ge j e).1))
     obtain⟨ab,cb,hv⟩:=hr.shape
     obtain⟨nb,hn'⟩:∃ n,n=(scs.take m++[(styCells y (.slice ta2 y.topics.length tc2) (.slice ea2 y.eds.length ec2) (.slice ca2 y.corr.length cc2))]).length:=⟨_,rfl⟩
     rw[<-hn']at hv
     subst hv
     clear hr hg ho hn' hnt
     refine hK _ _ HSb.out ?_
     clear hK K
     simp only[Act.put,List.setIfInBounds_toArray,List.set_cons_zero,List.set_cons_succ]
     refine wpSch_only rfl (fun K hK=>?_)
     rw[if_pos (by rfl)]
     go_simp
     refine hK _ _ HSb.out ?_
     clear hK K
     refine wpSch_last rfl (fun K hK=>?_)
     rw[if_pos (by rfl)]
     have HCB:=Lib.hid ((HSb.out.block _ (qh HCD.out)).trans HCD.out)
     have kb:wb.cell? ⟨w2C.heap.size,0,none⟩=some (.slice (some ⟨sb,so,none⟩) (m+1) cC):=rowcell HCB.out
     have zb:wb.frozen? ⟨w2C.heap.size,0,none⟩=false:=rowfree HCB.out
     go_simp
     refine hK _ _ ?_
     clear hK K kb zb
     refine wpSch_done ?_
     go_wp2_with fail
     go_meet
     have hub:=upd_cell wb w2C.heap.size 0 (.slice ab nb cb)
     have hvb:StysM (memNo wb (fun k=>k=w2C.heap.size)) (.slice ab nb cb) (tk++[y]):=GRow.stys HRb.out ((HVT.out.mono (fun _ _ q=>q.mono (fun p u e=>memNo_of (sees_bel HSb.out p u (sees_bel HBW9.out p u e)) (fun q2=>by have:=World.block_lt_of_cell? w2C p e;have q3:p.block=w2C.heap.size:=q2;omega)))).app (VsM.one (HYV.out.mono (fun p u e=>by
      obtain⟨q1,q2⟩:=memNo_get e
      exact memNo_of (sees_bel HSb.out p u q1) (fun q=>q2 (.inl q)))))) (fun b t u e hc=>memNo_of hc (fun q=>by
       have h1:=(HRb.out.ge b e).1
       have h2:=HLOW.out
       have q3:b=w2C.heap.size:=q
       omega))
     exact⟨.slice ab nb cb,(.slice bC sC.tpls.length dC),⟨tk++[y],sC.tpls⟩,Lib.hid (blk_set HCB.out),Lib.hid ⟨_,_,rfl,hvb.mono (fun p u e=>memNo_sees _ _ p u (memNo_upd (F:=fun k=>k=w2C.heap.size) hub (fun k _ e=>e) p u e)),HTP0.out.mono (fun p u e=>by
      have h1:=World.block_lt_of_cell? w2C p e
      exact hub.cell_some (sees_bel HSb.out p u (sees_bel HBW9.out p u e)) (fun q=>by have q3:p.block=w2C.heap.size:=q;omega))⟩,Lib.hid ((HBW9.out.trans (HSb.out.mono HBW9.out.size)).setCell (Nat.le_refl _) _)⟩
   ·rw[if_pos (by rfl)]
    refine wp_one_slice E_sty _ rfl (.agg (styCells y (.slice ta2 y.topics.length tc2) (.slice ea2 y.eds.length ec2) (.slice ca2 y.corr.length cc2))) rfl (by simp[Act.eval]) ?_
    have hcs:(Value.agg (styCells y (.slice ta2 y.topics.length tc2) (.slice ea2 y.eds.length ec2) (.slice ca2 y.corr.length cc2))).cells=(styCells y (.slice ta2 y.topics.length tc2) (.slice ea2 y.eds.length ec2) (.slice ca2 y.corr.length cc2)):=rfl
    rw[hcs]
    clear hcs
    obtain⟨Wo1,hWo⟩:∃ We,We=Wd.alloc (.cells (styCells y (.slice ta2 y.topics.length tc2) (.slice ea2 y.eds.length ec2) (.slice ca2 y.corr.length cc2)) 34):=⟨_,rfl⟩
    obtain⟨no1,hno⟩:∃ n,n=Wd.heap.size:=⟨_,rfl⟩
    have HOo1:Hid (Wo1.heap[no1]?=some (.cells (styCells y (.slice ta2 y.topics.length tc2) (.slice ea2 y.eds.length ec2) (.slice ca2 y.corr.length cc2)) 34 (0,0))):=Lib.hid (by rw[hWo,hno];exact World.alloc_heap_new _ _)
    have HSo1:Hid (Below Wd.heap.size Wd Wo1):=Lib.hid (by rw[hWo];exact HZ.out.trans ((bel1 Wd _).mono HZ.out.size))
    have HLo1:Hid (Below Wd.heap.size Wd Wo1):=Lib.hid (by rw[hWo];exact bel1 Wd _)
    have HNo1:Hid (Wd.heap.size<=no1):=Lib.hid (by rw[hno];exact HZ.out.size)
    rw[<-hWo]
    rw[<-hno]
    clear hWo hno
    refine hK _ _ HSo1.out ?_
    clear hK K
    simp only[Act.put,List.setIfInBounds_toArray,List.set_cons_zero,List.set_cons_succ]
    refine wpSch_only rfl (fun K hK=>?_)
    rw[if_pos (by rfl)]
    refine wp_empty_slice E_sty _ rfl rfl ?_
    obtain⟨We1,hWe⟩:∃ We,We=Wo1.alloc (.cells #[] 34):=⟨_,rfl⟩
    obtain⟨ne1,hne⟩:∃ n,n=Wo1.heap.size:=⟨_,rfl⟩
    have HRe1:Hid (GRow We1 Wd.heap.size 34 8 (.slice (some ⟨ne1,0,none⟩) 0 0) []):=Lib.hid (by rw[hWe,hne];exact GRow.empty Wo1 Wd.heap.size HSo1.out.size (by decide))
    have HSe1:Hid (Below Wd.heap.size Wd We1):=Lib.hid (by rw[hWe];exact HSo1.out.trans ((bel1 Wo1 _).mono HSo1.out.size))
    have HLe1:Hid (Below Wo1.heap.size Wo1 We1):=Lib.hid (by rw[hWe];exact bel1 Wo1 _)
    have HNOL:Hid (no1<We1.heap.size):=Lib.hid (Nat.lt_of_lt_of_le (qh HOo1.out) HLe1.out.size)
    have HNEQ:Hid (no1<ne1):=Lib.hid (by rw[hne];exact qh HOo1.out)
    rw[<-hWe]
    rw[<-hne]
    clear hWe hne
    refine hK _ _ HSe1.out ?_
    clear hK K
    simp only[Act.put,List.setIfInBounds_toArray,List.set_cons_zero,List.set_cons_succ]
    refine wpSch_only rfl (fun K hK=>?_)
    rw[if_pos (by rfl)]
    have hnt:=HTKL.out
    refine wp_app_row E_sty _ _ rfl (by simp[Act.eval]) HRe1.out (some ⟨sb,so,none⟩) cC (scs.take m) HTON.out (by simp[Act.eval]) (HRT.out _ HSe1.out) (by rw[List.length_nil];omega) HSe1.out.size ?_
    intro va1 wa1 hr hg ho
    have HRa1:Hid (GRow wa1 Wd.heap.size 34 8 va1 (scs.take m)):=Lib.hid hr
    have HSa1:Hid (Below Wd.heap.size Wd wa1):=Lib.hid (HSe1.out.grown hg HSe1.out.size (fun j e=>(HRe1.out.ge j e).1))
    have HGa1:=Lib.hid hg
    obtain⟨aa1,ac1,hv⟩:=hr.shape
    obtain⟨an1,hn'⟩:∃ n,n=([]++scs.take m).length:=⟨_,rfl⟩
    rw[<-hn']at hv
    subst hv
    clear hr hg ho hn' hnt
    refine hK _ _ HSa1.out ?_
    clear hK K
    simp only[Act.put,List.setIfInBounds_toArray,List.set_cons_zero,List.set_cons_succ]
    have HOx:Hid (wa1.heap[no1]?=some (.cells (styCells y (.slice ta2 y.topics.length tc2) (.slice ea2 y.eds.length ec2) (.slice ca2 y.corr.length cc2)) 34 (0,0))):=Lib.hid ((HGa1.out.block _ HNOL.out (fun q=>by
     have h1:some ne1=some no1:=q.symm
     injection h1 with h1
     have h2:=HNEQ.out
     omega)).trans ((HLe1.out.block _ (qh HOo1.out)).trans HOo1.out))
    refine wpSch_only rfl (fun K hK=>?_)
    rw[if_pos (by rfl)]
    have hnt:=HTKL.out
    refine wp_app_one E_sty _ _ rfl (by simp[Act.eval]) HRa1.out (styCells y (.slice ta2 y.topics.length tc2) (.slice ea2 y.eds.length ec2) (.slice ca2 y.corr.length cc2)) rfl HYO.out no1 1 (by simp[Act.eval]) HOx.out (by omega) HSa1.out.size ?_
    intro vb wb hr hg ho
    have HRb:=Lib.hid hr
    have HSb:Hid (Below Wd.heap.size Wd wb):=Lib.hid (HSa1.out.grown hg HSa1.out.size (fun j e=>(HRa1.out.ge j e).1))
    obtain⟨ab,cb,hv⟩:=hr.shape
    obtain⟨nb,hn'⟩:∃ n,n=(scs.take m++[(styCells y (.slice ta2 y.topics.length tc2) (.slice ea2 y.eds.length ec2) (.slice ca2 y.corr.length cc2))]).length:=⟨_,rfl⟩
    rw[<-hn']at hv
    subst hv
    clear hr hg ho hn' hnt
    refine hK _ _ HSb.out ?_
    clear hK K
    simp only[Act.put,List.setIfInBounds_toArray,List.set_cons_zero,List.set_cons_succ]
    refine wpSch_only rfl (fun K hK=>?_)
    rw[if_pos (by rfl)]
    go_simp
    refine hK _ _ HSb.out ?_
    clear hK K
    refine wpSch_last rfl (fun K hK=>?_)
    rw[if_pos (by rfl)]
    have HCB:=Lib.hid ((HSb.out.block _ (qh HCD.out)).trans HCD.out)
    have kb:wb.cell? ⟨w2C.heap.size,0,none⟩=some (.slice (some ⟨sb,so,none⟩) (m+1) cC):=rowcell HCB.out
    have zb:wb.frozen? ⟨w2C.heap.size,0,none⟩=false:=rowfree HCB.out
    go_simp
    refine hK _ _ ?_
    clear hK K kb zb
    refine wpSch_done ?_
    go_wp2_with fail
    go_meet
    have hub:=upd_cell wb w2C.heap.size 0 (.slice ab nb cb)
    have hvb:StysM (memNo wb (fun k=>k=w2C.heap.size)) (.slice ab nb cb) (tk++[y]):=GRow.stys HRb.out ((HVT.out.mono (fun _ _ q=>q.mono (fun p u e=>memNo_of (sees_bel HSb.out p u (sees_bel HBW9.out p u e)) (fun q2=>by have:=World.block_lt_of_cell? w2C p e;have q3:p.block=w2C.heap.size:=q2;omega)))).app (VsM.one (HYV.out.mono (fun p u e=>by
     obtain⟨q1,q2⟩:=memNo_get e
     exact memNo_of (sees_bel HSb.out p u q1) (fun q=>q2 (.inl q)))))) (fun b t u e hc=>memNo_of hc (fun q=>by
      have h1:=(HRb.out.ge b e).1
      have h2:=HLOW.out
      have q3:b=w2C.heap.size:=q
      omega))
    exact⟨.slice ab nb cb,(.slice bC sC.tpls.length dC),⟨tk++[y],sC.tpls⟩,Lib.hid (blk_set HCB.out),Lib.hid ⟨_,_,rfl,hvb.mono (fun p u e=>memNo_sees _ _ p u (memNo_upd (F:=fun k=>k=w2C.heap.size) hub (fun k _ e=>e) p u e)),HTP0.out.mono (fun p u e=>by
     have h1:=World.block_lt_of_cell? w2C p e
     exact hub.cell_some (sees_bel HSb.out p u (sees_bel HBW9.out p u e)) (fun q=>by have q3:p.block=w2C.heap.size:=q;omega))⟩,Lib.hid ((HBW9.out.trans (HSb.out.mono HBW9.out.size)).setCell (Nat.le_refl _) _)⟩
  case first=>
   obtain⟨hyok,tv1,ev1,cv1,hyc,hyp⟩:=HW5.out.vv
   injection hyc with hyc
   injection hyc with _ hyc
   injection hyc with _ hyc
   injection hyc with hyc1 hyc
   injection hyc with hyc2 hyc
   injection hyc with _ hyc
   injection hyc with hyc3 hyc
   subst hyc1 hyc2 hyc3
   clear hyc
   have HYK:=Lib.hid hyok
   have HYP:=Lib.hid hyp
   have hya:=HYA.out
   clear hyok hyp
   rcases (show q=0\/q=1\/q=2\/q=3\/q=4\/q=5\/q=6\/q=7 by have:=HP0.out;omega) with rfl | rfl | rfl | rfl | rfl | rfl | rfl | rfl
   all_goals clear HP0
   ·have k1:W5.cell? ⟨X,1,none⟩=some (.string x.author):=rowcell HW5.out.box
    have z1:W5.frozen? ⟨X,1,none⟩=false:=rowfree HW5.out.box
    have HN:=Lib.hid (HW5.out.set 1 (.string (x.author++⟨#[120]⟩)) (y:={ x with author:=x.author++⟨#[120]⟩ }) ⟨⟨HYK.out.i0,(by show (x.author++(⟨#[120]⟩:ByteArray)).size<=maxLen;rw[ByteArray.size_append];show x.author.size+1<=maxLen;unfold maxLen;omega),HYK.out.i4⟩,.slice ta x.topics.length tc,.slice ea x.eds.length ec,.slice ca x.corr.length cc,rfl,HYP.out⟩)
    go_wp2_with fail
    go_meet
    exact⟨_,_,HN⟩
   ·have k2:W5.cell? ⟨X,2,none⟩=some (.slice ta x.topics.length tc):=rowcell HW5.out.box
    have z2:W5.frozen? ⟨X,2,none⟩=false:=rowfree HW5.out.box
    have hlX:X<W5.heap.size:=qh HW5.out.box
    have HTZ:=Lib.hid (HYP.out.1.choose_spec.choose_spec.2.1)
    have HRT:Hid (Reads (W5.alloc (.cells #[] 9)) (W5.alloc (.cells #[] 9)).heap.size 1 ta (x.topics.map fun x=>(#[.string x]:Array Value)).length ((x.topics.map fun x=>(#[.string x]:Array Value)).flatMap Array.toList)):=Lib.hid (reads_topics (cap:=tc) HYP.out.1 ((memNo_sees W5 _).bel (bel1 W5 _)))
    have htl:=HTL.out
    have HML:Hid ((x.topics.map fun x=>(#[.string x]:Array Value)).length+1<=100000):=Lib.hid (by rw[map_str_len];omega)
    go_wp2_with (first
     |((with_reducible refine at_sslice 30 _ _ rfl ?_);(refine wpList_empty_slice rfl E_str _ rfl rfl ?_))
     |((with_reducible refine at_sappend _ _ 30 rfl ?_);(refine wpList_app_row rfl E_str _ _ rfl (by simp[Act.eval]) (GRow.empty W5 W5.heap.size (Nat.le_refl _) (by decide)) ta tc (x.topics.map fun x=>#[.string x]) (strs_1 x.topics) ?h1 ?h2 ?h3 ?h4 ?_);go_must (case h1=>(rw[map_str_len];simp[Act.eval]));go_must (case h2=>exact HRT.out);go_must (case h3=>(rw[map_str_len,List.length_nil];omega));go_must (case h4=>(rw[World.size_alloc];omega));go_must (intro v7 w7 hr7 hg7 ho7;have hb7:Below W5.heap.size W5 w7:=(bel1 W5 _).grown hg7 (by rw[World.size_alloc];omega) (fun _ e=>own_le e);have HB7:=Lib.hid hb7;have HR7:Hid (GRow w7 W5.heap.size 9 1 v7 (x.topics.map fun x=>(#[.string x]:Array Value))):=Lib.hid hr7;have hz7:=hb7.size;clear hr7 hg7 ho7 hb7))
     |((with_reducible refine at_sappend _ _ 30 rfl ?_);go_must (refine wpList_app_one rfl E_str _ _ rfl (by simp[Act.eval]) (HR7.out.bel (bel1 w7 _)) #[.string ⟨#[120]⟩] rfl one_x w7.heap.size 1 (by simp[Act.eval]) (World.alloc_heap_new _ _) HML.out (by rw[World.size_alloc];omega) ?_);go_must (intro v8 w8 hr8 hg8 ho8;have hb8:Below W5.heap.size W5 w8:=(HB7.out.trans ((bel1 w7 _).mono HB7.out.size)).grown hg8 (by rw[World.size_alloc];omega) (fun j e=>(HR7.out.ge j e).1);obtain⟨a8,c8,hv8⟩:=hr8.shape;obtain⟨n8,hn8⟩:∃ n8,n8=(x.topics.map (fun x=>(#[.string x]:Array Value))++[(#[Value.string (⟨#[120]⟩:ByteArray)]:Array Value)]).length:=⟨_,rfl⟩;rw[<-hn8]at hv8;subst hv8;have HR8:=Lib.hid hr8;have HB8:=Lib.hid hb8;have k9:w8.cell? ⟨X,2,none⟩=some (.slice ta x.topics.length tc):=rowcell (HW5.out.keep hb8).box;have z9:w8.frozen? ⟨X,2,none⟩=false:=rowfree (HW5.out.keep hb8).box;clear hr8 hg8 ho8 hb8 hn8)))
    have HN8:Hid (StrsM (memNo w8 (SmF w2C.heap.size X)) (.slice a8 n8 c8) (x.topics++[(⟨#[120]⟩:ByteArray)])):=Lib.hid (by
     have h1:LRow w8 W5.heap.size (.slice a8 n8 c8) (x.topics++[(⟨#[120]⟩:ByteArray)]):=by
      have:=HR8.out
      rw[show x.topics.map (fun x=>(#[.string x]:Array Value))++[(#[Value.string (⟨#[120]⟩:ByteArray)]:Array Value)]=(x.topics++[(⟨#[120]⟩:ByteArray)]).map (fun x=>(#[.string x]:Array Value)) by rw[List.map_append];rfl]at this
      exact this
     refine(lrow_strs (F:=fun k=>k<W5.heap.size) h1 (fun s hs=>?_) (fun j hj (q:j<W5.heap.size)=>by have:=(GRow.ge h1 j hj).1;omega)).mono (memNo_fr fun j q=>?_)
     ·rcases List.mem_append.1 hs with hs | hs
      ·exact HTZ.out s hs
      ·rw[List.mem_singleton.1 hs];show 1<=maxLen;unfold maxLen;omega
     ·show j<W5.heap.size
      have:=HW5.out.low
      rcases q with q | q <;> omega)
    have HN:=Lib.hid ((HW5.out.keep HB8.out).set 2 (.slice a8 n8 c8) (y:={ x with topics:=x.topics++[(⟨#[120]⟩:ByteArray)] }) ⟨⟨HYK.out.i0,HYK.out.s1,HYK.out.i4⟩,.slice a8 n8 c8,.slice ea x.eds.length ec,.slice ca x.corr.length cc,rfl,HN8.out,HYP.out.2.1.mono (memNo_bel HB8.out),HYP.out.2.2.mono (memNo_bel HB8.out)⟩)
    go_wp2_with fail
    go_meet
    exact⟨_,_,HN⟩
   ·have k6:W5.cell? ⟨X,6,none⟩=some (.bool x.retr):=rowcell HW5.out.box
    have z6:W5.frozen? ⟨X,6,none⟩=false:=rowfree HW5.out.box
    have HN:=Lib.hid (HW5.out.set 6 (.bool (!x.retr)) (y:={ x with retr:=!x.retr }) ⟨⟨HYK.out.i0,HYK.out.s1,HYK.out.i4⟩,.slice ta x.topics.length tc,.slice ea x.eds.length ec,.slice ca x.corr.length cc,rfl,HYP.out⟩)
    go_wp2_with fail
    go_meet
    exact⟨_,_,HN⟩
   ·have k5:W5.cell? ⟨X,5,none⟩=some (.slice ca x.corr.length cc):=rowcell HW5.out.box
    have z5:W5.frozen? ⟨X,5,none⟩=false:=rowfree HW5.out.box
    have hlX:X<W5.heap.size:=qh HW5.out.box
    obtain⟨ca2,cc2,cb,co,ccs,hcv,hccap,hcm,hca,hcvs,hcca⟩:=HYP.out.2.2.cells
    injection hcv with hcv1 hcv0 hcv2
    subst hcv1 hcv2
    clear hcv0
    have HCV:=Lib.hid hcvs
    have hccl:=hcvs.1
    have HRT:Hid (Reads (W5.alloc (.cells #[] 69)) (W5.alloc (.cells #[] 69)).heap.size 5 ca ccs.length (ccs.flatMap Array.toList)):=Lib.hid (reads_cells ((memNo_sees W5 _).bel (bel1 W5 _)) (by omega) (fun c hc=>(hcvs.ones (fun _ _ q=>q.one) c hc).1) (fun h=>hca (by omega)) hcca)
    have HCO:=Lib.hid (hcvs.ones (sz:=5) (fun _ _ q=>q.one))
    have htl:=HCN.out
    have HCLE:=Lib.hid hccl
    clear hcvs hcca hca hcm hccap
    go_wp2_with (first
     |((with_reducible refine at_sslice 32 _ _ rfl ?_);(refine wpList_empty_slice rfl E_corr _ rfl rfl ?_))
     |((with_reducible refine at_sbuild 69 _ rfl ?_);go_must (refine wpList_buildTo rfl 69 _ rfl _ rfl _ (by simp[Act.eval,Act.put];with_reducible exact built_cz) ?_))
     |((with_reducible refine at_sslice 32 _ _ rfl ?_);go_must (refine wpList_one_slice rfl E_corr _ rfl (.agg (corrCells ⟨str0,0,0,str0,0⟩)) rfl (by simp[Act.eval,Act.put]) ?_))
     |((with_reducible refine at_sappend _ _ 32 rfl ?_);(refine wpList_app_row rfl E_corr _ _ rfl (by simp[Act.eval]) (GRow.empty W5 W5.heap.size (Nat.le_refl _) (by decide)) ca cc ccs HCO.out ?h1 ?h2 ?h3 ?h4 ?_);go_must (case h1=>(simp[Act.eval,HCLE.out]));go_must (case h2=>exact HRT.out);go_must (case h3=>(rw[List.length_nil];omega));go_must (case h4=>(rw[World.size_alloc];omega));go_must (intro v7 w7 hr7 hg7 ho7;have hb7:Below W5.heap.size W5 w7:=(bel1 W5 _).grown hg7 (by rw[World.size_alloc];omega) (fun _ e=>own_le e);have HB7:=Lib.hid hb7;have HR7:Hid (GRow w7 W5.heap.size 69 5 v7 ccs):=Lib.hid hr7;have hz7:=hb7.size;clear hr7 hg7 ho7 hb7))
     |((with_reducible refine at_sappend _ _ 32 rfl ?_);go_must (refine wpList_app_one rfl E_corr _ _ rfl (by simp[Act.eval,Act.put]) (HR7.out.bel (bel1 w7 _)) (corrCells ⟨str0,0,0,str0,0⟩) rfl (cor_one _) w7.heap.size 1 (by simp[Act.eval,Act.put]) (World.alloc_heap_new _ _) (by omega) (by rw[World.size_alloc];omega) ?_);go_must (intro v8 w8 hr8 hg8 ho8;have hb8:Below W5.heap.size W5 w8:=(HB7.out.trans ((bel1 w7 _).mono HB7.out.size)).grown hg8 (by rw[World.size_alloc];omega) (fun j e=>(HR7.out.ge j e).1);obtain⟨a8,c8,hv8⟩:=hr8.shape;obtain⟨n8,hn8⟩:∃ n8,n8=(ccs++[corrCells ⟨str0,0,0,str0,0⟩]).length:=⟨_,rfl⟩;rw[<-hn8]at hv8;subst hv8;have HR8:=Lib.hid hr8;have HB8:=Lib.hid hb8;have k9:w8.cell? ⟨X,5,none⟩=some (.slice ca x.corr.length cc):=rowcell (HW5.out.keep hb8).box;have z9:w8.frozen? ⟨X,5,none⟩=false:=rowfree (HW5.out.keep hb8).box;clear hr8 hg8 ho8 hb8 hn8)))
    have HN8:Hid (CorrsM (memNo w8 (SmF w2C.heap.size X)) (.slice a8 n8 c8) (x.corr++[⟨str0,0,0,str0,0⟩])):=Lib.hid (GRow.cors HR8.out (HCV.out.app (VsM.one ⟨corr0_ok,rfl⟩)) (fun b t u e hc=>memNo_of hc (HW5.out.new (HR8.out.ge b e).1)))
    have HN:=Lib.hid ((HW5.out.keep HB8.out).set 5 (.slice a8 n8 c8) (y:={ x with corr:=x.corr++[⟨str0,0,0,str0,0⟩] }) ⟨⟨HYK.out.i0,HYK.out.s1,HYK.out.i4⟩,.slice ta x.topics.length tc,.slice ea x.eds.length ec,.slice a8 n8 c8,rfl,HYP.out.1.mono (memNo_bel HB8.out),HYP.out.2.1.mono (memNo_bel HB8.out),HN8.out⟩)
    go_wp2_with fail
    go_meet
    exact⟨_,_,HN⟩
   ·have k4:W5.cell? ⟨X,4,none⟩=some (.int .i64 x.pub):=rowcell HW5.out.box
    have z4:W5.frozen? ⟨X,4,none⟩=false:=rowfree HW5.out.box
    have HN:=Lib.hid (HW5.out.set 4 (.int .i64 (wrap64 (x.pub+1))) (y:={ x with pub:=wrap64 (x.pub+1) }) ⟨⟨HYK.out.i0,HYK.out.s1,okI_wrap64 _⟩,.slice ta x.topics.length tc,.slice ea x.eds.length ec,.slice ca x.corr.length cc,rfl,HYP.out⟩)
    go_wp2_with fail
    go_meet
    exact⟨_,_,HN⟩
   ·have k7:W5.cell? ⟨X,7,none⟩=some (.bool x.taken):=rowcell HW5.out.box
    have z7:W5.frozen? ⟨X,7,none⟩=false:=rowfree HW5.out.box
    have HN:=Lib.hid (HW5.out.set 7 (.bool (!x.taken)) (y:={ x with taken:=!x.taken }) ⟨⟨HYK.out.i0,HYK.out.s1,HYK.out.i4⟩,.slice ta x.topics.length tc,.slice ea x.eds.length ec,.slice ca x.corr.length cc,rfl,HYP.out⟩)
    go_wp2_with fail
    go_meet
    exact⟨_,_,HN⟩
   ·have k3:W5.cell? ⟨X,3,none⟩=some (.slice ea x.eds.length ec):=rowcell HW5.out.box
    have z3:W5.frozen? ⟨X,3,none⟩=false:=rowfree HW5.out.box
    obtain⟨ea2,ec2,eb,eo,ecs,hev,hecap,hem,hea,hevs,heca⟩:=HYP.out.2.1.cells
    injection hev with hev1 hev0 hev2
    subst hev1 hev2
    clear hev0
    have hecl:=hevs.1
    by_cases hn:0<x.eds.length
    case neg=>
     have hn2:¬ ((0:Int)<x.eds.length):=by omega
     clear hevs heca hea hem hecap hecl
     go_wp2_with fail
     go_meet
     exact⟨_,_,HW5⟩
    obtain rfl:=hea hn
    have hn2:((0:Int)<x.eds.length):=by omega
    obtain⟨heok,bv,hec1,heb⟩:=hevs.2 0 hn (by omega)
    have HEV:Hid (∀ j,j<5->W5.cell? ⟨eb,eo+j,none⟩=(ednCells (x.eds[0]'hn) bv)[j]?):=Lib.hid (by
     have h1:=heca 0 (by omega)
     rw[hec1,Nat.zero_mul,Nat.add_zero]at h1
     exact cells_see (sz:=5) (memNo_sees W5 _) h1 rfl)
    have HEOK:=Lib.hid heok
    have HEB:=Lib.hid heb
    have HEVS:=Lib.hid (hevs.drop 1)
    have HED5:Hid (∀ c∈ecs.drop 1,c.size=5/\OneC c):=Lib.hid (fun c hc=>hevs.ones (fun _ _ q=>q.one) c (List.mem_of_mem_drop hc))
    have HERD:Hid (∀ W,Below W5.heap.size W5 W->Reads W W.heap.size 5 (if ec=1 then some (⟨eb,eo,none⟩:Addr) else Option.map (fun (x:Addr)=>x.add (1 * 5)) (some (⟨eb,eo,none⟩:Addr))) (ecs.drop 1).length ((ecs.drop 1).flatMap Array.toList)):=Lib.hid (fun W hb=>reads_cells_drop ((memNo_sees W5 _).bel hb) (by omega) (fun c hc=>(hevs.ones (fun _ _ q=>q.one) c hc).1) (fun _=>rfl) heca 1 (by omega))
    have HESL:Hid (∀ W,(Instr.slice 31 (.slice (some ⟨eb,eo,none⟩) x.eds.length ec) (some (.int .i64 (1:Int))) none none).run Tryz.prog W=.ok (.slice (if ec=1 then some (⟨eb,eo,none⟩:Addr) else Option.map (fun (x:Addr)=>x.add (1 * 5)) (some (⟨eb,eo,none⟩:Addr))) (ecs.drop 1).length (ec - 1)) W):=Lib.hid (fun W=>by rw[List.length_drop,hecl];exact run_row_from E_edn elem_edns _ _ ec 1 (by omega) W)
    have HEDL:Hid ((ecs.drop 1).length<=50000):=Lib.hid (by rw[List.length_drop,hecl];have:=HEN.out;omega)
    have hec63:ec<=9223372036854775807:=by unfold maxLen at hem;exact hem
    obtain⟨ba,bc,hbv⟩:=heb.slice
    subst hbv
    generalize (if ec=1 then some (⟨eb,eo,none⟩:Addr) else Option.map (fun x=>x.add (1 * 5)) (some (⟨eb,eo,none⟩:Addr)))=dea at *
    clear hevs heca hea hem hecl hec1 heok heb
    generalize hxe:x.eds[0]'hn=ed at *
    have HXE:=Lib.hid hxe
    clear hxe
    go_upto_region 23 with (first
     |((with_reducible refine at_sload 39 _ rfl ?_);go_must (refine wpList_smid rfl S_edn _ rfl (by simp[Act.eval]) (ednCells ed (.slice ba ed.blocks.length bc)) rfl HEV.out ?_))
     |((with_reducible refine at_sstore 39 _ _ rfl ?_);go_must (refine wpList_snew rfl S_edn _ _ rfl rfl _ _ (ednCells ed (.slice ba ed.blocks.length bc)) (by simp[Act.eval]) (by simp[Act.eval]) rfl rfl (by simp[Value.oneCell']) ?_)))
    obtain⟨W6,hW6⟩:∃ W6,W6=W5.alloc (.cells (ednCells ed (.slice ba ed.blocks.length bc)) 39):=⟨_,rfl⟩
    rw[<-hW6]
    have hb6:Below W5.heap.size W5 W6:=by rw[hW6];exact bel1 _ _
    have HE6:Hid (W6.heap[W5.heap.size]?=some (.cells (ednCells ed (.slice ba ed.blocks.length bc)) 39 (0,0))):=Lib.hid (by rw[hW6];exact World.alloc_heap_new _ _)
    have HB6:=Lib.hid hb6
    have hXl5:X<W5.heap.size:=qh HW5.out.box
    clear hW6 hb6 k3 z3
    have k4:W6.cell? ⟨W5.heap.size,4,none⟩=some (.int .i64 ed.changed):=rowcell HE6.out
    have z4:W6.frozen? ⟨W5.heap.size,4,none⟩=false:=rowfree HE6.out
    have HE7:Hid ((W6.setCell ⟨W5.heap.size,4,none⟩ (.int .i64 (wrap64 (ed.changed+1)))).heap[W5.heap.size]?=some (.cells (ednCells { ed with changed:=wrap64 (ed.changed+1) } (.slice ba ed.blocks.length bc)) 39 (0,0))):=Lib.hid (blk_set HE6.out)
    have HB7:Hid (Below W5.heap.size W5 (W6.setCell ⟨W5.heap.size,4,none⟩ (.int .i64 (wrap64 (ed.changed+1))))):=Lib.hid (HB6.out.setCell (Nat.le_refl _) _)
    have HX7:Hid ((W6.setCell ⟨W5.heap.size,4,none⟩ (.int .i64 (wrap64 (ed.changed+1)))).heap[X]?=some (.cells (styCells x (.slice ta x.topics.length tc) (.slice (some ⟨eb,eo,none⟩) x.eds.length ec) (.slice ca x.corr.length cc)) 34 (0,0))):=Lib.hid ((HB7.out.block _ (qh HW5.out.box)).trans HW5.out.box)
    go_upto_region 24 with fail
    obtain⟨W7,hW7⟩:∃ W7,W7=W6.setCell ⟨W5.heap.size,4,none⟩ (.int .i64 (wrap64 (ed.changed+1))):=⟨_,rfl⟩
    rw[<-hW7]at HE7 HB7 HX7 ⊢
    clear hW7 k4 z4
    obtain⟨Wd24,hWd⟩:∃ Wd,Wd=W7.drew:=⟨_,rfl⟩
    have hwd:Below W7.heap.size W7 Wd24:=by rw[hWd];exact(Below.refl _ W7).drew
    have HEB24:=Lib.hid ((hwd.block _ (qh HE7.out)).trans HE7.out)
    have HLB24:=Lib.hid ((hwd.block _ (qh HX7.out)).trans HX7.out)
    have HBD24:Hid (Below W5.heap.size W5 Wd24):=Lib.hid (HB7.out.trans (hwd.mono HB7.out.size))
    have HBP24:=Lib.hid hwd
    have HZ24:Hid (Below Wd24.heap.size Wd24 Wd24):=Lib.hid (Below.refl _ _)
    clear hwd
    refine wp_sch (.take 0 (.take 2 (.take 3 (.take 4 (.only 1 (.only 5 (.only 6 (.last 7 .done)))))))) 7 (fun W2=>Below Wd24.heap.size Wd24 W2) (by kernel_rfl) (by kernel_rfl) (by rw[<-hWd];exact HZ24.out) ?_
    rw[<-hWd]
    clear hWd
    refine wpSch_take rfl (.agg (ednCells { ed with changed:=wrap64 (ed.changed+1) } (.slice ba ed.blocks.length bc))) (fun _ _ _ _ h=>h) HZ24.out (by rfl) (fun W2 hW=>by exact exec_smid S_edn _ rfl (by simp[Act.eval]) _ rfl (whole_cells ((hW.block _ (qh HEB24.out)).trans HEB24.out))) ?_
    simp only[Act.put,List.setIfInBounds_toArray,List.set_cons_zero,List.set_cons_succ]
    refine wpSch_take rfl (.pointer (some ⟨X,3,none⟩)) (fun _ _ _ _ h=>h) HZ24.out (by rfl) (fun W2 hW=>by go_simp) ?_
    simp only[Act.put,List.setIfInBounds_toArray,List.set_cons_zero,List.set_cons_succ]
    refine wpSch_take rfl (.slice (some ⟨eb,eo,none⟩) x.eds.length ec) (fun _ _ _ _ h=>h) HZ24.out (by rfl) (fun W2 hW=>by have q0:W2.cell? ⟨X,3,none⟩=some (.slice (some ⟨eb,eo,none⟩) x.eds.length ec):=rowcell ((hW.block _ (qh HLB24.out)).trans HLB24.out);go_simp) ?_
    simp only[Act.put,List.setIfInBounds_toArray,List.set_cons_zero,List.set_cons_succ]
    refine wpSch_take rfl (.slice dea (ecs.drop 1).length (ec - 1)) (fun _ _ _ _ h=>h) HZ24.out (by rfl) (fun W2 hW=>by exact exec_slice_lo elem_edns rfl rfl rfl (HESL.out _)) ?_
    simp only[Act.put,List.setIfInBounds_toArray,List.set_cons_zero,List.set_cons_succ]
    refine wpSch_only rfl (fun K hK=>?_)
    rw[if_pos (by rfl)]
    refine wp_one_slice E_edn _ rfl (.agg (ednCells { ed with changed:=wrap64 (ed.changed+1) } (.slice ba ed.blocks.length bc))) rfl (by simp[Act.eval]) ?_
    have HY24:Hid (Below Wd24.heap.size Wd24 (Wd24.alloc (.cells (ednCells { ed with changed:=wrap64 (ed.changed+1) } (.slice ba ed.blocks.length bc)) 39))):=Lib.hid (bel1 _ _)
    refine hK _ _ HY24.out ?_
    clear hK K
    simp only[Act.put,List.setIfInBounds_toArray,List.set_cons_zero,List.set_cons_succ]
    refine wpSch_only rfl (fun K hK=>?_)
    rw[if_pos (by rfl)]
    have hdl:=HEDL.out
    refine wp_app_row E_edn _ _ rfl (by simp[Act.eval]) (grow_one (B:=Wd24.heap.size) (e:=39) (sz:=5) (w:=Wd24) (Nat.le_refl _) (c:=(ednCells { ed with changed:=wrap64 (ed.changed+1) } (.slice ba ed.blocks.length bc))) rfl (edn_one _ _ _ _)) dea (ec - 1) (ecs.drop 1) HED5.out (by simp[Act.eval]) (HERD.out _ (HBD24.out.trans (HY24.out.mono HBD24.out.size))) (by rw[List.length_singleton];omega) (by rw[World.size_alloc];omega) ?_
    intro v24 u24 hr hg ho
    have HU24:Hid (Below Wd24.heap.size Wd24 u24):=Lib.hid (HY24.out.grown hg (by rw[World.size_alloc];omega) (fun _ e=>own_le e))
    obtain⟨a24,c24,hv⟩:=hr.shape
    obtain⟨n24,hn'⟩:∃ n,n=([(ednCells { ed with changed:=wrap64 (ed.changed+1) } (.slice ba ed.blocks.length bc))]++(ecs.drop 1)).length:=⟨_,rfl⟩
    rw[<-hn']at hv
    subst hv
    have HR24:=Lib.hid hr
    have q24:u24.cell? ⟨X,3,none⟩=some (.slice (some ⟨eb,eo,none⟩) x.eds.length ec):=rowcell ((HU24.out.block _ (qh HLB24.out)).trans HLB24.out)
    have z24:u24.frozen? ⟨X,3,none⟩=false:=rowfree ((HU24.out.block _ (qh HLB24.out)).trans HLB24.out)
    clear hr hg ho hn' hdl
    refine hK _ _ HU24.out ?_
    clear hK K
    simp only[Act.put,List.setIfInBounds_toArray,List.set_cons_zero,List.set_cons_succ]
    refine wpSch_only rfl (fun K hK=>?_)
    rw[if_pos (by rfl)]
    go_simp
    refine hK _ _ HU24.out ?_
    clear hK K
    refine wpSch_last rfl (fun K hK=>?_)
    rw[if_pos (by rfl)]
    go_simp
    refine hK _ _ ?_
    clear hK K q24 z24
    refine wpSch_done ?_
    have HBU24:Hid (Below W5.heap.size W5 u24):=Lib.hid (HBD24.out.trans (HU24.out.mono HBD24.out.size))
    have HPU24:Hid (Below W7.heap.size W7 u24):=Lib.hid (HBP24.out.trans (HU24.out.mono HBP24.out.size))
    have hzd24:=HBD24.out.size
    have HEN8:Hid (EdnsM (memNo u24 (SmF w2C.heap.size X)) (.slice a24 n24 c24) ({ ed with changed:=wrap64 (ed.changed+1) }::x.eds.drop 1)):=Lib.hid (GRow.edns HR24.out (l:={ ed with changed:=wrap64 (ed.changed+1) }::x.eds.drop 1) ((VsM.one (x:={ ed with changed:=wrap64 (ed.changed+1) }) (V:=EVal (memNo u24 (SmF w2C.heap.size X))) ⟨⟨HEOK.out.s0,HEOK.out.i1,HEOK.out.s2,okI_wrap64 _⟩,_,rfl,HEB.out.mono (memNo_bel HBU24.out)⟩).app (HEVS.out.mono (fun _ _ q=>q.mono (memNo_bel HBU24.out)))) (fun b t u e hc=>memNo_of hc (HW5.out.new (show W5.heap.size<=b by have:=(HR24.out.ge b e).1;omega))))
    have HN:=Lib.hid ((HW5.out.keep HBU24.out).set 3 (.slice a24 n24 c24) (y:={ x with eds:={ ed with changed:=wrap64 (ed.changed+1) }::x.eds.drop 1 }) ⟨⟨HYK.out.i0,HYK.out.s1,HYK.out.i4⟩,.slice ta x.topics.length tc,.slice a24 n24 c24,.slice ca x.corr.length cc,rfl,HYP.out.1.mono (memNo_bel HBU24.out),HEN8.out,HYP.out.2.2.mono (memNo_bel HBU24.out)⟩)
    go_wp2_with fail
    go_meet
    exact⟨_,_,HN⟩
   ·have k3:W5.cell? ⟨X,3,none⟩=some (.slice ea x.eds.length ec):=rowcell HW5.out.box
    have z3:W5.frozen? ⟨X,3,none⟩=false:=rowfree HW5.out.box
    obtain⟨ea2,ec2,eb,eo,ecs,hev,hecap,hem,hea,hevs,heca⟩:=HYP.out.2.1.cells
    injection hev with hev1 hev0 hev2
    subst hev1 hev2
    clear hev0
    have hecl:=hevs.1
    by_cases hn:0<x.eds.length
    case neg=>
     have hn2:¬ ((0:Int)<x.eds.length):=by omega
     clear hevs heca hea hem hecap hecl
     go_wp2_with fail
     go_meet
     exact⟨_,_,HW5⟩
    obtain rfl:=hea hn
    have hn2:((0:Int)<x.eds.length):=by omega
    obtain⟨heok,bv,hec1,heb⟩:=hevs.2 0 hn (by omega)
    have HEV:Hid (∀ j,j<5->W5.cell? ⟨eb,eo+j,none⟩=(ednCells (x.eds[0]'hn) bv)[j]?):=Lib.hid (by
     have h1:=heca 0 (by omega)
     rw[hec1,Nat.zero_mul,Nat.add_zero]at h1
     exact cells_see (sz:=5) (memNo_sees W5 _) h1 rfl)
    have HEOK:=Lib.hid heok
    have HEB:=Lib.hid heb
    have HEVS:=Lib.hid (hevs.drop 1)
    have HED5:Hid (∀ c∈ecs.drop 1,c.size=5/\OneC c):=Lib.hid (fun c hc=>hevs.ones (fun _ _ q=>q.one) c (List.mem_of_mem_drop hc))
    have HERD:Hid (∀ W,Below W5.heap.size W5 W->Reads W W.heap.size 5 (if ec=1 then some (⟨eb,eo,none⟩:Addr) else Option.map (fun (x:Addr)=>x.add (1 * 5)) (some (⟨eb,eo,none⟩:Addr))) (ecs.drop 1).length ((ecs.drop 1).flatMap Array.toList)):=Lib.hid (fun W hb=>reads_cells_drop ((memNo_sees W5 _).bel hb) (by omega) (fun c hc=>(hevs.ones (fun _ _ q=>q.one) c hc).1) (fun _=>rfl) heca 1 (by omega))
    have HESL:Hid (∀ W,(Instr.slice 31 (.slice (some ⟨eb,eo,none⟩) x.eds.length ec) (some (.int .i64 (1:Int))) none none).run Tryz.prog W=.ok (.slice (if ec=1 then some (⟨eb,eo,none⟩:Addr) else Option.map (fun (x:Addr)=>x.add (1 * 5)) (some (⟨eb,eo,none⟩:Addr))) (ecs.drop 1).length (ec - 1)) W):=Lib.hid (fun W=>by rw[List.length_drop,hecl];exact run_row_from E_edn elem_edns _ _ ec 1 (by omega) W)
    have HEDL:Hid ((ecs.drop 1).length<=50000):=Lib.hid (by rw[List.length_drop,hecl];have:=HEN.out;omega)
    have hec63:ec<=9223372036854775807:=by unfold maxLen at hem;exact hem
    obtain⟨ba,bc,hbv⟩:=heb.slice
    subst hbv
    generalize (if ec=1 then some (⟨eb,eo,none⟩:Addr) else Option.map (fun x=>x.add (1 * 5)) (some (⟨eb,eo,none⟩:Addr)))=dea at *
    clear hevs heca hea hem hecl hec1 heok heb
    generalize hxe:x.eds[0]'hn=ed at *
    have HXE:=Lib.hid hxe
    clear hxe
    obtain⟨ba2,bc2,bb,bo,bcs,hbv,hbcap,hbm,hba,hbvs,hbca⟩:=HEB.out.cells_
    injection hbv with hbv1 hbv0 hbv2
    subst hbv1 hbv2
    clear hbv0
    have hbcl:=hbvs.1
    have c3e:W5.cell? ⟨eb,eo+3,none⟩=some (.slice ba ed.blocks.length bc):=HEV.out 3 (by omega)
    by_cases hnb:0<ed.blocks.length
    case neg=>
     have hnb2:¬ ((0:Int)<ed.blocks.length):=by omega
     clear hbvs hbca hba hbm hbcap hbcl
     go_wp2_with fail
     go_meet
     exact⟨_,_,HW5⟩
    obtain rfl:=hba hnb
    have hnb2:((0:Int)<ed.blocks.length):=by omega
    obtain⟨hbok,la,lc,hbc1,hbi⟩:=hbvs.2 0 hnb (by omega)
    have HBCC:Hid (∀ j,j<9->W5.cell? ⟨bb,bo+j,none⟩=(blkCells (ed.blocks[0]'hnb) (.slice la (ed.blocks[0]'hnb).lab.after.length lc))[j]?):=Lib.hid (by
     have h1:=hbca 0 (by omega)
     rw[hbc1,Nat.zero_mul,Nat.add_zero]at h1
     exact cells_see (sz:=9) (memNo_sees W5 _) h1 rfl)
    have HBOK:=Lib.hid hbok
    have HBI:=Lib.hid hbi
    have HBVS:=Lib.hid (hbvs.drop 1)
    have HBD5:Hid (∀ c∈bcs.drop 1,c.size=9/\OneC c):=Lib.hid (fun c hc=>hbvs.ones (fun _ _ q=>q.one) c (List.mem_of_mem_drop hc))
    have HBRD:Hid (∀ W,Below W5.heap.size W5 W->Reads W W.heap.size 9 (if bc=1 then some (⟨bb,bo,none⟩:Addr) else Option.map (fun (x:Addr)=>x.add (1 * 9)) (some (⟨bb,bo,none⟩:Addr))) (bcs.drop 1).length ((bcs.drop 1).flatMap Array.toList)):=Lib.hid (fun W hb=>reads_cells_drop ((memNo_sees W5 _).bel hb) (by omega) (fun c hc=>(hbvs.ones (fun _ _ q=>q.one) c hc).1) (fun _=>rfl) hbca 1 (by omega))
    have HBSL:Hid (∀ W,(Instr.slice 37 (.slice (some ⟨bb,bo,none⟩) ed.blocks.length bc) (some (.int .i64 (1:Int))) none none).run Tryz.prog W=.ok (.slice (if bc=1 then some (⟨bb,bo,none⟩:Addr) else Option.map (fun (x:Addr)=>x.add (1 * 9)) (some (⟨bb,bo,none⟩:Addr))) (bcs.drop 1).length (bc - 1)) W):=Lib.hid (fun W=>by rw[List.length_drop,hbcl];exact run_row_from E_blk elem_blks _ _ bc 1 (by omega) W)
    have HBDL:Hid ((bcs.drop 1).length<=100):=Lib.hid (by rw[List.length_drop,hbcl];have:=HBN.out ed (by rw[<-HXE.out];exact List.getElem_mem hn);omega)
    have hbc63:bc<=9223372036854775807:=by unfold maxLen at hbm;exact hbm
    generalize (if bc=1 then some (⟨bb,bo,none⟩:Addr) else Option.map (fun x=>x.add (1 * 9)) (some (⟨bb,bo,none⟩:Addr)))=dba at *
    clear hbvs hbca hba hbm hbcl hbc1 hbok hbi
    generalize ed.blocks[0]'hnb=bk at *
    go_upto_region 28 with (first
     |((with_reducible refine at_sload 39 _ rfl ?_);go_must (refine wpList_smid rfl S_edn _ rfl (by simp[Act.eval]) (ednCells ed (.slice (some ⟨bb,bo,none⟩) ed.blocks.length bc)) rfl HEV.out ?_))
     |((with_reducible refine at_sstore 39 _ _ rfl ?_);go_must (refine wpList_snew rfl S_edn _ _ rfl rfl _ _ (ednCells ed (.slice (some ⟨bb,bo,none⟩) ed.blocks.length bc)) (by simp[Act.eval]) (by simp[Act.eval]) rfl rfl (by simp[Value.oneCell']) ?_)))
    obtain⟨W6,hW6⟩:∃ W6,W6=W5.alloc (.cells (ednCells ed (.slice (some ⟨bb,bo,none⟩) ed.blocks.length bc)) 39):=⟨_,rfl⟩
    rw[<-hW6]
    have hb6:Below W5.heap.size W5 W6:=by rw[hW6];exact bel1 _ _
    have HE6:Hid (W6.heap[W5.heap.size]?=some (.cells (ednCells ed (.slice (some ⟨bb,bo,none⟩) ed.blocks.length bc)) 39 (0,0))):=Lib.hid (by rw[hW6];exact World.alloc_heap_new _ _)
    have HB6:=Lib.hid hb6
    have hXl5:X<W5.heap.size:=qh HW5.out.box
    clear hW6 hb6 k3 z3 c3e
    have k3e:W6.cell? ⟨W5.heap.size,3,none⟩=some (.slice (some ⟨bb,bo,none⟩) ed.blocks.length bc):=rowcell HE6.out
    have HBC6:Hid (∀ j,j<9->W6.cell? ⟨bb,bo+j,none⟩=(blkCells bk (.slice la bk.lab.after.length lc))[j]?):=Lib.hid (fun j hj=>by
     have h1:=HBCC.out j hj
     rw[Array.getElem?_eq_getElem (show j<((blkCells bk (.slice la bk.lab.after.length lc)):Array Value).size from hj)]at h1 ⊢
     exact sees_bel HB6.out _ _ h1)
    go_upto_region 29 with (first
     |((with_reducible refine at_sload 58 _ rfl ?_);go_must (refine wpList_smid rfl S_blk _ rfl (by simp[Act.eval]) (blkCells bk (.slice la bk.lab.after.length lc)) rfl HBC6.out ?_))
     |((with_reducible refine at_sstore 58 _ _ rfl ?_);go_must (refine wpList_snew rfl S_blk _ _ rfl rfl _ _ (blkCells bk (.slice la bk.lab.after.length lc)) (by simp[Act.eval]) (by simp[Act.eval]) rfl rfl (by simp[Value.oneCell']) ?_)))
    obtain⟨W7,hW7⟩:∃ W7,W7=W6.alloc (.cells (blkCells bk (.slice la bk.lab.after.length lc)) 58):=⟨_,rfl⟩
    rw[<-hW7]
    have hb7:Below W6.heap.size W6 W7:=by rw[hW7];exact bel1 _ _
    have HK7:Hid (W7.heap[W6.heap.size]?=some (.cells (blkCells bk (.slice la bk.lab.after.length lc)) 58 (0,0))):=Lib.hid (by rw[hW7];exact World.alloc_heap_new _ _)
    have HE7:=Lib.hid ((hb7.block _ (qh HE6.out)).trans HE6.out)
    have HB7:Hid (Below W5.heap.size W5 W7):=Lib.hid (HB6.out.trans (hb7.mono HB6.out.size))
    have hE6l:W5.heap.size<W6.heap.size:=qh HE6.out
    obtain⟨E2,hE2⟩:∃ E2,E2=W5.heap.size:=⟨_,rfl⟩
    obtain⟨KB,hKB⟩:∃ KB,KB=W6.heap.size:=⟨_,rfl⟩
    have hEK:E2<KB:=by omega
    have hEX:X<E2:=by omega
    have HE2L:Hid (E2=W5.heap.size):=Lib.hid hE2
    have HKBL:Hid (W5.heap.size<=KB):=Lib.hid (by omega)
    rw[<-hE2]at HE7 ⊢
    rw[<-hKB]at HK7 ⊢
    clear hW7 hb7 k3e hE2 hKB HE6 hE6l
    have k3:W7.cell? ⟨KB,3,none⟩=some (.int .i64 bk.story):=rowcell HK7.out
    have z3:W7.frozen? ⟨KB,3,none⟩=false:=rowfree HK7.out
    have HK8:Hid ((W7.setCell ⟨KB,3,none⟩ (.int .i64 (wrap64 (bk.story+1)))).heap[KB]?=some (.cells (blkCells { bk with story:=wrap64 (bk.story+1) } (.slice la bk.lab.after.length lc)) 58 (0,0))):=Lib.hid (blk_set HK7.out)
    have HE8:Hid ((W7.setCell ⟨KB,3,none⟩ (.int .i64 (wrap64 (bk.story+1)))).heap[E2]?=some (.cells (ednCells ed (.slice (some ⟨bb,bo,none⟩) ed.blocks.length bc)) 39 (0,0))):=Lib.hid (by rw[Below.heap_setCell _ _ _ _ (by simp only;omega)];exact HE7.out)
    have HB8:Hid (Below W5.heap.size W5 (W7.setCell ⟨KB,3,none⟩ (.int .i64 (wrap64 (bk.story+1))))):=Lib.hid (HB7.out.setCell HKBL.out _)
    go_upto_region 30 with fail
    obtain⟨W8,hW8⟩:∃ W8,W8=W7.setCell ⟨KB,3,none⟩ (.int .i64 (wrap64 (bk.story+1))):=⟨_,rfl⟩
    rw[<-hW8]at HK8 HE8 HB8 ⊢
    clear hW8 k3 z3
    obtain⟨Wd30,hWd⟩:∃ Wd,Wd=W8.drew:=⟨_,rfl⟩
    have hwd:Below W8.heap.size W8 Wd30:=by rw[hWd];exact(Below.refl _ W8).drew
    have HEB30:=Lib.hid ((hwd.block _ (qh HK8.out)).trans HK8.out)
    have HLB30:=Lib.hid ((hwd.block _ (qh HE8.out)).trans HE8.out)
    have HBD30:Hid (Below W5.heap.size W5 Wd30):=Lib.hid (HB8.out.trans (hwd.mono HB8.out.size))
    have HBP30:=Lib.hid hwd
    have HZ30:Hid (Below Wd30.heap.size Wd30 Wd30):=Lib.hid (Below.refl _ _)
    clear hwd
    refine wp_sch (.take 0 (.take 2 (.take 3 (.take 4 (.only 1 (.only 5 (.only 6 (.last 7 .done)))))))) 7 (fun W2=>Below Wd30.heap.size Wd30 W2) (by kernel_rfl) (by kernel_rfl) (by rw[<-hWd];exact HZ30.out) ?_
    rw[<-hWd]
    clear hWd
    refine wpSch_take rfl (.agg (blkCells { bk with story:=wrap64 (bk.story+1) } (.slice la bk.lab.after.length lc))) (fun _ _ _ _ h=>h) HZ30.out (by rfl) (fun W2 hW=>by exact exec_smid S_blk _ rfl (by simp[Act.eval]) _ rfl (whole_cells ((hW.block _ (qh HEB30.out)).trans HEB30.out))) ?_
    simp only[Act.put,List.setIfInBounds_toArray,List.set_cons_zero,List.set_cons_succ]
    refine wpSch_take rfl (.pointer (some ⟨E2,3,none⟩)) (fun _ _ _ _ h=>h) HZ30.out (by rfl) (fun W2 hW=>by go_simp) ?_
    simp only[Act.put,List.setIfInBounds_toArray,List.set_cons_zero,List.set_cons_succ]
    refine wpSch_take rfl (.slice (some ⟨bb,bo,none⟩) ed.blocks.length bc) (fun _ _ _ _ h=>h) HZ30.out (by rfl) (fun W2 hW=>by have q0:W2.cell? ⟨E2,3,none⟩=some (.slice (some ⟨bb,bo,none⟩) ed.blocks.length bc):=rowcell ((hW.block _ (qh HLB30.out)).trans HLB30.out);go_simp) ?_
    simp only[Act.put,List.setIfInBounds_toArray,List.set_cons_zero,List.set_cons_succ]
    refine wpSch_take rfl (.slice dba (bcs.drop 1).length (bc - 1)) (fun _ _ _ _ h=>h) HZ30.out (by rfl) (fun W2 hW=>by exact exec_slice_lo elem_blks rfl rfl rfl (HBSL.out _)) ?_
    simp only[Act.put,List.setIfInBounds_toArray,List.set_cons_zero,List.set_cons_succ]
    refine wpSch_only rfl (fun K hK=>?_)
    rw[if_pos (by rfl)]
    refine wp_one_slice E_blk _ rfl (.agg (blkCells { bk with story:=wrap64 (bk.story+1) } (.slice la bk.lab.after.length lc))) rfl (by simp[Act.eval]) ?_
    have HY30:Hid (Below Wd30.heap.size Wd30 (Wd30.alloc (.cells (blkCells { bk with story:=wrap64 (bk.story+1) } (.slice la bk.lab.after.length lc)) 58))):=Lib.hid (bel1 _ _)
    refine hK _ _ HY30.out ?_
    clear hK K
    simp only[Act.put,List.setIfInBounds_toArray,List.set_cons_zero,List.set_cons_succ]
    refine wpSch_only rfl (fun K hK=>?_)
    rw[if_pos (by rfl)]
    have hdl:=HBDL.out
    refine wp_app_row E_blk _ _ rfl (by simp[Act.eval]) (grow_one (B:=Wd30.heap.size) (e:=58) (sz:=9) (w:=Wd30) (Nat.le_refl _) (c:=(blkCells { bk with story:=wrap64 (bk.story+1) } (.slice la bk.lab.after.length lc))) rfl (fun u hu=>by simp at hu;rcases hu with rfl | rfl | rfl | rfl | rfl | rfl | rfl | rfl | rfl <;> rfl)) dba (bc - 1) (bcs.drop 1) HBD5.out (by simp[Act.eval]) (HBRD.out _ (HBD30.out.trans (HY30.out.mono HBD30.out.size))) (by rw[List.length_singleton];omega) (by rw[World.size_alloc];omega) ?_
    intro v30 u30 hr hg ho
    have HU30:Hid (Below Wd30.heap.size Wd30 u30):=Lib.hid (HY30.out.grown hg (by rw[World.size_alloc];omega) (fun _ e=>own_le e))
    obtain⟨a30,c30,hv⟩:=hr.shape
    obtain⟨n30,hn'⟩:∃ n,n=([(blkCells { bk with story:=wrap64 (bk.story+1) } (.slice la bk.lab.after.length lc))]++(bcs.drop 1)).length:=⟨_,rfl⟩
    rw[<-hn']at hv
    subst hv
    have HR30:=Lib.hid hr
    have q30:u30.cell? ⟨E2,3,none⟩=some (.slice (some ⟨bb,bo,none⟩) ed.blocks.length bc):=rowcell ((HU30.out.block _ (qh HLB30.out)).trans HLB30.out)
    have z30:u30.frozen? ⟨E2,3,none⟩=false:=rowfree ((HU30.out.block _ (qh HLB30.out)).trans HLB30.out)
    clear hr hg ho hn' hdl
    refine hK _ _ HU30.out ?_
    clear hK K
    simp only[Act.put,List.setIfInBounds_toArray,List.set_cons_zero,List.set_cons_succ]
    refine wpSch_only rfl (fun K hK=>?_)
    rw[if_pos (by rfl)]
    go_simp
    refine hK _ _ HU30.out ?_
    clear hK K
    refine wpSch_last rfl (fun K hK=>?_)
    rw[if_pos (by rfl)]
    go_simp
    refine hK _ _ ?_
    clear hK K q30 z30
    refine wpSch_done ?_
    have HBU30:Hid (Below W5.heap.size W5 u30):=Lib.hid (HBD30.out.trans (HU30.out.mono HBD30.out.size))
    have HPU30:Hid (Below W8.heap.size W8 u30):=Lib.hid (HBP30.out.trans (HU30.out.mono HBP30.out.size))
    have hzd30:=HBD30.out.size
    have HEU30:=Lib.hid ((HPU30.out.block _ (qh HE8.out)).trans HE8.out)
    have HE9:Hid ((u30.setCell ⟨E2,3,none⟩ (.slice a30 n30 c30)).heap[E2]?=some (.cells (ednCells { ed with blocks:={ bk with story:=wrap64 (bk.story+1) }::ed.blocks.drop 1 } (.slice a30 n30 c30)) 39 (0,0))):=Lib.hid (blk_set HEU30.out)
    have HB9:Hid (Below W5.heap.size W5 (u30.setCell ⟨E2,3,none⟩ (.slice a30 n30 c30))):=Lib.hid (HBU30.out.setCell (by rw[<-HE2L.out];exact Nat.le_refl _) _)
    have HE8l:Hid (E2<Wd30.heap.size):=Lib.hid (qh HLB30.out)
    have HUP30:∀ p u,memNo W5 (SmF w2C.heap.size X) p=some u->memNo u30 (fun k=>k=w2C.heap.size\/k=X\/k=E2) p=some u:=fun p u e=>by
     obtain⟨q1,q2⟩:=memNo_get e
     refine memNo_of (sees_bel HBU30.out p u q1) (fun q=>?_)
     have:=World.block_lt_of_cell? W5 p q1
     rcases q with q | q | q
     ·exact q2 (.inl q)
     ·exact q2 (.inr q)
     ·rw[HE2L.out]at q;omega
    have HNB:Hid (BlksM (memNo u30 (fun k=>k=w2C.heap.size\/k=X\/k=E2)) (.slice a30 n30 c30) ({ bk with story:=wrap64 (bk.story+1) }::ed.blocks.drop 1)):=Lib.hid (GRow.blks HR30.out (l:={ bk with story:=wrap64 (bk.story+1) }::ed.blocks.drop 1) ((VsM.one (x:={ bk with story:=wrap64 (bk.story+1) }) (V:=BkV (memNo u30 (fun k=>k=w2C.heap.size\/k=X\/k=E2))) ⟨HBOK.out,la,lc,rfl,HBI.out.mono (fun p u e=>HUP30 p u e)⟩).app (HBVS.out.mono (fun _ _ q=>q.mono (fun p u e=>HUP30 p u e)))) (fun b t u e hc=>memNo_of hc (fun q=>by
     have h1:=(HR30.out.ge b e).1
     have h2:=HE8l.out
     have h3:=HW5.out.low
     rcases q with q | q | q
     ·have q3:b=w2C.heap.size:=q
      omega
     ·have q3:b=X:=q
      omega
     ·have q3:b=E2:=q
      omega)))
    have HX9:Hid ((u30.setCell ⟨E2,3,none⟩ (.slice a30 n30 c30)).heap[X]?=some (.cells (styCells x (.slice ta x.topics.length tc) (.slice (some ⟨eb,eo,none⟩) x.eds.length ec) (.slice ca x.corr.length cc)) 34 (0,0))):=Lib.hid ((HB9.out.block _ (qh HW5.out.box)).trans HW5.out.box)
    obtain⟨W9,hW9⟩:∃ W9,W9=u30.setCell ⟨E2,3,none⟩ (.slice a30 n30 c30):=⟨_,rfl⟩
    have HNB9:Hid (BlksM (memNo W9 (SmF w2C.heap.size X)) (.slice a30 n30 c30) ({ bk with story:=wrap64 (bk.story+1) }::ed.blocks.drop 1)):=Lib.hid (HNB.out.mono (fun p u e=>by
     obtain⟨q1,q2⟩:=memNo_get e
     rw[hW9]
     exact memNo_of ((upd_cell u30 E2 3 (.slice a30 n30 c30)).cell_some q1 (fun q=>q2 (.inr (.inr q)))) (fun q=>q2 (by rcases q with q | q;exact .inl q;exact .inr (.inl q)))))
    have HW9:=Lib.hid hW9
    rw[<-hW9]at HE9 HB9 HX9
    clear hW9 HUP30
    go_upto_region 31 with fail
    rw[<-HW9.out]
    clear HW9
    obtain⟨Wd31,hWd⟩:∃ Wd,Wd=W9.drew:=⟨_,rfl⟩
    have hwd:Below W9.heap.size W9 Wd31:=by rw[hWd];exact(Below.refl _ W9).drew
    have HEB31:=Lib.hid ((hwd.block _ (qh HE9.out)).trans HE9.out)
    have HLB31:=Lib.hid ((hwd.block _ (qh HX9.out)).trans HX9.out)
    have HBD31:Hid (Below W5.heap.size W5 Wd31):=Lib.hid (HB9.out.trans (hwd.mono HB9.out.size))
    have HBP31:=Lib.hid hwd
    have HZ31:Hid (Below Wd31.heap.size Wd31 Wd31):=Lib.hid (Below.refl _ _)
    clear hwd
    refine wp_sch (.take 0 (.take 2 (.take 3 (.take 4 (.only 1 (.only 5 (.only 6 (.last 7 .done)))))))) 7 (fun W2=>Below Wd31.heap.size Wd31 W2) (by kernel_rfl) (by kernel_rfl) (by rw[<-hWd];exact HZ31.out) ?_
    rw[<-hWd]
    clear hWd
    refine wpSch_take rfl (.agg (ednCells { ed with blocks:={ bk with story:=wrap64 (bk.story+1) }::ed.blocks.drop 1 } (.slice a30 n30 c30))) (fun _ _ _ _ h=>h) HZ31.out (by rfl) (fun W2 hW=>by exact exec_smid S_edn _ rfl (by simp[Act.eval]) _ rfl (whole_cells ((hW.block _ (qh HEB31.out)).trans HEB31.out))) ?_
    simp only[Act.put,List.setIfInBounds_toArray,List.set_cons_zero,List.set_cons_succ]
    refine wpSch_take rfl (.pointer (some ⟨X,3,none⟩)) (fun _ _ _ _ h=>h) HZ31.out (by rfl) (fun W2 hW=>by go_simp) ?_
    simp only[Act.put,List.setIfInBounds_toArray,List.set_cons_zero,List.set_cons_succ]
    refine wpSch_take rfl (.slice (some ⟨eb,eo,none⟩) x.eds.length ec) (fun _ _ _ _ h=>h) HZ31.out (by rfl) (fun W2 hW=>by have q0:W2.cell? ⟨X,3,none⟩=some (.slice (some ⟨eb,eo,none⟩) x.eds.length ec):=rowcell ((hW.block _ (qh HLB31.out)).trans HLB31.out);go_simp) ?_
    simp only[Act.put,List.setIfInBounds_toArray,List.set_cons_zero,List.set_cons_succ]
    refine wpSch_take rfl (.slice dea (ecs.drop 1).length (ec - 1)) (fun _ _ _ _ h=>h) HZ31.out (by rfl) (fun W2 hW=>by exact exec_slice_lo elem_edns rfl rfl rfl (HESL.out _)) ?_
    simp only[Act.put,List.setIfInBounds_toArray,List.set_cons_zero,List.set_cons_succ]
    refine wpSch_only rfl (fun K hK=>?_)
    rw[if_pos (by rfl)]
    refine wp_one_slice E_edn _ rfl (.agg (ednCells { ed with blocks:={ bk with story:=wrap64 (bk.story+1) }::ed.blocks.drop 1 } (.slice a30 n30 c30))) rfl (by simp[Act.eval]) ?_
    have HY31:Hid (Below Wd31.heap.size Wd31 (Wd31.alloc (.cells (ednCells { ed with blocks:={ bk with story:=wrap64 (bk.story+1) }::ed.blocks.drop 1 } (.slice a30 n30 c30)) 39))):=Lib.hid (bel1 _ _)
    refine hK _ _ HY31.out ?_
    clear hK K
    simp only[Act.put,List.setIfInBounds_toArray,List.set_cons_zero,List.set_cons_succ]
    refine wpSch_only rfl (fun K hK=>?_)
    rw[if_pos (by rfl)]
    have hdl:=HEDL.out
    refine wp_app_row E_edn _ _ rfl (by simp[Act.eval]) (grow_one (B:=Wd31.heap.size) (e:=39) (sz:=5) (w:=Wd31) (Nat.le_refl _) (c:=(ednCells { ed with blocks:={ bk with story:=wrap64 (bk.story+1) }::ed.blocks.drop 1 } (.slice a30 n30 c30))) rfl (edn_one _ _ _ _)) dea (ec - 1) (ecs.drop 1) HED5.out (by simp[Act.eval]) (HERD.out _ (HBD31.out.trans (HY31.out.mono HBD31.out.size))) (by rw[List.length_singleton];omega) (by rw[World.size_alloc];omega) ?_
    intro v31 u31 hr hg ho
    have HU31:Hid (Below Wd31.heap.size Wd31 u31):=Lib.hid (HY31.out.grown hg (by rw[World.size_alloc];omega) (fun _ e=>own_le e))
    obtain⟨a31,c31,hv⟩:=hr.shape
    obtain⟨n31,hn'⟩:∃ n,n=([(ednCells { ed with blocks:={ bk with story:=wrap64 (bk.story+1) }::ed.blocks.drop 1 } (.slice a30 n30 c30))]++(ecs.drop 1)).length:=⟨_,rfl⟩
    rw[<-hn']at hv
    subst hv
    have HR31:=Lib.hid hr
    have q31:u31.cell? ⟨X,3,none⟩=some (.slice (some ⟨eb,eo,none⟩) x.eds.length ec):=rowcell ((HU31.out.block _ (qh HLB31.out)).trans HLB31.out)
    have z31:u31.frozen? ⟨X,3,none⟩=false:=rowfree ((HU31.out.block _ (qh HLB31.out)).trans HLB31.out)
    clear hr hg ho hn' hdl
    refine hK _ _ HU31.out ?_
    clear hK K
    simp only[Act.put,List.setIfInBounds_toArray,List.set_cons_zero,List.set_cons_succ]
    refine wpSch_only rfl (fun K hK=>?_)
    rw[if_pos (by rfl)]
    go_simp
    refine hK _ _ HU31.out ?_
    clear hK K
    refine wpSch_last rfl (fun K hK=>?_)
    rw[if_pos (by rfl)]
    go_simp
    refine hK _ _ ?_
    clear hK K q31 z31
    refine wpSch_done ?_
    have HBU31:Hid (Below W5.heap.size W5 u31):=Lib.hid (HBD31.out.trans (HU31.out.mono HBD31.out.size))
    have HPU31:Hid (Below W9.heap.size W9 u31):=Lib.hid (HBP31.out.trans (HU31.out.mono HBP31.out.size))
    have hzd31:=HBD31.out.size
    have HEN8:Hid (EdnsM (memNo u31 (SmF w2C.heap.size X)) (.slice a31 n31 c31) ({ ed with blocks:={ bk with story:=wrap64 (bk.story+1) }::ed.blocks.drop 1 }::x.eds.drop 1)):=Lib.hid (GRow.edns HR31.out (l:={ ed with blocks:={ bk with story:=wrap64 (bk.story+1) }::ed.blocks.drop 1 }::x.eds.drop 1) ((VsM.one (x:={ ed with blocks:={ bk with story:=wrap64 (bk.story+1) }::ed.blocks.drop 1 }) (V:=EVal (memNo u31 (SmF w2C.heap.size X))) ⟨⟨HEOK.out.s0,HEOK.out.i1,HEOK.out.s2,HEOK.out.i4⟩,_,rfl,HNB9.out.mono (memNo_bel HPU31.out)⟩).app (HEVS.out.mono (fun _ _ q=>q.mono (memNo_bel HBU31.out)))) (fun b t u e hc=>memNo_of hc (HW5.out.new (show W5.heap.size<=b by have:=(HR31.out.ge b e).1;omega))))
    have HN:=Lib.hid ((HW5.out.keep HBU31.out).set 3 (.slice a31 n31 c31) (y:={ x with eds:={ ed with blocks:={ bk with story:=wrap64 (bk.story+1) }::ed.blocks.drop 1 }::x.eds.drop 1 }) ⟨⟨HYK.out.i0,HYK.out.s1,HYK.out.i4⟩,.slice ta x.topics.length tc,.slice a31 n31 c31,.slice ca x.corr.length cc,rfl,HYP.out.1.mono (memNo_bel HBU31.out),HEN8.out,HYP.out.2.2.mono (memNo_bel HBU31.out)⟩)
    go_wp2_with fail
    go_meet
    exact⟨_,_,HN⟩
end Go.Proofs.YtdkkhmjlamkgdaaGreatDoor
namespace Go.Proofs.YtdkkhmjlamkgdaaGreatDoor
open Go.ChangeShapes Go.WideShapes Go.RowKit Go.Deep Mg
theorem cell_add {w:World} {a:Addr} {k:Nat} {v:Value} (h:w.cell? (a.add k)=some v):w.cell? ⟨a.block,a.off+k,none⟩=some v:=by
 by_cases hk:k=0
 ·subst hk
  have e:a.add 0=a:=by simp[Addr.add]
  rw[e]at h
  obtain⟨b,o,s⟩:=a
  cases s with
  |none=>exact h
  |some x=>
   unfold World.cell? at h
   simp at h
   split at h <;> simp at h
 ·unfold Addr.add at h
  rwa [if_neg hk]at h
theorem cell_spot {w:World} {a:Addr} {v:Value} (h:w.cell? a=some v):a=⟨a.block,a.off,none⟩:=by
 obtain⟨b,o,s⟩:=a
 cases s with
 |none=>rfl
 |some x=>
  unfold World.cell? at h
  simp at h
  split at h <;> simp at h
theorem add_zero (a:Addr):a.add 0=a:=by simp[Addr.add]
section
variable {H:Type} {enc:TypeId × Value->H} {P:Program} {w W:World} {base:Nat} {spare:Nat->Bool} {held:Bool}
theorem open_rows {t e:TypeId} {fuel n:Nat} {cs:List Value} {x:DataW H × List MemPlace} (ht:P.underlying t=some (.slice e)) (hC:P.cellsOf e=n) (hpos:0<n) (h:DataW.trod enc P w base spare held fuel t cs=some x):
 cs=[.slice none 0 0] ∨
 ∃ (a:Addr) (len cap:Nat),cs=[.slice (some a) len cap]/\len<=cap/\cap<=maxLen/\(0<len->a=⟨a.block,a.off,none⟩) ∧
  ∀ i,i<len->∃ (cs':List Value) (y:DataW H × List MemPlace) (m:Nat),cs'.length=n/\DataW.trod enc P w base spare held m e cs'=some y/\∀ j (hj:j<cs'.length),w.cell? ⟨a.block,a.off+i * n+j,none⟩=some cs'[j]:=by
 subst hC
 rcases DataW.trod_slice ht h with ⟨h0,_⟩ | ⟨a,len,cap,elems,rest,n,rfl,hcs,hx,_,hl,hm,hlen,hel,_,_⟩
 ·exact .inl h0
 ·refine .inr ⟨a,len,cap,hcs,hl,hm,fun h0=>?_,fun i hi=>?_⟩
  ·have h1:=hel 0 h0
   rw[List.getElem?_eq_getElem (by omega),Option.bind_eq_some_iff,Nat.zero_mul,add_zero]at h1
   obtain⟨cs',hc,ht'⟩:=h1
   obtain⟨_,hcl,hat⟩:=World.cells?_some hc
   have h2:=hat 0 hpos
   rw[List.getElem?_eq_getElem (by rw[hcl];exact hpos),add_zero]at h2
   exact cell_spot h2
  have h1:=hel i hi
  rw[List.getElem?_eq_getElem (by omega)]at h1
  rw[Option.bind_eq_some_iff]at h1
  obtain⟨cs',hc,ht'⟩:=h1
  obtain⟨_,hcl,hat⟩:=World.cells?_some hc
  refine⟨cs',_,n,hcl,ht',fun j hj=>?_⟩
  have h2:=hat j (by omega)
  rw[List.getElem?_eq_getElem hj,Go.Deep.add_add]at h2
  rw[Nat.add_assoc]
  exact cell_add h2
theorem int_arg {fuel:Nat} {v:Value} {x:DataW H × List MemPlace} (h:DataW.trod enc Tryz.prog w base spare held fuel 3 [v]=some x):∃ n:Int,v=.int .i64 n/\okI n:=by
 obtain⟨n,h1,_,h2⟩:=DataW.trod_int Tryz.underlying3 h
 injection h1 with h1 _
 refine⟨n,h1,?_⟩
 have e1:IntKind.i64.min=-9223372036854775808:=by decide
 have e2:IntKind.i64.max=9223372036854775807:=by decide
 simp only[Lit.wf,e1,e2,Bool.and_eq_true,decide_eq_true_eq]at h2
 exact h2
theorem string_arg {fuel:Nat} {v:Value} {x:DataW H × List MemPlace} (h:DataW.trod enc Tryz.prog w base spare held fuel 9 [v]=some x):∃ s:ByteArray,v=.string s/\s.size<=maxLen:=by
 obtain⟨s,h1,_,h3⟩:=DataW.trod_string Tryz.underlying9 h
 injection h1 with h1 _
 exact⟨s,h1,h3⟩
theorem each_ints {mem:Addr->Option Value} {b:Nat}:∀ (n o:Nat),(∀ i,i<n->∃ x:Int,mem ⟨b,o+i,none⟩=some (.int .i64 x))->∃ l:List Int,l.length=n/\∀ j (h:j<l.length),mem ⟨b,o+j,none⟩=some (.int .i64 l[j])
 |0,o,_=>⟨[],rfl,fun j h=>absurd h (by simp)⟩
 |n+1,o,h=>by
  obtain⟨x,hx⟩:=h 0 (by omega)
  obtain⟨l,h1,h2⟩:=each_ints n (o+1) (fun i hi=>by rw[show o+1+i=o+(i+1) by omega];exact h (i+1) (by omega))
  refine⟨x::l,by simp[h1],fun j hj=>?_⟩
  cases j with
  |zero=>exact hx
  |succ j=>rw[show o+(j+1)=o+1+j by omega];exact h2 j (by simpa using hj)
theorem cells3:Tryz.prog.cellsOf 3=1:=by kernel_rfl
theorem cells9:Tryz.prog.cellsOf 9=1:=by kernel_rfl
theorem cells25:Tryz.prog.cellsOf 46=1:=by kernel_rfl
theorem cells37:Tryz.prog.cellsOf 48=4:=by kernel_rfl
theorem cells39:Tryz.prog.cellsOf 58=9:=by kernel_rfl
theorem ints_arg {fuel:Nat} {v:Value} {x:DataW H × List MemPlace} (h:DataW.trod enc Tryz.prog w base spare held fuel 46 [v]=some x):∃ l:List Int,IntsM (fun a=>w.cell? a) v l:=by
 rcases open_rows Tryz.underlying46 cells3 (by omega) h with h0 | ⟨a,len,cap,hcs,hl,hm,hsp,hi⟩
 ·injection h0 with h0 _
  subst h0
  exact⟨[],IntsM.nil _⟩
 ·injection hcs with hcs _
  subst hcs
  obtain⟨l,h1,h2⟩:=each_ints (mem:=fun a=>w.cell? a) (b:=a.block) len a.off (fun i hil=>by
   obtain⟨cs',y,m,hcl,ht,hc⟩:=hi i hil
   match cs',hcl with
   |[u],_=>
    obtain⟨n,rfl,_⟩:=int_arg ht
    have:=hc 0 (by simp)
    exact⟨n,by simpa using this⟩)
  subst h1
  exact⟨l,a.block,a.off,⟨Nat.le_trans hl hm,some a,cap,rfl,hl,hm,fun h0=>by rw[<-hsp h0]⟩,h2⟩
theorem one37:∃ fs,Tryz.prog.underlying 48=some (.struct fs)/\(fs.map (·.type)).toList=[3,46,3,3]/\(fs.map (·.offset)).toList=[0,1,2,3]:=
 ⟨_,Tryz.underlying48,by simp,by simp⟩
theorem one39:∃ fs,Tryz.prog.underlying 58=some (.struct fs)/\(fs.map (·.type)).toList=[3,3,9,3,3,48]/\(fs.map (·.offset)).toList=[0,1,2,3,4,5]:=
 ⟨_,Tryz.underlying58,by simp,by simp⟩
theorem field_arg {t:TypeId} {fs:Array Field} {fuel:Nat} {cs:List Value} {x:DataW H × List MemPlace} (hu:P.underlying t=some (.struct fs)) (h:DataW.trod enc P w base spare held fuel t cs=some x):
 ∃ m,∀ (j:Nat) (t':TypeId) (o:Nat),(fs.map (·.type)).toList[j]?=some t'->(fs.map (·.offset)).toList[j]?=some o->∃ y:DataW H × List MemPlace,DataW.trod enc P w base spare held m t' ((cs.drop o).take (P.cellsOf t'))=some y:=by
 obtain⟨xs,n,_,_,_,hlen,hg⟩:=DataW.trod_struct hu h
 refine⟨n,fun j t' o ht ho=>?_⟩
 rw[Array.getElem?_toList,Array.getElem?_map,Option.map_eq_some_iff]at ht ho
 obtain⟨f,hj,rfl⟩:=ht
 obtain⟨f',hj',rfl⟩:=ho
 obtain rfl:=Option.some.inj (hj.symm.trans hj')
 have hjl:j<xs.length:=by rw[hlen];exact(Array.getElem?_eq_some_iff.1 hj).1
 exact⟨xs[j],(hg j f hj).trans (List.getElem?_eq_getElem hjl)⟩
set_option maxRecDepth 100000 in
theorem blk_arg {fuel:Nat} {cs:List Value} {x:DataW H × List MemPlace} (hl:cs.length=9) (h:DataW.trod enc Tryz.prog w base spare held fuel 58 cs=some x) {b o:Nat} (hc:∀ j (hj:j<cs.length),w.cell? ⟨b,o+j,none⟩=some cs[j]):
 ∃ y:Blk,BlkAt (fun a=>w.cell? a) y b o:=by
 obtain⟨fs,hu,hty,hof⟩:=one39
 obtain⟨m,key⟩:=field_arg hu h
 rw[hty,hof]at key
 match cs,hl with
 |[c0,c1,c2,c3,c4,c5,c6,c7,c8],_=>
  obtain⟨y0,t0⟩:=key 0 3 0 rfl rfl
  obtain⟨y1,t1⟩:=key 1 3 1 rfl rfl
  obtain⟨y2,t2⟩:=key 2 9 2 rfl rfl
  obtain⟨y3,t3⟩:=key 3 3 3 rfl rfl
  obtain⟨y4,t4⟩:=key 4 3 4 rfl rfl
  obtain⟨y5,t5⟩:=key 5 48 5 rfl rfl
  rw[cells3]at t0 t1 t3 t4
  rw[cells9]at t2
  rw[cells37]at t5
  obtain⟨gs,hu',hty',hof'⟩:=one37
  obtain⟨m',key'⟩:=field_arg hu' t5
  rw[hty',hof']at key'
  obtain⟨z0,s0⟩:=key' 0 3 0 rfl rfl
  obtain⟨z1,s1⟩:=key' 1 46 1 rfl rfl
  obtain⟨z2,s2⟩:=key' 2 3 2 rfl rfl
  obtain⟨z3,s3⟩:=key' 3 3 3 rfl rfl
  rw[cells3]at s0 s2 s3
  rw[cells25]at s1
  obtain⟨id,rfl,k0⟩:=int_arg (v:=c0) t0
  obtain⟨kind,rfl,k1⟩:=int_arg (v:=c1) t1
  obtain⟨text,rfl,k2⟩:=string_arg (v:=c2) t2
  obtain⟨story,rfl,_⟩:=int_arg (v:=c3) t3
  obtain⟨ref,rfl,_⟩:=int_arg (v:=c4) t4
  obtain⟨till,rfl,_⟩:=int_arg (v:=c5) s0
  obtain⟨after,ka⟩:=ints_arg (v:=c6) s1
  obtain⟨appr,rfl,_⟩:=int_arg (v:=c7) s2
  obtain⟨den,rfl,_⟩:=int_arg (v:=c8) s3
  exact⟨⟨id,kind,text,story,ref,⟨till,after,appr,den⟩⟩,⟨hc 0 (by simp),hc 1 (by simp),hc 2 (by simp),hc 3 (by simp),hc 4 (by simp)⟩,⟨hc 5 (by simp),hc 7 (by simp),hc 8 (by simp)⟩,⟨k2,k1,k0⟩,c6,hc 6 (by simp),ka⟩
theorem each_blks {mem:Addr->Option Value} {b:Nat}:∀ (n o:Nat),(∀ i,i<n->∃ y:Blk,BlkAt mem y b (o+i * 9))->∃ l:List Blk,l.length=n/\BlksAt mem l b o
 |0,o,_=>⟨[],rfl,fun j h=>absurd h (by simp)⟩
 |n+1,o,h=>by
  obtain⟨x,hx⟩:=h 0 (by omega)
  obtain⟨l,h1,h2⟩:=each_blks n (o+9) (fun i hi=>by rw[show o+9+i * 9=o+(i+1) * 9 by omega];exact h (i+1) (by omega))
  refine⟨x::l,by simp[h1],fun j hj=>?_⟩
  cases j with
  |zero=>exact hx
  |succ j=>rw[show o+(j+1) * 9=o+9+j * 9 by omega];exact h2 j (by simpa using hj)
theorem blks_arg {fuel:Nat} {v:Value} {x:DataW H × List MemPlace} (h:DataW.trod enc Tryz.prog w base spare held fuel 37 [v]=some x):∃ l:List Blk,BlksM (fun a=>w.cell? a) v l:=by
 rcases open_rows Tryz.underlying37 cells39 (by omega) h with h0 | ⟨a,len,cap,hcs,hl,hm,hsp,hi⟩
 ·injection h0 with h0 _
  subst h0
  exact⟨[],BlksM.nil _⟩
 ·injection hcs with hcs _
  subst hcs
  obtain⟨l,h1,h2⟩:=each_blks (mem:=fun a=>w.cell? a) (b:=a.block) len a.off (fun i hil=>by
   obtain⟨cs',y,m,hcl,ht,hc⟩:=hi i hil
   exact blk_arg hcl ht hc)
  subst h1
  exact⟨l,a.block,a.off,⟨Nat.le_trans hl hm,some a,cap,rfl,hl,hm,fun h0=>by rw[<-hsp h0]⟩,h2⟩
end
end Go.Proofs.YtdkkhmjlamkgdaaGreatDoor
namespace Go.Proofs.YtdkkhmjlamkgdaaGreatDoor
open Go.RowKit Mg Go.Shelf
end Go.Proofs.YtdkkhmjlamkgdaaGreatDoor
namespace Go.Proofs.YtdkkhmjlamkgdaaGreatDoor
open Go.ChangeShapes Go.WideShapes Go.RowKit Go.Deep Mg
section
variable {H:Type} {enc:TypeId × Value->H} {w W:World} {base:Nat} {spare:Nat->Bool} {held:Bool}
theorem cellsSS:Tryz.prog.cellsOf 30=1:=by kernel_rfl
theorem cellsBB:Tryz.prog.cellsOf 37=1:=by kernel_rfl
theorem cellsFF:Tryz.prog.cellsOf 50=23:=by kernel_rfl
theorem each_strs {mem:Addr->Option Value} {b:Nat}:∀ (n o:Nat),(∀ i,i<n->∃ x:ByteArray,mem ⟨b,o+i,none⟩=some (.string x)/\x.size<=maxLen)->∃ l:List ByteArray,l.length=n/\(∀ s∈l,s.size<=maxLen)/\∀ j (h:j<l.length),mem ⟨b,o+j,none⟩=some (.string l[j])
 |0,o,_=>⟨[],rfl,(fun s h=>by cases h),fun j h=>absurd h (by simp)⟩
 |n+1,o,h=>by
  obtain⟨x,hx,hx2⟩:=h 0 (by omega)
  obtain⟨l,h1,h3,h2⟩:=each_strs n (o+1) (fun i hi=>by rw[show o+1+i=o+(i+1) by omega];exact h (i+1) (by omega))
  refine⟨x::l,by simp[h1],fun s hs=>?_,fun j hj=>?_⟩
  ·rcases List.mem_cons.1 hs with rfl | hs
   ·exact hx2
   ·exact h3 s hs
  cases j with
  |zero=>exact hx
  |succ j=>rw[show o+(j+1)=o+1+j by omega];exact h2 j (by simpa using hj)
theorem strs_arg {fuel:Nat} {v:Value} {x:DataW H × List MemPlace} (h:DataW.trod enc Tryz.prog w base spare held fuel 30 [v]=some x):∃ l:List ByteArray,StrsM (fun a=>w.cell? a) v l:=by
 rcases open_rows Tryz.underlying30 cells9 (by omega) h with h0 | ⟨a,len,cap,hcs,hl,hm,hsp,hi⟩
 ·injection h0 with h0 _
  subst h0
  exact⟨[],StrsM.nil _⟩
 ·injection hcs with hcs _
  subst hcs
  obtain⟨l,h1,h3,h2⟩:=each_strs (mem:=fun a=>w.cell? a) (b:=a.block) len a.off (fun i hil=>by
   obtain⟨cs',y,m,hcl,ht,hc⟩:=hi i hil
   match cs',hcl with
   |[u],_=>
    obtain⟨n,rfl,hn⟩:=string_arg ht
    have:=hc 0 (by simp)
    exact⟨n,by simpa using this,hn⟩)
  subst h1
  exact⟨l,a.block,a.off,⟨Nat.le_trans hl hm,some a,cap,rfl,hl,hm,fun h0=>by rw[<-hsp h0]⟩,h3,h2⟩
theorem oneFF:∃ fs,Tryz.prog.underlying 50=some (.struct fs)/\(fs.map (·.type)).toList=[3,3,3,3,9,3,3,9,9,30,37,48,3,3,3,9,9,3,3,3]/\(fs.map (·.offset)).toList=[0,1,2,3,4,5,6,7,8,9,10,11,15,16,17,18,19,20,21,22]:=
 ⟨_,Tryz.underlying50,by simp,by simp⟩
set_option maxRecDepth 100000 in
set_option maxHeartbeats 1000000 in
theorem fct_arg {fuel:Nat} {cs:List Value} {x:DataW H × List MemPlace} (hl:cs.length=23) (h:DataW.trod enc Tryz.prog w base spare held fuel 50 cs=some x):∃ e:FctE,e.ok (fun a=>w.cell? a)/\e.cells.toList=cs:=by
 obtain⟨fs,hu,hty,hof⟩:=oneFF
 obtain⟨m,key⟩:=field_arg hu h
 rw[hty,hof]at key
 match cs,hl with
 |[c0,c1,c2,c3,c4,c5,c6,c7,c8,c9,c10,c11,c12,c13,c14,c15,c16,c17,c18,c19,c20,c21,c22],_=>
  obtain⟨y0,t0⟩:=key 0 3 0 rfl rfl
  rw[cells3]at t0
  obtain⟨y1,t1⟩:=key 1 3 1 rfl rfl
  rw[cells3]at t1
  obtain⟨y2,t2⟩:=key 2 3 2 rfl rfl
  rw[cells3]at t2
  obtain⟨y3,t3⟩:=key 3 3 3 rfl rfl
  rw[cells3]at t3
  obtain⟨y4,t4⟩:=key 4 9 4 rfl rfl
  rw[cells9]at t4
  obtain⟨y5,t5⟩:=key 5 3 5 rfl rfl
  rw[cells3]at t5
  obtain⟨y6,t6⟩:=key 6 3 6 rfl rfl
  rw[cells3]at t6
  obtain⟨y7,t7⟩:=key 7 9 7 rfl rfl
  rw[cells9]at t7
  obtain⟨y8,t8⟩:=key 8 9 8 rfl rfl
  rw[cells9]at t8
  obtain⟨y9,t9⟩:=key 9 30 9 rfl rfl
  rw[cellsSS]at t9
  obtain⟨y10,t10⟩:=key 10 37 10 rfl rfl
  rw[cellsBB]at t10
  obtain⟨y11,t11⟩:=key 11 48 11 rfl rfl
  rw[cells37]at t11
  obtain⟨y12,t12⟩:=key 12 3 15 rfl rfl
  rw[cells3]at t12
  obtain⟨y13,t13⟩:=key 13 3 16 rfl rfl
  rw[cells3]at t13
  obtain⟨y14,t14⟩:=key 14 3 17 rfl rfl
  rw[cells3]at t14
  obtain⟨y15,t15⟩:=key 15 9 18 rfl rfl
  rw[cells9]at t15
  obtain⟨y16,t16⟩:=key 16 9 19 rfl rfl
  rw[cells9]at t16
  obtain⟨y17,t17⟩:=key 17 3 20 rfl rfl
  rw[cells3]at t17
  obtain⟨y18,t18⟩:=key 18 3 21 rfl rfl
  rw[cells3]at t18
  obtain⟨y19,t19⟩:=key 19 3 22 rfl rfl
  rw[cells3]at t19
  obtain⟨n,rfl,k0⟩:=int_arg (v:=c0) t0
  obtain⟨time,rfl,k1⟩:=int_arg (v:=c1) t1
  obtain⟨kind,rfl,k2⟩:=int_arg (v:=c2) t2
  obtain⟨story,rfl,k3⟩:=int_arg (v:=c3) t3
  obtain⟨lang,rfl,k4⟩:=string_arg (v:=c4) t4
  obtain⟨rev,rfl,k5⟩:=int_arg (v:=c5) t5
  obtain⟨base,rfl,k6⟩:=int_arg (v:=c6) t6
  obtain⟨title,rfl,k7⟩:=string_arg (v:=c7) t7
  obtain⟨author,rfl,k8⟩:=string_arg (v:=c8) t8
  obtain⟨topics,kt⟩:=strs_arg (v:=c9) t9
  obtain⟨blocks,kb⟩:=blks_arg (v:=c10) t10
  obtain⟨gs,hu',hty',hof'⟩:=one37
  obtain⟨m',key'⟩:=field_arg hu' t11
  rw[hty',hof']at key'
  obtain⟨z0,s0⟩:=key' 0 3 0 rfl rfl
  obtain⟨z1,s1⟩:=key' 1 46 1 rfl rfl
  obtain⟨z2,s2⟩:=key' 2 3 2 rfl rfl
  obtain⟨z3,s3⟩:=key' 3 3 3 rfl rfl
  rw[cells3]at s0 s2 s3
  rw[cells25]at s1
  obtain⟨ltill,rfl,l0⟩:=int_arg (v:=c11) s0
  obtain⟨after,ka⟩:=ints_arg (v:=c12) s1
  obtain⟨appr,rfl,l2⟩:=int_arg (v:=c13) s2
  obtain⟨den,rfl,l3⟩:=int_arg (v:=c14) s3
  obtain⟨editor,rfl,k12⟩:=int_arg (v:=c15) t12
  obtain⟨block,rfl,k13⟩:=int_arg (v:=c16) t13
  obtain⟨sentence,rfl,k14⟩:=int_arg (v:=c17) t14
  obtain⟨text,rfl,k15⟩:=string_arg (v:=c18) t15
  obtain⟨name,rfl,k16⟩:=string_arg (v:=c19) t16
  obtain⟨partner,rfl,k17⟩:=int_arg (v:=c20) t17
  obtain⟨cls,rfl,k18⟩:=int_arg (v:=c21) t18
  obtain⟨till,rfl,k19⟩:=int_arg (v:=c22) t19
  obtain⟨ta,tc,rfl⟩:=kt.slice
  obtain⟨ba,bc,rfl⟩:=kb.slice
  obtain⟨aa,ac,rfl⟩:=ka.slice
  exact⟨⟨⟨n,time,kind,story,lang,rev,base,title,author,topics,blocks,⟨ltill,after,appr,den⟩,editor,block,sentence,text,name,partner,cls,till⟩,ta,tc,ba,bc,aa,ac⟩,⟨⟨k0,k1,k2,k3,k4,k5,k6,k7,k8,l0,l2,l3,k12,k13,k14,k15,k16,k17,k18,k19,blks_ok kb⟩,kt,kb,ka⟩,rfl⟩
end
section
variable {H:Type} {enc:TypeId × Value->H} {P:Program} {w W:World} {base:Nat} {spare:Nat->Bool} {held:Bool}
def SizedG (P:Program) (t:TypeId) (d:DataW H):Prop:=∀ n∈d.weights P t,n<=reachBytes
theorem sizedG_each {ts:List TypeId} {ds:List (DataW H)} (h:(DataW.weightsEach P ts ds).all (·<=reachBytes)=true) {j:Nat} {t:TypeId} {d:DataW H} (ht:ts[j]?=some t) (hd:ds[j]?=some d):SizedG P t d:=fun n hn=>by
 simpa using List.all_eq_true.1 h _ (DataW.weights_mem_each ht hd n hn)
theorem weightsG_all {e:TypeId}:∀ {l:List (DataW H)} {d:DataW H} {n:Nat},d∈l->n∈d.weights P e->n∈DataW.weightsAll P e l
 |[],_,_,h,_=>by cases h
 |x::l,d,n,h,hn=>by
  simp only[DataW.weightsAll,List.mem_append]
  rcases List.mem_cons.1 h with rfl | h
  ·exact .inl hn
  ·exact .inr (weightsG_all h hn)
theorem sizedG_elems {t e:TypeId} (ht:P.underlying t=some (.slice e)) {elems rest:List (DataW H)} (h:SizedG P t (.slice elems rest)):∀ d∈elems,SizedG P e d:=fun d hd n hn=>h n (by
 simp only[DataW.weights,ht,List.mem_cons,List.mem_append]
 exact .inr (.inl (weightsG_all hd hn)))
theorem sizedG_fields {t:TypeId} {fs:Array Field} (hu:P.underlying t=some (.struct fs)) {parts:List (DataW H)} (h:SizedG P t (.agg parts)) {j:Nat} {t':TypeId} {d:DataW H} (ht:(fs.toList.map (·.type))[j]?=some t') (hd:parts[j]?=some d):SizedG P t' d:=fun n hn=>h n (by
 simp only[DataW.weights,hu]
 exact DataW.weights_mem_each ht hd n hn)
theorem open_rowsG {t e:TypeId} {fuel n:Nat} {cs:List Value} {x:DataW H × List MemPlace} (ht:P.underlying t=some (.slice e)) (hC:P.cellsOf e=n) (hpos:0<n) (h:DataW.trod enc P w base spare held fuel t cs=some x) (hz:SizedG P t x.1):
 cs=[.slice none 0 0] ∨
 ∃ (a:Addr) (len cap:Nat),cs=[.slice (some a) len cap]/\len<=cap/\cap<=maxLen/\(0<len->a=⟨a.block,a.off,none⟩) ∧
  ∀ i,i<len->∃ (cs':List Value) (y:DataW H × List MemPlace) (m:Nat),cs'.length=n/\DataW.trod enc P w base spare held m e cs'=some y/\SizedG P e y.1/\∀ j (hj:j<cs'.length),w.cell? ⟨a.block,a.off+i * n+j,none⟩=some cs'[j]:=by
 subst hC
 rcases DataW.trod_slice ht h with ⟨h0,_⟩ | ⟨a,len,cap,elems,rest,n,rfl,hcs,hx,_,hl,hm,hlen,hel,_,_⟩
 ·exact .inl h0
 ·rw[hx]at hz
  have hz2:=sizedG_elems ht hz
  refine .inr ⟨a,len,cap,hcs,hl,hm,fun h0=>?_,fun i hi=>?_⟩
  ·have h1:=hel 0 h0
   rw[List.getElem?_eq_getElem (by omega),Option.bind_eq_some_iff,Nat.zero_mul,add_zero]at h1
   obtain⟨cs',hc,ht'⟩:=h1
   obtain⟨_,hcl,hat⟩:=World.cells?_some hc
   have h2:=hat 0 hpos
   rw[List.getElem?_eq_getElem (by rw[hcl];exact hpos),add_zero]at h2
   exact cell_spot h2
  have h1:=hel i hi
  rw[List.getElem?_eq_getElem (by omega)]at h1
  rw[Option.bind_eq_some_iff]at h1
  obtain⟨cs',hc,ht'⟩:=h1
  obtain⟨_,hcl,hat⟩:=World.cells?_some hc
  refine⟨cs',_,n,hcl,ht',hz2 _ (List.mem_map.2 ⟨_,List.getElem_mem (by omega),rfl⟩),fun j hj=>?_⟩
  have h2:=hat j (by omega)
  rw[List.getElem?_eq_getElem hj,Go.Deep.add_add]at h2
  rw[Nat.add_assoc]
  exact cell_add h2
theorem field_argG {t:TypeId} {fs:Array Field} {fuel:Nat} {cs:List Value} {x:DataW H × List MemPlace} (hu:P.underlying t=some (.struct fs)) (h:DataW.trod enc P w base spare held fuel t cs=some x) (hz:SizedG P t x.1):
 ∃ m,∀ (j:Nat) (t':TypeId) (o:Nat),(fs.map (·.type)).toList[j]?=some t'->(fs.map (·.offset)).toList[j]?=some o->∃ y:DataW H × List MemPlace,DataW.trod enc P w base spare held m t' ((cs.drop o).take (P.cellsOf t'))=some y/\SizedG P t' y.1:=by
 obtain⟨xs,n,_,hx,_,hlen,hg⟩:=DataW.trod_struct hu h
 rw[hx]at hz
 refine⟨n,fun j t' o ht ho=>?_⟩
 have htt:(fs.toList.map (·.type))[j]?=some t':=by rw[<-ht];simp
 rw[Array.getElem?_toList,Array.getElem?_map,Option.map_eq_some_iff]at ht ho
 obtain⟨f,hj,rfl⟩:=ht
 obtain⟨f',hj',rfl⟩:=ho
 obtain rfl:=Option.some.inj (hj.symm.trans hj')
 have hjl:j<xs.length:=by rw[hlen];exact(Array.getElem?_eq_some_iff.1 hj).1
 exact⟨xs[j],(hg j f hj).trans (List.getElem?_eq_getElem hjl),sizedG_fields hu hz htt (by rw[List.getElem?_map,List.getElem?_eq_getElem hjl];rfl)⟩
theorem string_argG {fuel:Nat} {a:ByteArray} {x:DataW H × List MemPlace} (h:DataW.trod enc Tryz.prog w base spare held fuel 9 [.string a]=some x) (hz:SizedG Tryz.prog 9 x.1):a.size<=140737488351232:=by
 obtain⟨s,h1,h2,_⟩:=DataW.trod_string Tryz.underlying9 h
 injection h1 with h1 _
 injection h1 with h1
 subst h1
 rw[h2]at hz
 have:=hz a.data.toList.length (by simp[DataW.weights])
 have e:a.data.toList.length=a.size:=Array.length_toList
 rw[e]at this
 exact this
set_option maxRecDepth 100000 in
theorem fct_argG {fuel:Nat} {e:FctE} {x:DataW H × List MemPlace} (h:DataW.trod enc Tryz.prog w base spare held fuel 50 e.cells.toList=some x) (hz:SizedG Tryz.prog 50 x.1):e.f.author.size<=140737488351232/\e.f.title.size<=140737488351232:=by
 obtain⟨fs,hu,hty,hof⟩:=oneFF
 obtain⟨m,key⟩:=field_argG hu h hz
 rw[hty,hof]at key
 obtain⟨y7,t7,z7⟩:=key 7 9 7 rfl rfl
 rw[cells9]at t7
 obtain⟨y8,t8,z8⟩:=key 8 9 8 rfl rfl
 rw[cells9]at t8
 exact⟨string_argG (a:=e.f.author) t8 z8,string_argG (a:=e.f.title) t7 z7⟩
theorem each_fctG {mem:Addr->Option Value} {b:Nat} {p:FctE->Prop}:∀ (n o:Nat),(∀ i,i<n->∃ y:FctE,(y.ok mem/\y.at mem b (o+i * 23))/\p y)->∃ l:List FctE,l.length=n/\(∀ j (h:j<l.length),l[j].ok mem/\l[j].at mem b (o+j * 23))/\∀ x∈l,p x
 |0,o,_=>⟨[],rfl,(fun j h=>absurd h (by simp)),fun x h=>by cases h⟩
 |n+1,o,h=>by
  obtain⟨x,hx,px⟩:=h 0 (by omega)
  obtain⟨l,h1,h2,h3⟩:=each_fctG n (o+23) (fun i hi=>by rw[show o+23+i * 23=o+(i+1) * 23 by omega];exact h (i+1) (by omega))
  refine⟨x::l,by simp[h1],fun j hj=>?_,fun y hy=>?_⟩
  ·cases j with
   |zero=>exact hx
   |succ j=>rw[show o+(j+1) * 23=o+23+j * 23 by omega];exact h2 j (by simpa using hj)
  ·rcases List.mem_cons.1 hy with rfl | hy
   ·exact px
   ·exact h3 y hy
set_option maxRecDepth 100000 in
theorem facts_inG {b0:Nat} {v:Value} {d:DataW H} {p:List MemPlace} (hv:Value.okWide Tryz.prog W .any b0 22 v) (h:DataW.Trod enc Tryz.prog W 0 (fun _=>true) true 22 v d p) (hz:SizedG Tryz.prog 22 d):∃ l:List FctE,EsM (fun a=>W.cell? a) v l/\∀ x∈l,x.f.author.size<=140737488351232/\x.f.title.size<=140737488351232:=by
 obtain⟨a,len,cap,rfl⟩:=okWide_slice Tryz.underlying22 hv
 obtain⟨fuel,h⟩:=h
 rcases open_rowsG Tryz.underlying22 cellsFF (by omega) h hz with h0 | ⟨a,len,cap,hcs,hl,hm,hsp,hi⟩
 ·injection h0 with h0 _
  rw[h0]
  exact⟨[],⟨0,0,sliceNil,fun j hj=>absurd hj (by simp)⟩,fun x h=>by cases h⟩
 ·injection hcs with hcs _
  rw[hcs]
  obtain⟨l,h1,h2,h3⟩:=each_fctG (mem:=fun a=>W.cell? a) (b:=a.block) (p:=fun x=>x.f.author.size<=140737488351232/\x.f.title.size<=140737488351232) len a.off (fun i hil=>by
   obtain⟨cs',y,m,hcl,ht,hzy,hc⟩:=hi i hil
   obtain⟨e,he,hec⟩:=fct_arg hcl ht
   subst hec
   refine⟨e,⟨he,fun j u hj=>?_⟩,fct_argG ht hzy⟩
   have hj2:=(Array.getElem?_eq_some_iff.1 hj).1
   have:=hc j (by rw[Array.length_toList];exact hj2)
   rw[Array.getElem?_eq_getElem hj2]at hj
   rw[Array.getElem_toList]at this
   exact this.trans hj)
  subst h1
  exact⟨l,⟨a.block,a.off,⟨Nat.le_trans hl hm,some a,cap,rfl,hl,hm,fun h0=>by rw[<-hsp h0]⟩,h2⟩,h3⟩
end
end Go.Proofs.YtdkkhmjlamkgdaaGreatDoor
namespace Go.Proofs.YtdkkhmjlamkgdaaGreatDoor
open Go.ChangeShapes Go.WideShapes Go.ChangeAt Go.RowKit Go.ChangeMaps Go.Deep
section
variable {H:Type} {enc:TypeId × Value->H} {P:Program}
theorem post_of_below {f:Func} {s:ChangeSpec} {apart fresh handsOn again:Bool} {W W':World} {args:Array Value} {v:Value} {ds gs:List (DataW H)} {before pa pv:List MemPlace}
 (hW:DataW.Whole enc P f.params.toList s.vars apart W args.toList ds gs before)
 (hres:∀ (b:Nat) (sp:Nat->Bool) (hd:Bool),DataW.TrodAll enc P W' b sp hd f.resultTypes.toList (v.resultList f.resultTypes.size) (s.fn H (ds++gs)).results [])
 (hargs:∀ sp:Nat->Bool,(∀ p∈before,sp p.block=true)->DataW.TrodAll enc P W' 0 sp true f.params.toList args.toList (s.fn H (ds++gs)).args pa)
 (hvars:∀ sp:Nat->Bool,(∀ p∈before,sp p.block=true)->DataW.TrodVars enc P W' sp s.vars (s.fn H (ds++gs)).vars pv)
 (hps:before=pa++pv) (hb:Below W.heap.size W W')
 (hok:∀ (j:Nat) (t:TypeId) (r:Value),f.resultTypes[j]?=some t->(v.resultList f.resultTypes.size)[j]?=some r->Value.okWide P W' .any 0 t r):
 s.post enc P f apart fresh handsOn again W args v W':=by
 have hlt:∀ p∈before,p.block<W.heap.size:=fun p hp=>hW.lt p hp
 have hold:∀ p∈before,(fun b=>decide (b<W.heap.size)) p.block=true:=fun p hp=>by simpa using hlt p hp
 refine⟨ds,gs,before,[],pa,pv,hW,hres _ _ _,hargs _ hold,hvars _ hold,World.keptBut_mono (fun p hp=>⟨hp,?_⟩) (hb.frame (·∈before)),fun _=>?_⟩
 ·rw[hps,List.mem_append]at hp
  exact Or.inr hp
 ·obtain⟨_,_,_,_,_,hz,hn⟩:=hW
  refine⟨hok,_,_,([]++pa)++pv,⟨[]++pa,pv,trodAll_append (hargs _ (fun _ _=>rfl)) (hres _ _ _),hvars _ (fun _ _=>rfl),rfl,?_,?_⟩,?_⟩
  ·intro b off hp
   have hin:MemPlace.cell b off∈before:=by rw[hps];simpa using hp
   rw[hb.frozen (hlt _ hin)]
   exact hz b off hin
  ·intro ha
   have:=hn ha
   rw[hps]at this
   simpa using this
  ·intro p hp _
   rw[hps]
   simpa using hp
end
theorem own:ownKnob Tryz.prog.godebug=none:=by kernel_rfl
def laidAll:List (String × DataW Unit):=Rows.stateSortedRow.laid
noncomputable def lit1:DataW Unit->List Value
 |.lit (.int k n)=>[.int k n]
 |.agg ps=>ps.flatMap fun
  |.lit (.int k n)=>[.int k n]
  |_=>[]
 |_=>[]
noncomputable def lit2:DataW Unit->List Value
 |.agg ps=>ps.flatMap lit1
 |_=>[]
noncomputable def layIn (h:Array Obj) (x:String × DataW Unit):Array Obj:=
 match Tryz.prog.globalNamed x.1 with
 |some g=>h.modify g (fun o=>match o with
  |.cells _ t _=>.cells (lit2 x.2).toArray t (0,0)
  |o=>o)
 |none=>h
noncomputable def laidWorld (os:Os):World:=
 { World.holding Tryz.prog os ⟨#[],#[],[]⟩ with heap:=laidAll.foldl layIn (World.holding Tryz.prog os ⟨#[],#[],[]⟩).heap }
theorem laidOut:laidOutB Tryz.prog=true:=by kernel_rfl
theorem trodAll_stays {H:Type} {enc:TypeId × Value->H} {W W':World} (hb:Below W.heap.size W W') (sp:Nat->Bool):∀ {ts:List TypeId} {vs:List Value} {ds:List (DataW H)} {ps:List MemPlace},
 (∀ t∈ts,Tryz.prog.readableRec t=true/\t<Tryz.prog.types.size)->DataW.TrodAll enc Tryz.prog W 0 (fun _=>true) true ts vs ds ps->(∀ p∈ps,p.block<W.heap.size)->(∀ p∈ps,sp p.block=true) →
 DataW.TrodAll enc Tryz.prog W' 0 sp true ts vs ds ps
 |[],[],[],_,_,h,_,_=>h
 |t::ts,v::vs,d::ds,_,hr,h,hlt,hsp=>by
  obtain⟨p,q,h1,h2,rfl⟩:=h
  refine⟨p,q,WideElems.Trod_stays laidOut (hr t (by simp)).1 (hr t (by simp)).2 h1 (fun x hx=>hb.same (hlt x (by simp[hx]))) (fun x hx=>hsp x (by simp[hx])),?_,rfl⟩
  exact trodAll_stays hb sp (fun t ht=>hr t (by simp[ht])) h2 (fun x hx=>hlt x (by simp[hx])) (fun x hx=>hsp x (by simp[hx]))
 |[],_::_,_,_,_,h,_,_=>h.elim
 |[],[],_::_,_,_,h,_,_=>h.elim
 |_::_,[],_,_,_,h,_,_=>h.elim
 |_::_,_::_,[],_,_,h,_,_=>h.elim
set_option maxRecDepth 100000 in
theorem close_law {H:Type} {enc:TypeId × Value->H} {f:Func} {s:ChangeSpec} {W W':World} {args:Array Value} {ds gs:List (DataW H)} {before:List MemPlace}
 (hW:DataW.Whole enc Tryz.prog f.params.toList s.vars false W args.toList ds gs before) (hv:s.vars=[]) (hres:f.resultTypes=#[4])
 (hspec:(s.fn H ds).results=[.lit (.bool true)]/\(s.fn H ds).args=ds/\(s.fn H ds).vars=[]) (hread:∀ t∈f.params.toList,Tryz.prog.readableRec t=true/\t<Tryz.prog.types.size) (hb:Below W.heap.size W W'):
 s.post enc Tryz.prog f false true false false W args (.bool true) W':=by
 have hW2:=hW
 obtain⟨p,q,hA,hV,rfl,_,_⟩:=hW
 rw[hv]at hV
 obtain⟨rfl,rfl⟩:=trodVars_none hV
 obtain⟨s1,s2,s3⟩:=hspec
 have hlt:=hW2.lt
 refine post_of_below (pa:=p) (pv:=[]) hW2 (fun _ _ _=>?_) (fun sp hsp=>?_) (fun _ _=>?_) rfl hb ?_
 ·rw[List.append_nil,s1,hres]
  exact trodAll_cons_mk (shut_bool Tryz.underlying4 _) trodAll_mk0
 ·rw[List.append_nil,s2]
  exact trodAll_stays hb sp hread hA (fun x hx=>hlt x (by simp[hx])) (fun x hx=>hsp x (by simp[hx]))
 ·rw[List.append_nil,s3,hv]
  exact rfl
 ·exact ok_one hres rfl (okWide_bool_mk Tryz.underlying4 _)
def joinedRest (P:Program) (fn:Func) (s:ChangeSpec) (c:OpenClaim):Bool:=
 c.wf (OpenSpec.ofChange s) && laidOutB P && mapsRowed P &&
 fn.params.all (P.readableRec ·) && namedTie P c.named s.vars &&
 (c.stops == []) && (P.stops == []) && (c.knobs == []) && (P.stopKnobs == []) &&
 (c.maps == (fn.params.toList++s.plain.varTypes P).any (P.mapsRec ·)) && (c.ifaces == (fn.params.toList++s.plain.varTypes P).any (P.ifacesRec ·)) && (c.mapsOut == P.mapsAmong fn.resultTypes.toList) &&
 (c.loops == (fn.params.toList++s.plain.varTypes P).any (P.loopsFrom ·)) && (c.wideKeys == (fn.params.toList++s.plain.varTypes P++fn.resultTypes.toList).any (P.wideKeysFrom ·)) &&
 s.vars.all (P.varReadable ·) && fn.resultTypes.all (fun t=>P.readableRec t && decide (t<P.types.size)) && (c.ifacesOut == fn.resultTypes.toList.any (P.ifacesRec ·)) && (c.loopsOut == fn.resultTypes.toList.any (P.loopsFrom ·)) && (c.plainKeys == P.plainKeys) && c.shortTexts.isNone && (c.kinds == (if c.domain.isEmpty then [] else fn.params.toList.map fun t=>match P.underlying t with | some (.int k)=>some k | _=>none)) && (c.pinned == c.pinnedBy) &&
 (c.veiled == (fn.params.toList++s.plain.varTypes P++fn.resultTypes.toList).any (P.veiledRec ·)) && c.veiledFits P fn.params.toList (fn.params.toList++s.plain.varTypes P++fn.resultTypes.toList)
theorem joined_of {P:Program} {f:FuncId} {fn:Func} {s:ChangeSpec} {c:OpenClaim} (p1:(c.inPlace == P.inPlace f)=true) (p2:(c.unfollowed == P.unfollowed f)=true) (p3:(c.recurses == P.recurses f)=true) (p4:(c.named == P.varsNamed f)=true)
 (p5:P.stopsHeard=true) (p6:P.mayEnter=true) (p7:(c.lifted == P.liftsFinal)=true) (p8:(P.make == some c.make)=true) (hr:joinedRest P fn s c=true):joinedFacts P f fn s c=true:=by
 unfold joinedRest at hr
 unfold joinedFacts
 rw[p1,p2,p3,p4,p5,p6,p7,p8]
 simp only[Bool.and_true,Bool.and_assoc]at hr ⊢
 exact hr
theorem pr_heard:Tryz.prog.stopsHeard=true:=by kernel_rfl
theorem pr_enter:Tryz.prog.mayEnter=true:=by kernel_rfl
theorem pr_lifts:(Rows.stateSortedRow.lifted == Tryz.prog.liftsFinal)=true:=by kernel_rfl
theorem pr_make:(Tryz.prog.make == some Rows.stateSortedRow.make)=true:=by kernel_rfl
end Go.Proofs.YtdkkhmjlamkgdaaGreatDoor

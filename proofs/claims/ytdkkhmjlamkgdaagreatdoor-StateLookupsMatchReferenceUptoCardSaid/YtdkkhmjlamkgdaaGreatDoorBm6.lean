/-
  WHAT IS PROVED HERE: 18 texts joined, each with its own head: what the walks of the program give. Conditions: each at its place.
-/
import Derived.Test.YtdkkhmjlamkgdaaGreatDoorBq5
import Derived.Laws.IdiomStrings
import Derived.Test.YtdkkhmjlamkgdaaGreatDoorProg
import Derived.ProofKit
import Derived.OpenShut
import Derived.ChangeSame
import Derived.Deep.Fields
import Derived.Test.YtdkkhmjlamkgdaaGreatDoorRows
import Derived.Test.YtdkkhmjlamkgdaaGreatDoorCards
import Derived.Test.YtdkkhmjlamkgdaaGreatDoorTie
import Derived.ChangeMaps5
import Derived.Carry
import Derived.Deep.DeepHandedRow
namespace Go.Proofs.YtdkkhmjlamkgdaaGreatDoor
open Go.RowKit Mg Go.Shelf Go.Maps
theorem StyV.mono {mem mem':Addr->Option Value} {x:StyF} {v:Value} (h:StyV mem v x) (hm:∀ a u,mem a=some u->mem' a=some u):StyV mem' v x:=by
 obtain⟨h0,tv,ev,cv,h1,h2⟩:=h
 exact⟨h0,tv,ev,cv,h1,h2.mono hm⟩
theorem EdnV.mono {mem mem':Addr->Option Value} {e:EdnF} {v:Value} (h:EdnV mem v e) (hm:∀ a u,mem a=some u->mem' a=some u):EdnV mem' v e:=by
 obtain⟨h0,bv,h1,h2⟩:=h
 exact⟨h0,bv,h1,h2.mono hm⟩
theorem bs_cat (a b:List UInt8):bs a++bs b=bs (a++b):=str_ext (by simp)
abbrev zEdnR:Array Value:=#[.string ⟨#[]⟩,.int .i64 0,.string ⟨#[]⟩,.slice none 0 0,.int .i64 0]
def RefEdn (mem:Addr->Option Value) (s:StF) (id:Int) (lang:ByteArray) (w:World) (e:Ending) (w':World):Prop:=∃ u,e=.returned (.tuple #[u,.bool (ednOf s id lang).isSome])/\EdnV mem u ((ednOf s id lang).getD edn0)/\Below w.heap.size w w'
set_option maxRecDepth 100000 in
set_option maxHeartbeats 4000000 in
theorem refEdition_any {mem:Addr->Option Value} {v:Value} {s:StF} (h:StateM mem v s) (id:Int) (lang:ByteArray) (w:World) (hs:Sees mem w):
 Calls Tryz.prog 22 #[v,.int .i64 id,.string lang] w (RefEdn mem s id lang w):=by
 have HST:=Lib.hid h
 obtain⟨sv,tv,rfl,h1,h2⟩:=h
 obtain⟨sa,sc,rfl⟩:=SlM.slice h1
 obtain⟨ta,tc,rfl⟩:=SlM.slice h2
 have HS:=Lib.hid hs
 obtain⟨W1,hW1⟩:∃ W1,W1=(w.alloc (.cells #[.slice sa s.stories.length sc,.slice ta s.tpls.length tc] 27)).alloc (.cells zEdnR 39):=⟨_,rfl⟩
 have hb1:Below w.heap.size w W1:=by rw[hW1];exact(bel1 w _).alloc (by simp) _
 have HN0:Hid (W1.heap[w.heap.size]?=some (.cells #[.slice sa s.stories.length sc,.slice ta s.tpls.length tc] 27 (0,0))):=Lib.hid (by rw[hW1];exact heap_new1 w _ _)
 have HN1:Hid (W1.heap[w.heap.size+1]?=some (.cells zEdnR 39 (0,0))):=Lib.hid (by
  rw[hW1]
  have:=World.alloc_heap_new (w.alloc (.cells #[.slice sa s.stories.length sc,.slice ta s.tpls.length tc] 27)) (.cells zEdnR 39)
  simpa using this)
 have HB1:=Lib.hid hb1
 have HW1:=Lib.hid hW1
 have cS:=Lib.hid (refFind_any HST.out id W1 (hs.bel hb1))
 clear h1 h2 hs hb1 hW1
 go_enter Tryz.func22,Tryz.ntmps22
 go_upto_region 1 with fail
 rw[<-HW1.out]
 go_wp2_with ((with_reducible refine at_sload 27 _ rfl ?_);go_must (refine wpList_sload rfl S_state _ rfl (by simp[Act.eval]) #[.slice sa s.stories.length sc,.slice ta s.tpls.length tc] rfl HN0.out ?_))
 refine cS.out.mono ?_
 rintro e W2 ⟨u,rfl,hu,hb2⟩
 have HEO:Hid (ednOf s id lang=findE (styOf s id).eds lang):=Lib.hid rfl
 obtain⟨hok,t0,e0,c0,rfl,hP⟩:=hu
 obtain⟨hPt,hPe,hPc⟩:=hP
 obtain⟨t1,t2,rfl⟩:=hPt.slice
 obtain⟨c1,c2,rfl⟩:=SlM.slice hPc
 obtain⟨ea,ec,eb,eo,rfl,hcap,hm,hea,heat⟩:=SlM.open_ hPe
 have HEA:=Lib.hid hea
 have HEAT:=Lib.hid heat
 have hll:(styOf s id).eds.length<=9223372036854775807:=by unfold maxLen at hm;omega
 have HB2:=Lib.hid hb2
 clear hok hPt hPe hPc hb2 cS hea heat
 generalize (findS s id).isSome=q at *
 generalize styOf s id=X at *
 go_upto_region 2 with ((with_reducible refine at_sstore 34 _ _ rfl ?_);go_must (refine wpList_snew rfl S_sty _ _ rfl rfl _ _ (styCells X (.slice t1 X.topics.length t2) (.slice ea X.eds.length ec) (.slice c1 X.corr.length c2)) (by simp[Act.eval]) (by simp[Act.eval]) rfl rfl (by simp[Value.oneCell']) ?_))
 obtain⟨W3,hW3⟩:∃ W3,W3=W2.alloc (.cells (styCells X (.slice t1 X.topics.length t2) (.slice ea X.eds.length ec) (.slice c1 X.corr.length c2)) 34):=⟨_,rfl⟩
 rw[<-hW3]
 have hb3:Below W2.heap.size W2 W3:=by rw[hW3];exact bel1 _ _
 have HN3:Hid (W3.heap[W2.heap.size]?=some (.cells (styCells X (.slice t1 X.topics.length t2) (.slice ea X.eds.length ec) (.slice c1 X.corr.length c2)) 34 (0,0))):=Lib.hid (by rw[hW3];exact World.alloc_heap_new _ _)
 have HB3:Hid (Below W1.heap.size W1 W3):=Lib.hid (HB2.out.trans (hb3.mono HB2.out.size))
 clear hW3 hb3
 go_wp2_with fail
 go_loopw [10] (fun i wr=>∃ k:Nat,k<=X.eds.length/\i=.int .i64 k/\Hid (∀ j (hj:j<X.eds.length),j<k->X.eds[j].lang≠lang)/\Hid (Below W3.heap.size W3 wr)) (fun i _=>X.eds.length - (intOf i).toNat)
 case atStart=>exact⟨0,Nat.zero_le _,rfl,Lib.hid (fun j _ h=>absurd h (by omega)),Lib.hid (Below.refl _ _)⟩
 case round=>
  obtain⟨k,hk,rfl,HT,HB⟩:=hrel
  have hBr:Below W1.heap.size W1 wr:=HB3.out.trans (HB.out.mono HB3.out.size)
  have k0:wr.cell? ⟨W2.heap.size,3,none⟩=some (.slice ea X.eds.length ec):=rowcell ((HB.out.block _ (qh HN3.out)).trans HN3.out)
  have HZ:Hid (wr.heap[w.heap.size+1]?=some (.cells zEdnR 39 (0,0))):=Lib.hid ((hBr.block _ (qh HN1.out)).trans HN1.out)
  have HBR:=Lib.hid hBr
  clear hBr
  by_cases hlt:k<X.eds.length
  ·obtain rfl:=HEA.out (by omega)
   obtain⟨hok,bv,hcells,hP⟩:=HEAT.out k hlt
   have HVV:Hid (EdnV mem (.agg (ednCells X.eds[k] bv)) X.eds[k]):=Lib.hid ⟨hok,_,rfl,hP⟩
   have HCL:=Lib.hid (cells_see (sz:=5) (HS.out.bel (HB1.out.trans (HBR.out.mono HB1.out.size))) hcells rfl)
   have HYES:Hid (X.eds[k].lang=lang->findE X.eds lang=some X.eds[k]):=Lib.hid (fun e=>findE_at k hlt e (fun j hj=>HT.out j (by omega) hj))
   have HNO:Hid (X.eds[k].lang≠lang->∀ j (hj:j<X.eds.length),j<k+1->X.eds[j].lang≠lang):=Lib.hid (fun e j hj hjk=>by
    by_cases ej:j=k
    ·subst ej;exact e
    ·exact HT.out j hj (by omega))
   obtain⟨b1,b2,rfl⟩:=hP.slice
   generalize X.eds[k].blocks.length=n1 at *
   clear hok hcells hP
   generalize X.eds[k]=y at *
   have q0:wr.cell? ⟨eb,eo+k * 5,none⟩=some (.string y.lang):=HCL.out 0 (by omega)
   by_cases hy:y.lang=lang
   ·have HFD:=Lib.hid (HEO.out.trans (HYES.out hy))
    rw[hy]at q0
    have hbe:(lang.toList == lang.toList)=true:=beq_self_eq_true _
    clear hy HYES HNO
    go_wp2_with (first
     |((with_reducible refine at_sload 39 _ rfl ?_);go_must (refine wpList_smid rfl S_edn _ rfl (by simp[Act.eval]) (ednCells y (.slice b1 n1 b2)) rfl HCL.out ?_))
     |((with_reducible refine at_sstore 39 _ _ rfl ?_);go_must (refine wpList_sstore (cs:=(ednCells y (.slice b1 n1 b2))) rfl S_edn _ _ rfl (by simp[Act.eval,Act.put]) (by simp[Act.eval,Act.put]) HZ.out rfl rfl (by simp[Value.oneCell']) ?_)))
    refine bodyPost_ret (results_cell_row2 (p:=6) (u:=7) (ty:=39) (by kernel_rfl) _ _ (w.heap.size+1) _ _ (0,0) _ (by simp) (setRow_heap _ _ _ _ _ _ HZ.out) Tryz.underlying39 rfl (by kernel_rfl)) rfl ?_
    unfold RefEdn
    rw[HFD.out]
    exact⟨_,rfl,HVV.out,below_setRow (HB1.out.trans (HBR.out.mono HB1.out.size)) (by omega) _⟩
   ·have HNN:=Lib.hid (HNO.out hy)
    have hne:(y.lang.toList == lang.toList)=false:=by
     rw[beq_eq_false_iff_ne]
     intro e
     exact hy (str_ext (by rw[ByteArray.toList_eq,ByteArray.toList_eq]at e;exact e))
    clear hy HYES HNO
    go_wp2_with fail
    go_roundw
    case rel=>exact⟨k+1,by omega,by go_num,HNN,HB⟩
    case measure=>simp[intOf];omega
  ·have e':k=X.eds.length:=by omega
   subst e'
   have HFD:Hid (ednOf s id lang=none):=Lib.hid (HEO.out.trans (findE_no (fun j hj=>HT.out j hj hj)))
   go_wp2_with (first
    |((with_reducible refine at_sbuild 39 _ rfl ?_);go_must (refine wpList_buildTo rfl 39 _ rfl _ rfl _ (by simp[Act.eval];with_reducible exact built_edn0) ?_))
    |((with_reducible refine at_sstore 39 _ _ rfl ?_);go_must (refine wpList_sstore (cs:=ednCells edn0 (.slice none 0 0)) rfl S_edn _ _ rfl (by simp[Act.eval,Act.put]) (by simp[Act.eval,Act.put]) HZ.out rfl rfl (by simp[Value.oneCell']) ?_)))
   refine bodyPost_ret (results_cell_row2 (p:=6) (u:=7) (ty:=39) (by kernel_rfl) _ _ (w.heap.size+1) _ _ (0,0) _ (by simp) (setRow_heap _ _ _ _ _ _ HZ.out) Tryz.underlying39 rfl (by kernel_rfl)) rfl ?_
   unfold RefEdn
   rw[HFD.out]
   exact⟨_,rfl,edn0_V,below_setRow (HB1.out.trans (HBR.out.mono HB1.out.size)) (by omega) _⟩
set_option maxRecDepth 100000 in
set_option maxHeartbeats 8000000 in
theorem sameStoryR_any {mem:Addr->Option Value} {v u:Value} {x y:StyF} (h1:StyV mem v x) (h2:StyV mem u y) (w:World) (hs:Sees mem w):
 Calls Tryz.prog 25 #[v,u] w fun e w'=>e=.returned (.bool (decide (x=y)))/\Below w.heap.size w w':=by
 obtain⟨_,tv,ev,cv,rfl,ht1,he1,hc1⟩:=h1
 obtain⟨_,tv2,ev2,cv2,rfl,ht2,he2,hc2⟩:=h2
 obtain⟨id,author,topics,eds,pub,corr,retr,taken⟩:=x
 obtain⟨id2,author2,topics2,eds2,pub2,corr2,retr2,taken2⟩:=y
 have HT:=Lib.hid (fun W hW=>sameStrs_any ht1 ht2 W hW)
 have HE:=Lib.hid (fun W hW=>sameEdns_any he1 he2 W hW)
 obtain⟨ta,tc,rfl⟩:=ht1.slice
 obtain⟨ta2,tc2,rfl⟩:=ht2.slice
 obtain⟨ea,ec,rfl⟩:=SlM.slice he1
 obtain⟨ea2,ec2,rfl⟩:=SlM.slice he2
 obtain⟨ca,cc,cb,co,rfl,hcap,hm,hca,hcat⟩:=SlM.open_ hc1
 obtain⟨ca2,cc2,cb2,co2,rfl,hcap2,hm2,hca2,hcat2⟩:=SlM.open_ hc2
 have HA:=Lib.hid hca
 have HA2:=Lib.hid hca2
 have HCC:=Lib.hid hcat
 have HCC2:=Lib.hid hcat2
 have HS:=Lib.hid hs
 dsimp only at HT HE HA HA2 HCC HCC2 ⊢
 have hl1:(corr.length:Int)<=9223372036854775807:=by dsimp only at hm hcap;unfold maxLen at hm;omega
 have hl2:(corr2.length:Int)<=9223372036854775807:=by dsimp only at hm2 hcap2;unfold maxLen at hm2;omega
 have HNE:Hid (topics≠topics2\/eds≠eds2\/corr≠corr2\/id≠id2\/author≠author2\/pub≠pub2\/retr≠retr2\/taken≠taken2->decide ((⟨id,author,topics,eds,pub,corr,retr,taken⟩:StyF)=⟨id2,author2,topics2,eds2,pub2,corr2,retr2,taken2⟩)=false):=Lib.hid (fun h=>decide_eq_false (fun q=>by
  injection q with q1 q2 q3 q4 q5 q6 q7 q8
  rcases h with h | h | h | h | h | h | h | h
  ·exact h q3
  ·exact h q4
  ·exact h q6
  ·exact h q1
  ·exact h q2
  ·exact h q5
  ·exact h q7
  ·exact h q8))
 have HEQ:Hid (id=id2->author=author2->topics=topics2->eds=eds2->pub=pub2->corr=corr2->retr=retr2->taken=taken2->decide ((⟨id,author,topics,eds,pub,corr,retr,taken⟩:StyF)=⟨id2,author2,topics2,eds2,pub2,corr2,retr2,taken2⟩)=true):=Lib.hid (fun q1 q2 q3 q4 q5 q6 q7 q8=>decide_eq_true (by subst q1 q2 q3 q4 q5 q6 q7 q8;rfl))
 clear ht1 ht2 he1 he2 hc1 hc2 hs hca hca2 hcat hcat2 hcap hcap2 hm hm2
 generalize decide ((⟨id,author,topics,eds,pub,corr,retr,taken⟩:StyF)=⟨id2,author2,topics2,eds2,pub2,corr2,retr2,taken2⟩)=D at *
 obtain⟨W2,hW2⟩:∃ W2,W2=(w.alloc (.cells #[.int .i64 id,.string author,.slice ta topics.length tc,.slice ea eds.length ec,.int .i64 pub,.slice ca corr.length cc,.bool retr,.bool taken] 34)).alloc (.cells #[.int .i64 id2,.string author2,.slice ta2 topics2.length tc2,.slice ea2 eds2.length ec2,.int .i64 pub2,.slice ca2 corr2.length cc2,.bool retr2,.bool taken2] 34):=⟨_,rfl⟩
 have hB2:Below w.heap.size w W2:=by rw[hW2];exact(bel1 w _).alloc (by simp) _
 have HN1:Hid (W2.heap[w.heap.size]?=some (.cells #[.int .i64 id,.string author,.slice ta topics.length tc,.slice ea eds.length ec,.int .i64 pub,.slice ca corr.length cc,.bool retr,.bool taken] 34 (0,0))):=Lib.hid (by rw[hW2];exact heap_new1 w _ _)
 have HN2:Hid (W2.heap[w.heap.size+1]?=some (.cells #[.int .i64 id2,.string author2,.slice ta2 topics2.length tc2,.slice ea2 eds2.length ec2,.int .i64 pub2,.slice ca2 corr2.length cc2,.bool retr2,.bool taken2] 34 (0,0))):=Lib.hid (by
  rw[hW2]
  have:=World.alloc_heap_new (w.alloc (.cells #[.int .i64 id,.string author,.slice ta topics.length tc,.slice ea eds.length ec,.int .i64 pub,.slice ca corr.length cc,.bool retr,.bool taken] 34)) (.cells #[.int .i64 id2,.string author2,.slice ta2 topics2.length tc2,.slice ea2 eds2.length ec2,.int .i64 pub2,.slice ca2 corr2.length cc2,.bool retr2,.bool taken2] 34)
  simpa using this)
 have HB2:=Lib.hid hB2
 have HW2:=Lib.hid hW2
 have HS2:=Lib.hid (HS.out.bel hB2)
 clear hB2 hW2
 have HTQ:Hid (∀ q,decide (topics=topics2)=q->(q=true->topics=topics2)/\(q=false->topics≠topics2)):=Lib.hid (fun q e=>⟨fun h=>of_decide_eq_true (e.trans h),fun h=>of_decide_eq_false (e.trans h)⟩)
 have HEQ2:Hid (∀ q,decide (eds=eds2)=q->(q=true->eds=eds2)/\(q=false->eds≠eds2)):=Lib.hid (fun q e=>⟨fun h=>of_decide_eq_true (e.trans h),fun h=>of_decide_eq_false (e.trans h)⟩)
 generalize hq1:decide (topics=topics2)=b1 at *
 generalize hq2:decide (eds=eds2)=b2 at *
 have HQ1:=Lib.hid (HTQ.out b1 rfl)
 have HQ2:=Lib.hid (HEQ2.out b2 rfl)
 clear hq1 hq2 HTQ HEQ2
 go_enter Tryz.func25,Tryz.ntmps25
 go_upto_region 1 with fail
 rw[<-HW2.out]
 have p2:W2.cell? ⟨w.heap.size,2,none⟩=some (.slice ta topics.length tc):=rowcell HN1.out
 have q2:W2.cell? ⟨w.heap.size+1,2,none⟩=some (.slice ta2 topics2.length tc2):=rowcell HN2.out
 go_wp2_with fail
 refine(HT.out _ HS2.out).mono ?_
 rintro e w3 ⟨rfl,hb3⟩
 have HB3:=Lib.hid (HB2.out.trans (hb3.mono HB2.out.size))
 have HS3:=Lib.hid (HS2.out.bel hb3)
 have HH1:=Lib.hid ((hb3.block _ (hlt HN1.out)).trans HN1.out)
 have HH2:=Lib.hid ((hb3.block _ (hlt HN2.out)).trans HN2.out)
 clear hb3 p2 q2 HN1 HN2 HB2 HS2 HW2
 have p3:w3.cell? ⟨w.heap.size,3,none⟩=some (.slice ea eds.length ec):=rowcell HH1.out
 have q3:w3.cell? ⟨w.heap.size+1,3,none⟩=some (.slice ea2 eds2.length ec2):=rowcell HH2.out
 go_wp2_with fail
 refine(HE.out _ HS3.out).mono ?_
 rintro e w4 ⟨rfl,hb4⟩
 have HB:=Lib.hid (HB3.out.trans (hb4.mono HB3.out.size))
 have HS4:=Lib.hid (HS3.out.bel hb4)
 have HH3:=Lib.hid ((hb4.block _ (hlt HH1.out)).trans HH1.out)
 have HH4:=Lib.hid ((hb4.block _ (hlt HH2.out)).trans HH2.out)
 clear hb4 p3 q3 HH1 HH2 HB3 HS3 HT HE
 cases b1 with
 |false=>
  have HF:=Lib.hid (HNE.out (.inl (HQ1.out.2 rfl)))
  have HBF:=HB
  go_wp2_with fail
  go_ret
  exact⟨ret_false HF.out,HBF.out⟩
 |true=>
  have HT1:=Lib.hid (HQ1.out.1 rfl)
  cases b2 with
  |false=>
   have HF:=Lib.hid (HNE.out (.inr (.inl (HQ2.out.2 rfl))))
   have HBF:=HB
   go_wp2_with fail
   go_ret
   exact⟨ret_false HF.out,HBF.out⟩
  |true=>
   have HE1:=Lib.hid (HQ2.out.1 rfl)
   clear HQ1 HQ2
   have p5:w4.cell? ⟨w.heap.size,5,none⟩=some (.slice ca corr.length cc):=rowcell HH3.out
   have q5:w4.cell? ⟨w.heap.size+1,5,none⟩=some (.slice ca2 corr2.length cc2):=rowcell HH4.out
   by_cases hl:corr.length=corr2.length
   case' neg=>
    have hne:decide (corr.length=corr2.length)=false:=decide_eq_false hl
    have hne2:((corr.length:Int) == (corr2.length:Int))=false:=by simp;omega
    have hne3:((corr.length:Int) != (corr2.length:Int))=true:=by simp;omega
    have HF:=Lib.hid (HNE.out (.inr (.inr (.inl (fun e=>hl (by rw[e]))))))
    have HBF:=HB
    go_wp2_with fail
    all_goals first
     |(go_ret
       exact⟨ret_false HF.out,HBF.out⟩)
   have HL:=Lib.hid hl
   rw[<-hl]at q5
   clear hl
   go_wp2_with fail
   clear p5 q5
   go_loopw [7] (fun i wr=>∃ k:Nat,k<=corr.length/\i=.int .i64 k/\Hid (Below w4.heap.size w4 wr)/\Hid (corr.take k=corr2.take k)) (fun i _=>corr.length - (intOf i).toNat)
   case atStart=>exact⟨0,Nat.zero_le _,rfl,Lib.hid (Below.refl _ _),Lib.hid rfl⟩
   case round=>
    obtain⟨k,hk,rfl,HBW,ht⟩:=hrel
    have HG1:=Lib.hid ((HBW.out.block _ (qh HH3.out)).trans HH3.out)
    have HG2:=Lib.hid ((HBW.out.block _ (qh HH4.out)).trans HH4.out)
    have HBF:Hid (Below w.heap.size w wr):=Lib.hid (HB.out.trans (HBW.out.mono HB.out.size))
    have p5:wr.cell? ⟨w.heap.size,5,none⟩=some (.slice ca corr.length cc):=rowcell HG1.out
    by_cases hlt:k<corr.length
    ·have hlt2:k<corr2.length:=by rw[<-HL.out];exact hlt
     have q5:wr.cell? ⟨w.heap.size+1,5,none⟩=some (.slice ca2 corr.length cc2):=by rw[HL.out];exact rowcell HG2.out
     have G1:=Lib.hid (cells_see (sz:=5) (HS4.out.bel HBW.out) (HCC.out k hlt).2 rfl)
     have G2:=Lib.hid (cells_see (sz:=5) (HS4.out.bel HBW.out) (HCC2.out k hlt2).2 rfl)
     obtain rfl:=HA.out (by omega)
     obtain rfl:=HA2.out (by omega)
     have HE3:Hid (corr[k]=corr2[k]->corr.take (k+1)=corr2.take (k+1)):=Lib.hid (take_step hlt hlt2 ht.out)
     have HN:Hid (corr[k]≠corr2[k]->corr≠corr2):=Lib.hid (ne_of_get hlt hlt2)
     generalize corr[k]=x at *
     generalize corr2[k]=y at *
     have hqr:∀ W:World,(binOp .neq 69 (.agg (corrCells x)) (.agg (corrCells y))).run Tryz.prog W=.ok (.bool (!decide (x=y))) W:=fun W=>corrCells_neq x y W
     have hk0:(0:Int)<=k:=by omega
     have hk1:(k:Int)<corr.length:=by omega
     clear ht hlt2
     have hdd:(x=y/\decide (x=y)=true)\/(x≠y/\decide (x=y)=false):=by
      by_cases e:x=y
      ·exact .inl ⟨e,decide_eq_true e⟩
      ·exact .inr ⟨e,decide_eq_false e⟩
     rcases hdd with ⟨hxy,hxd⟩ | ⟨hxy,hxd⟩
     all_goals
      rw[hxd]at hqr
      clear hxd
      have HXY:=Lib.hid hxy
      clear hxy
      go_upto_region 8 with fail
      refine wp_tail 10 (by kernel_rfl) (by kernel_rfl) ?_
      simp only[List.take_succ_cons,List.take_zero,List.drop_succ_cons,List.drop_zero]
      still_step
      still_step
      still_step
      still_step
      refine wpStill_value rfl _ (exec_smid S_corr _ rfl (by simp[Act.eval]) (corrCells x) rfl G1.out) ?_
      simp only[Act.put,List.setIfInBounds_toArray,List.set_cons_zero,List.set_cons_succ]
      still_step
      still_step
      still_step
      still_step
      refine wpStill_value rfl _ (exec_smid S_corr _ rfl (by simp[Act.eval]) (corrCells y) rfl G2.out) ?_
      simp only[Act.put,List.setIfInBounds_toArray,List.set_cons_zero,List.set_cons_succ]
      refine wpStill_nil ?_
      go_wp2_with fail
      first
       |(go_roundw
         case rel=>exact⟨k+1,by omega,by go_num,Lib.hid HBW.out.drew,Lib.hid (HE3.out HXY.out)⟩
         case measure=>simp[intOf];omega)
       |(go_ret
         exact⟨ret_false (HNE.out (.inr (.inr (.inl (HN.out HXY.out))))),HBF.out.drew⟩)
    ·obtain rfl:k=corr.length:=by omega
     have HC1:Hid (corr=corr2):=Lib.hid (eq_full HL.out ht.out)
     have p0:wr.cell? ⟨w.heap.size,0,none⟩=some (.int .i64 id):=rowcell HG1.out
     have q0:wr.cell? ⟨w.heap.size+1,0,none⟩=some (.int .i64 id2):=rowcell HG2.out
     have p1:wr.cell? ⟨w.heap.size,1,none⟩=some (.string author):=rowcell HG1.out
     have q1:wr.cell? ⟨w.heap.size+1,1,none⟩=some (.string author2):=rowcell HG2.out
     have p4:wr.cell? ⟨w.heap.size,4,none⟩=some (.int .i64 pub):=rowcell HG1.out
     have q4:wr.cell? ⟨w.heap.size+1,4,none⟩=some (.int .i64 pub2):=rowcell HG2.out
     have p6:wr.cell? ⟨w.heap.size,6,none⟩=some (.bool retr):=rowcell HG1.out
     have q6:wr.cell? ⟨w.heap.size+1,6,none⟩=some (.bool retr2):=rowcell HG2.out
     have p7:wr.cell? ⟨w.heap.size,7,none⟩=some (.bool taken):=rowcell HG1.out
     have q7:wr.cell? ⟨w.heap.size+1,7,none⟩=some (.bool taken2):=rowcell HG2.out
     clear HH3 HH4 HG1 HG2 HCC HCC2
     by_cases e0:id=id2
     case' neg=>
      have HF:=Lib.hid (HNE.out (.inr (.inr (.inr (.inl e0)))))
      have n0:(id == id2)=false:=by simpa using e0
      clear e0 HNE HEQ
      go_wp2_with fail
      go_ret
      exact⟨ret_false HF.out,HBF.out⟩
     have n0:(id == id2)=true:=by simpa using e0
     by_cases e1:author=author2
     case' neg=>
      have HF:=Lib.hid (HNE.out (.inr (.inr (.inr (.inr (.inl e1))))))
      have n1:(author.toList == author2.toList)=false:=(str_dec author author2).trans (decide_eq_false e1)
      clear e1 HNE HEQ
      go_wp2_with fail
      go_ret
      exact⟨ret_false HF.out,HBF.out⟩
     have n1:(author.toList == author2.toList)=true:=(str_dec author author2).trans (decide_eq_true e1)
     by_cases e2:pub=pub2
     case' neg=>
      have HF:=Lib.hid (HNE.out (.inr (.inr (.inr (.inr (.inr (.inl e2)))))))
      have n2:(pub == pub2)=false:=by simpa using e2
      clear e2 HNE HEQ
      go_wp2_with fail
      go_ret
      exact⟨ret_false HF.out,HBF.out⟩
     have n2:(pub == pub2)=true:=by simpa using e2
     by_cases e3:retr=retr2
     case' neg=>
      have HF:=Lib.hid (HNE.out (.inr (.inr (.inr (.inr (.inr (.inr (.inl e3))))))))
      have n3:(retr == retr2)=false:=by simpa using e3
      clear e3 HNE HEQ
      go_wp2_with fail
      go_ret
      exact⟨ret_false HF.out,HBF.out⟩
     have n3:(retr == retr2)=true:=by simpa using e3
     by_cases e4:taken=taken2
     case' neg=>
      have HF:=Lib.hid (HNE.out (.inr (.inr (.inr (.inr (.inr (.inr (.inr e4))))))))
      have n4:(taken == taken2)=false:=by simpa using e4
      clear e4 HNE HEQ
      go_wp2_with fail
      go_ret
      exact⟨ret_false HF.out,HBF.out⟩
     have n4:(taken == taken2)=true:=by simpa using e4
     have HF:=Lib.hid (HEQ.out e0 e1 HT1.out HE1.out e2 HC1.out e3 e4)
     clear e0 e1 e2 e3 e4 HNE HEQ
     go_wp2_with fail
     go_ret
     exact⟨ret_true HF.out,HBF.out⟩
theorem tplCells_neqR (x y:TplF) (W:World):(binOp .neq 52 (.agg (tplCells x)) (.agg (tplCells y))).run Tryz.prog W=.ok (.bool (!decide (x=y))) W:=by
 obtain⟨a0,a1⟩:=x
 obtain⟨b0,b1⟩:=y
 rw[run_neq_struct,run_equalIn_agg _ _ _ _ _ (by kernel_rfl) (by kernel_rfl)]
 simp only[Program.fieldsOf,Tryz.underlying52]
 go_simp
 simp only[toList_iff]
 by_cases h0:a0=b0 <;> by_cases h1:a1=b1 <;> simp[h0,h1]
structure FoldedR (l:List Fct) (w:World) (sv tv:Value) (s:StF) (w':World):Prop where
 is:FoldIs l s
 st:StateM (memNo w' (fun k=>k<w.heap.size)) (.agg #[sv,tv]) s
 good:∀ x∈s.stories,StyGood x
 len:s.stories.length<=l.length
 bel:Below w.heap.size w w'
theorem Shorted.foldR {l:List Fct} {w w':World} {r:Value} {fs:List FctE} (h:Shorted l w r fs w'):Calls Tryz.prog 17 #[r] w' (fun e w2=>∃ a c b d s,e=.returned (.agg #[.slice a s.stories.length c,.slice b s.tpls.length d])/\FoldedR (shortL7 l) w' (.slice a s.stories.length c) (.slice b s.tpls.length d) s w2):=by
 have:=foldR_any h.es h.good (by have:=h.len;omega) w' (Sees.self w')
 rw[h.map]at this
 refine this.mono fun e w2 hp=>?_
 obtain⟨sv,tv,s,rfl,h1,h2,h3,h4,h5⟩:=hp
 obtain⟨sv',tv',e,q1,q2⟩:=h2
 injection e with e
 have e1:sv=sv':=by have:=congrArg (fun x=>x[0]?) e;simpa using this
 have e2:tv=tv':=by have:=congrArg (fun x=>x[1]?) e;simpa using this
 subst e1 e2
 obtain⟨a,c,rfl⟩:=SlM.slice q1
 obtain⟨b,d,rfl⟩:=SlM.slice q2
 exact⟨a,c,b,d,s,rfl,h1,⟨_,_,rfl,q1,q2⟩,h3,h4,h5⟩
section
variable {w3 W W':World} {X:Nat} {sv tv:Value} {x:StyF} {cs:Array Value}
end
section
variable {P:Program} {t e:TypeId} {z:Value} {sz bytes:Nat} {w:World} {o:Oper} {a:Act} {Q:Exit->Act->World->Prop} {K:Act->World->Prop}
end
section
variable {ops:Array Oper} {rest:List Oper} {o:Oper} {a:Act} {w:World} {Q:Exit->Act->World->Prop}
theorem wpList_wanted {P:Program} (hw:Region.wanted o (yielded ops a.tmps)=true) (h:∀ K:Act->World->Prop,(∀ a w,wpList P ops Q rest a w->K a w)->o.wp P a w K Q):wpList P ops Q (o::rest) a w:=
 wpList_step fun K hK=>by
  rw[if_pos hw]
  exact h K hK
theorem wpList_val {P:Program} (hw:Region.wanted o (yielded ops a.tmps)=true) (v:Value) (hr:(execOp a.eval o).run P w=.ok (.value v) w) (h:wpList P ops Q rest (a.put o.dst v) w):wpList P ops Q (o::rest) a w:=
 wpList_step fun K hK=>by
  rw[if_pos hw]
  unfold Oper.wp
  rw[hr]
  exact hK _ _ h
end
set_option maxRecDepth 100000 in
set_option maxHeartbeats 4000000 in
theorem listedR_any {mem:Addr->Option Value} {v:Value} {x:StyF} (h:StyV mem v x) (w:World):Calls Tryz.prog 105 #[v] w fun e w'=>e=.returned (.bool (listedF x))/\Below w.heap.size w w':=by
 obtain⟨hok,tv,ev,cv,rfl,hP⟩:=h
 have hel:x.eds.length<=9223372036854775807:=by
  obtain⟨_,_,_,_,_,h1,h2,_⟩:=SlM.open_ hP.2.1
  unfold maxLen at h2;omega
 obtain⟨t1,t2,e1,e2,c1,c2,rfl,rfl,rfl⟩:=hP.shape
 have HLI:Hid (listedF x=(!x.retr && !x.taken && decide (0<x.eds.length))):=Lib.hid rfl
 obtain⟨W1,hW1⟩:∃ W1,W1=w.alloc (.cells (styCells x (.slice t1 x.topics.length t2) (.slice e1 x.eds.length e2) (.slice c1 x.corr.length c2)) 34):=⟨_,rfl⟩
 have hb1:Below w.heap.size w W1:=by rw[hW1];exact bel1 w _
 have hn1:W1.heap[w.heap.size]?=some (.cells (styCells x (.slice t1 x.topics.length t2) (.slice e1 x.eds.length e2) (.slice c1 x.corr.length c2)) 34 (0,0)):=by rw[hW1];exact World.alloc_heap_new w _
 have k6:W1.cell? ⟨w.heap.size,6,none⟩=some (.bool x.retr):=rowcell hn1
 have k7:W1.cell? ⟨w.heap.size,7,none⟩=some (.bool x.taken):=rowcell hn1
 have k3:W1.cell? ⟨w.heap.size,3,none⟩=some (.slice e1 x.eds.length e2):=rowcell hn1
 have HW1:=Lib.hid hW1
 have HB1:=Lib.hid hb1
 clear hok hP hW1 hb1 hn1
 generalize x.eds.length=n at *
 generalize x.topics.length=n2 at *
 generalize x.corr.length=n3 at *
 go_enter Tryz.func105,Tryz.ntmps105
 go_upto_region 1 with fail
 rw[<-HW1.out]
 clear HW1
 generalize x.retr=br at *
 generalize x.taken=bt at *
 cases br with
 |true=>
  have HF:Hid (listedF x=false):=Lib.hid (by rw[HLI.out];rfl)
  go_wp2_with fail
  go_ret
  exact⟨ret_false HF.out,HB1.out⟩
 |false=>
  cases bt with
  |true=>
   have HF:Hid (listedF x=false):=Lib.hid (by rw[HLI.out];rfl)
   go_wp2_with fail
   go_ret
   exact⟨ret_false HF.out,HB1.out⟩
  |false=>
   by_cases hz:n=0
   ·have HF:Hid (listedF x=false):=Lib.hid (by rw[HLI.out,hz];rfl)
    subst hz
    go_wp2_with fail
    go_ret
    exact⟨ret_false HF.out,HB1.out⟩
   ·have HF:Hid (listedF x=true):=Lib.hid (by rw[HLI.out];simp;omega)
    have hz2:(0:Int)<(n:Int):=by omega
    clear hz
    go_wp2_with fail
    go_ret
    exact⟨by rw[HF.out];show Ending.returned (.bool (decide (0<n)))=_;rw[decide_eq_true (by omega)],HB1.out⟩
theorem hasT_take {l:List ByteArray} {t:ByteArray} {k:Nat} (h:k<l.length):hasT (l.take (k+1)) t=(hasT (l.take k) t || decide (l[k]=t)):=by
 unfold hasT
 rw[List.take_succ_eq_append_getElem h,List.any_append]
 simp
set_option maxRecDepth 100000 in
set_option maxHeartbeats 8000000 in
theorem countR_any {mem:Addr->Option Value} {v:Value} {s:StF} (h:StateM mem v s) (topic:ByteArray) (w:World) (hs:Sees mem w):
 Calls Tryz.prog 67 #[v,.string topic] w fun e w'=>e=.returned (.int .i64 (countS s topic:Nat))/\Below w.heap.size w w':=by
 obtain⟨sv,tv,rfl,h1,h2⟩:=h
 obtain⟨ta,tc,rfl⟩:=SlM.slice h2
 obtain⟨sa,sc,sb,so,rfl,hcap,hm,hsa,hat⟩:=SlM.open_ h1
 have HSA:=Lib.hid hsa
 have HAT:=Lib.hid hat
 have HS:=Lib.hid hs
 have hll:s.stories.length<=9223372036854775807:=by unfold maxLen at hm;omega
 obtain⟨W1,hW1⟩:∃ W1,W1=w.alloc (.cells #[.slice sa s.stories.length sc,.slice ta s.tpls.length tc] 27):=⟨_,rfl⟩
 have hb1:Below w.heap.size w W1:=by rw[hW1];exact bel1 w _
 have HN0:Hid (W1.heap[w.heap.size]?=some (.cells #[.slice sa s.stories.length sc,.slice ta s.tpls.length tc] 27 (0,0))):=Lib.hid (by rw[hW1];exact World.alloc_heap_new w _)
 have HB1:=Lib.hid hb1
 have HW1:=Lib.hid hW1
 clear h1 h2 hsa hat hs hb1 hW1
 go_enter Tryz.func67,Tryz.ntmps67
 go_upto_region 1 with fail
 rw[<-HW1.out]
 clear HW1
 go_wp2_with fail
 go_loopw [6,5] (fun i c wr=>∃ k:Nat,k<=s.stories.length/\i=.int .i64 k/\c=.int .i64 (countK s topic k:Nat)/\Hid (Below W1.heap.size W1 wr)) (fun i _ _=>s.stories.length - (intOf i).toNat)
 case atStart=>exact⟨0,Nat.zero_le _,rfl,rfl,Lib.hid (Below.refl _ _)⟩
 case round=>
  obtain⟨k,hk,rfl,rfl,HB⟩:=hrel
  have k0:wr.cell? ⟨w.heap.size,0,none⟩=some (.slice sa s.stories.length sc):=rowcell ((HB.out.block _ (qh HN0.out)).trans HN0.out)
  by_cases hlt:k<s.stories.length
  ·obtain rfl:=HSA.out (by omega)
   obtain⟨hok,tv,ev,cv,hcells,hP⟩:=HAT.out k hlt
   have HSW:=Lib.hid (HS.out.bel (HB1.out.trans (HB.out.mono HB1.out.size)))
   have HCM:=Lib.hid hcells
   have HTOP:=Lib.hid hP.1
   have HYV:Hid (StyV mem (.agg (styCells s.stories[k] tv ev cv)) s.stories[k]):=Lib.hid ⟨hok,_,_,_,rfl,hP⟩
   have hcs:=countK_step (topic:=topic) hlt
   have hck:=countK_le s topic k
   obtain⟨t1,t2,e1,e2,c1,c2,rfl,rfl,rfl⟩:=hP.shape
   have HCS:=Lib.hid hcs
   obtain⟨t1',t2',tb,to,htv,htc,htm,hta,_,htat⟩:=HTOP.out.open_ HS.out
   injection htv with q1 q0 q2
   subst q1 q2
   clear q0
   have HTA:=Lib.hid hta
   have HTT:Hid (∀ j (hj:j<s.stories[k].topics.length) W,Below wr.heap.size wr W->W.cell? ⟨tb,to+j,none⟩=some (.string (s.stories[k].topics[j]))):=Lib.hid (fun j hj W hb=>by
    have h2:=htat j hj
    exact sees_bel hb _ _ (sees_bel (HB1.out.trans (HB.out.mono HB1.out.size)) _ _ h2))
   have htl:s.stories[k].topics.length<=9223372036854775807:=by unfold maxLen at htm;omega
   have hflk:(k:Int)<s.stories.length:=by omega
   clear hok hcells hP hcs hta htat htm
   generalize hyk:s.stories[k]=y at *
   have HYK:=Lib.hid hyk
   clear hyk
   go_wp2_with fail
   obtain⟨wo,rfl⟩:∃ wo,wo=wr:=⟨_,rfl⟩
   have HCL:=Lib.hid (cells_see (sz:=8) HSW.out HCM.out rfl)
   go_loopw [8,7] (fun i b wq=>∃ j:Nat,j<=y.topics.length/\i=.int .i64 j/\b=.bool (hasT (y.topics.take j) topic)/\Hid (Below wo.heap.size wo wq)) (fun i _ _=>y.topics.length - (intOf i).toNat)
   case atStart=>exact⟨0,Nat.zero_le _,rfl,by rw[List.take_zero];rfl,Lib.hid (Below.refl _ _)⟩
   case round=>
    obtain⟨j,hj,rfl,rfl,HQ⟩:=hrel
    have k0:wr.cell? ⟨w.heap.size,0,none⟩=some (.slice (some ⟨sb,so,none⟩) s.stories.length sc):=rowcell ((HQ.out.block _ (qh ((HB.out.block _ (qh HN0.out)).trans HN0.out))).trans ((HB.out.block _ (qh HN0.out)).trans HN0.out))
    have r2:wr.cell? ⟨sb,so+k * 8+2,none⟩=some (.slice t1 y.topics.length t2):=sees_bel HQ.out _ _ (HCL.out 2 (by omega))
    by_cases hlt2:j<y.topics.length
    ·obtain rfl:=HTA.out (by omega)
     have HST:=Lib.hid (hasT_take (t:=topic) hlt2)
     have rj:wr.cell? ⟨tb,to+j,none⟩=some (.string (y.topics[j])):=HTT.out j hlt2 wr HQ.out
     have HQ1:=Lib.hid (str_dec (y.topics[j]) topic)
     have hjj:(j:Int)<y.topics.length:=by omega
     generalize hasT (y.topics.take j) topic=hb at *
     generalize y.topics[j]=tj at *
     cases hb with
     |true=>
      go_wp2_with fail
      go_roundw
      case rel=>exact⟨j+1,by omega,by go_num,by rw[HST.out];rfl,HQ⟩
      case measure=>simp[intOf];omega
     |false=>
      by_cases hx:tj=topic
      ·have s1:(tj.toList == topic.toList)=true:=HQ1.out.trans (decide_eq_true hx)
       have HFF:Hid (hasT (y.topics.take (j+1)) topic=true):=Lib.hid (by rw[HST.out,decide_eq_true hx];rfl)
       clear hx
       go_wp2_with fail
       go_roundw
       case rel=>exact⟨j+1,by omega,by go_num,by rw[HFF.out],HQ⟩
       case measure=>simp[intOf];omega
      ·have s1:(tj.toList == topic.toList)=false:=HQ1.out.trans (decide_eq_false hx)
       have HFF:Hid (hasT (y.topics.take (j+1)) topic=false):=Lib.hid (by rw[HST.out,decide_eq_false hx];rfl)
       clear hx
       go_wp2_with fail
       go_roundw
       case rel=>exact⟨j+1,by omega,by go_num,by rw[HFF.out],HQ⟩
       case measure=>simp[intOf];omega
    ·obtain rfl:j=y.topics.length:=by omega
     rw[List.take_length]
     have HBQ:Hid (Below W1.heap.size W1 wr):=Lib.hid (HB.out.trans (HQ.out.mono HB.out.size))
     have HCQ:=Lib.hid (cells_see (sz:=8) (HS.out.bel (HB1.out.trans (HBQ.out.mono HB1.out.size))) HCM.out rfl)
     have cL:=Lib.hid (listedR_any HYV.out wr)
     have hwrap:IntKind.i64.wrap ((countK s topic k:Int)+1)=(countK s topic k:Int)+1:=IntWalk.i64_in _ (by omega)
     cases hb:hasT y.topics topic with
     |false=>
      have HF:Hid (countK s topic (k+1)=countK s topic k):=Lib.hid (by rw[HCS.out,hb,Bool.and_false];rfl)
      clear hb HCS
      go_wp2_with fail
      go_roundw
      case rel=>exact⟨k+1,by omega,by go_num,by rw[HF.out],HBQ⟩
      case measure=>simp[intOf];omega
     |true=>
      have HF:Hid (countK s topic (k+1)=countK s topic k+(if listedF y=true then 1 else 0)):=Lib.hid (by rw[HCS.out,hb,Bool.and_true])
      clear hb HCS
      go_wp2_with ((with_reducible refine at_sload 34 _ rfl ?_);go_must (refine wpList_val (by rfl) (.agg (styCells y (.slice t1 y.topics.length t2) (.slice e1 y.eds.length e2) (.slice c1 y.corr.length c2))) (exec_smid S_sty _ rfl (by simp[Act.eval]) _ rfl HCQ.out) ?_))
      refine cL.out.mono ?_
      rintro e w5 ⟨rfl,hb5⟩
      have HB5:Hid (Below W1.heap.size W1 w5):=Lib.hid (HBQ.out.trans (hb5.mono HBQ.out.size))
      clear hb5 cL
      cases hb:listedF y with
      |false=>
       rw[hb]at HF
       clear hb
       go_wp2_with fail
       go_roundw
       case rel=>exact⟨k+1,by omega,by go_num,by rw[HF.out];rfl,HB5⟩
       case measure=>simp[intOf];omega
      |true=>
       rw[hb]at HF
       clear hb
       go_wp2_with fail
       go_roundw
       case rel=>exact⟨k+1,by omega,by go_num,by rw[HF.out];simp,HB5⟩
       case measure=>simp[intOf];omega
  ·obtain rfl:k=s.stories.length:=by omega
   have HCE:Hid (countK s topic s.stories.length=countS s topic):=Lib.hid (by unfold countK countS;rw[List.take_length])
   go_wp2_with fail
   go_ret
   exact⟨by rw[HCE.out];rfl,HB1.out.trans (HB.out.mono HB1.out.size)⟩
def dgB (d:Nat):UInt8:=UInt8.ofNat (48+d)
theorem bs_ne (a:UInt8) (l:List UInt8):(bs (a::l)).toList.isEmpty=false:=by rw[ByteArray.toList_eq];rfl
def roomOf:Value->Nat
 |.string s=>3 - s.size
 |_=>0
theorem u8_of (d:Nat) (hd:d<10):((UInt8.ofNat (48+d)).toNat:Int)=48+(d:Int):=by
 have:(UInt8.ofNat (48+d)).toNat=48+d:=by rw[UInt8.toNat_ofNat'];omega
 rw[this];simp
set_option maxRecDepth 100000 in
theorem conv_one (d:Nat) (hd:d<10) (x:Int) (hx:x=48+(d:Int)) (w:World):(convert 62 9 (.slice (some ⟨w.heap.size,0,none⟩) 1 1)).run Tryz.prog (w.alloc (.cells #[.int .u8 x] 5))=.ok (.string (bs [dgB d])) (w.alloc (.cells #[.int .u8 x] 5)):=by
 have h:=run_convert_bytes_back (P:=Tryz.prog) (w.alloc (.cells #[.int .u8 x] 5)) 62 9 5 ⟨w.heap.size,0,none⟩ 1 [UInt8.ofNat (48+d)] Tryz.underlying62 Tryz.underlying5 Tryz.underlying9 (fun j hj=>by
  obtain rfl:j=0:=by simpa using hj
  have h0:((⟨w.heap.size,0,none⟩:Addr).add 0)=⟨w.heap.size,0,none⟩:=addr_add0 _
  rw[h0,rowcell (World.alloc_heap_new w (.cells #[.int .u8 x] 5))]
  show some (Value.int .u8 x)=_
  simp only[List.getElem_cons_zero]
  rw[u8_of d hd,hx])
 exact h
set_option maxRecDepth 100000 in
set_option maxHeartbeats 4000000 in
theorem digitsR_any (u:Nat) (hu:u<100) (w:World):Calls Tryz.prog 66 #[.int .i64 (u:Int)] w fun e w'=>e=.returned (.string (bs (digs u)))/\Below w.heap.size w w':=by
 go_enter Tryz.func66,Tryz.ntmps66
 go_wp2_with fail
 go_loopw [0,3] (fun n st wr=>∃ (m:Nat) (T:List UInt8),m<100/\n=.int .i64 (m:Int)/\st=.string (bs T)/\Hid ((T=[]/\m=u)\/(T=[dgB (u % 10)]/\m=u / 10)\/(10<=u/\m=0/\T=[dgB (u / 10),dgB (u % 10)]))/\Hid (Below w.heap.size w wr)) (fun _ st _=>roomOf st)
 case atStart=>exact⟨u,[],hu,rfl,rfl,Lib.hid (.inl ⟨rfl,rfl⟩),Lib.hid (Below.refl _ _)⟩
 case round=>
  obtain⟨m,T,hm,rfl,rfl,HC,HB⟩:=hrel
  have hcv:=conv_one (m % 10) (by omega) (48+(m:Int) % 10) (by omega) wr
  have HBN:Hid (Below w.heap.size w (wr.alloc (.cells #[.int .u8 (48+(m:Int) % 10)] 5))):=Lib.hid (HB.out.trans ((bel1 wr _).mono HB.out.size))
  rcases HC.out with ⟨hT,hmu⟩ | ⟨hT,hmu⟩ | ⟨hu1,hmu,hT⟩
  ·subst hT hmu
   rw[show bs ([]:List UInt8)=⟨#[]⟩ from rfl]
   clear HC
   go_wp2_with fail
   go_roundw
   case rel=>exact⟨m / 10,[dgB (m % 10)],by omega,by go_num,(by show Value.string (bs [dgB (m % 10)]++⟨#[]⟩)=_;rw[show (⟨#[]⟩:ByteArray)=bs [] from rfl,bs_cat,List.append_nil]),Lib.hid (.inr (.inl ⟨rfl,rfl⟩)),HBN⟩
   case measure=>
    rw[show (⟨#[]⟩:ByteArray)=bs [] from rfl,bs_cat]
    exact(by decide:3 - 1<3 - 0)
  ·have hne:(bs T).toList.isEmpty=false:=by rw[hT];exact bs_ne _ _
   have hz1:(bs [dgB (m % 10)]).size=1:=rfl
   have hz2:(bs T).size<=5:=by rw[hT];show 1<=5;omega
   by_cases hz:m=0
   ·have HF:Hid (digs u=T):=Lib.hid (by rw[hT];unfold digs;rw[if_pos (by omega),show u % 10=u by omega];rfl)
    subst hz
    clear HC hcv hT hmu
    go_wp2_with fail
    go_ret
    exact⟨by rw[HF.out];rfl,HB.out⟩
   ·have hm0:(0:Int)<m:=by omega
    have HT2:Hid (dgB (m % 10)::T=[dgB (u / 10),dgB (u % 10)]):=Lib.hid (by rw[hT,show m % 10=u / 10 by omega])
    have HU:Hid (10<=u/\m / 10=0):=Lib.hid (by omega)
    have HTL:Hid (T.length=1):=Lib.hid (by rw[hT];rfl)
    clear HC hT hmu hz
    go_wp2_with fail
    go_roundw
    case rel=>exact⟨m / 10,dgB (m % 10)::T,by omega,by go_num,(by show Value.string (bs [dgB (m % 10)]++bs T)=_;rw[bs_cat];rfl),Lib.hid (.inr (.inr ⟨HU.out.1,HU.out.2,HT2.out⟩)),HBN⟩
    case measure=>
     rw[bs_cat]
     have h1:(bs ([dgB (m % 10)]++T)).size=2:=by rw[show [dgB (m % 10)]++T=dgB (m % 10)::T from rfl,HT2.out];rfl
     have h2:(bs T).size=1:=by
      have:(bs T).size=T.length:=by show (bs T).data.size=_;simp[bs]
      rw[this,HTL.out]
     show 3 - (bs ([dgB (m % 10)]++T)).size<3 - (bs T).size
     omega
  ·have hne:(bs T).toList.isEmpty=false:=by rw[hT];exact bs_ne _ _
   have HF:Hid (digs u=T):=Lib.hid (by rw[hT];unfold digs;rw[if_neg (by omega)];rfl)
   subst hmu
   clear HC hcv hT
   go_wp2_with fail
   go_ret
   exact⟨by rw[HF.out];rfl,HB.out⟩
set_option maxRecDepth 100000 in
set_option maxHeartbeats 8000000 in
theorem quotedR_any {mem:Addr->Option Value} {v:Value} {s:StF} (h:StateM mem v s) (lang:ByteArray) {b:Blk} {bu:Value} (hb:BlkV mem bu b) (w:World) (hs:Sees mem w):
 Calls Tryz.prog 65 #[v,.string lang,bu] w (QuoPost mem s lang b w):=by
 have HST:=Lib.hid h
 obtain⟨sv,tv,rfl,h1,h2⟩:=h
 obtain⟨sa,sc,rfl⟩:=SlM.slice h1
 obtain⟨ta,tc,rfl⟩:=SlM.slice h2
 obtain⟨ba,bc,rfl,hbi,_,_,hbid⟩:=hb
 have HS:=Lib.hid hs
 generalize hbn:b.lab.after.length=bn at *
 obtain⟨W1,hW1⟩:∃ W1,W1=((w.alloc (.cells #[.slice sa s.stories.length sc,.slice ta s.tpls.length tc] 27)).alloc (.cells (blkCells b (.slice ba bn bc)) 58)).alloc (.cells zBlkC 58):=⟨_,rfl⟩
 have hb1:Below w.heap.size w W1:=by rw[hW1];exact((bel1 w _).alloc (by simp) _).alloc (by simp;omega) _
 have HN0:Hid (W1.heap[w.heap.size]?=some (.cells #[.slice sa s.stories.length sc,.slice ta s.tpls.length tc] 27 (0,0))):=Lib.hid (by rw[hW1];exact(Below.heap_alloc _ _ _ (by simp;omega)).trans (heap_new1 w _ _))
 have HN1:Hid (W1.heap[w.heap.size+1]?=some (.cells (blkCells b (.slice ba bn bc)) 58 (0,0))):=Lib.hid (by
  rw[hW1]
  refine(Below.heap_alloc _ _ _ (by simp)).trans ?_
  have:=World.alloc_heap_new (w.alloc (.cells #[.slice sa s.stories.length sc,.slice ta s.tpls.length tc] 27)) (.cells (blkCells b (.slice ba bn bc)) 58)
  simpa using this)
 have HN2:Hid (W1.heap[w.heap.size+2]?=some (.cells zBlkC 58 (0,0))):=Lib.hid (by
  rw[hW1]
  have:=World.alloc_heap_new ((w.alloc (.cells #[.slice sa s.stories.length sc,.slice ta s.tpls.length tc] 27)).alloc (.cells (blkCells b (.slice ba bn bc)) 58)) (.cells zBlkC 58)
  simpa using this)
 have k3:W1.cell? ⟨w.heap.size+1,3,none⟩=some (.int .i64 b.story):=rowcell HN1.out
 have HB1:=Lib.hid hb1
 have HW1:=Lib.hid hW1
 have hw1:w.heap.size+2<W1.heap.size:=hlt HN2.out
 have cS:=Lib.hid (refFind_any HST.out b.story W1 (hs.bel hb1))
 clear h1 h2 hs hb1 hW1
 go_enter Tryz.func65,Tryz.ntmps65
 go_upto_region 1 with fail
 rw[<-HW1.out]
 go_wp2_with ((with_reducible refine at_sload 27 _ rfl ?_);go_must (refine wpList_sload rfl S_state _ rfl (by simp[Act.eval]) #[.slice sa s.stories.length sc,.slice ta s.tpls.length tc] rfl HN0.out ?_))
 refine cS.out.mono ?_
 rintro e W2 ⟨u,rfl,hu,hb2⟩
 obtain⟨hok,t0,e0,c0,rfl,hP⟩:=hu
 have HE0:=Lib.hid hP.2.1
 obtain⟨t1,t2,e1,e2,c1,c2,rfl,rfl,rfl⟩:=hP.shape
 have HB2:=Lib.hid hb2
 have HEN:Hid (ednOf s b.story lang=findE (styOf s b.story).eds lang):=Lib.hid rfl
 clear hok hP hb2 cS k3
 generalize (findS s b.story).isSome=found at *
 generalize hX:styOf s b.story=X at *
 have HX:=Lib.hid hX
 clear hX
 go_upto_region 2 with ((with_reducible refine at_sstore 34 _ _ rfl ?_);go_must (refine wpList_snew rfl S_sty _ _ rfl rfl _ _ (styCells X (.slice t1 X.topics.length t2) (.slice e1 X.eds.length e2) (.slice c1 X.corr.length c2)) (by simp[Act.eval]) (by simp[Act.eval]) rfl rfl (by simp[Value.oneCell']) ?_))
 obtain⟨W3,hW3⟩:∃ W3,W3=W2.alloc (.cells (styCells X (.slice t1 X.topics.length t2) (.slice e1 X.eds.length e2) (.slice c1 X.corr.length c2)) 34):=⟨_,rfl⟩
 rw[<-hW3]
 have hb3:Below W2.heap.size W2 W3:=by rw[hW3];exact bel1 _ _
 have HN3:Hid (W3.heap[W2.heap.size]?=some (.cells (styCells X (.slice t1 X.topics.length t2) (.slice e1 X.eds.length e2) (.slice c1 X.corr.length c2)) 34 (0,0))):=Lib.hid (by rw[hW3];exact World.alloc_heap_new _ _)
 have HB3:Hid (Below W1.heap.size W1 W3):=Lib.hid (HB2.out.trans (hb3.mono HB2.out.size))
 have q3:W3.cell? ⟨W2.heap.size,3,none⟩=some (.slice e1 X.eds.length e2):=rowcell HN3.out
 have HZ3:=Lib.hid ((HB3.out.block _ hw1).trans HN2.out)
 clear hW3 hb3
 by_cases hz:X.eds.length=0
 ·have HFIN:Hid (quoS s lang b=(blk0,tRemoved)):=Lib.hid (quo_none HX.out (List.eq_nil_of_length_eq_zero hz))
  rw[hz]at q3
  clear hz
  go_wp2_with (first
   |((with_reducible refine at_sbuild 58 _ rfl ?_);go_must (refine wpList_buildTo rfl 58 _ rfl _ rfl _ (by simp[Act.eval];with_reducible exact built_blk0) ?_))
   |((with_reducible refine at_sstore 58 _ _ rfl ?_);go_must (refine wpList_sstore (cs:=blkCells blk0 (.slice none 0 0)) rfl S_blk _ _ rfl (by simp[Act.eval,Act.put]) (by simp[Act.eval,Act.put]) HZ3.out rfl rfl (by simp[Value.oneCell']) ?_)))
  refine bodyPost_ret (results_cell_row2 (p:=6) (u:=7) (ty:=58) (by kernel_rfl) _ _ (w.heap.size+2) _ _ (0,0) _ (by simp) (setRow_heap _ _ _ _ _ _ HZ3.out) Tryz.underlying58 rfl (by kernel_rfl)) rfl ?_
  unfold QuoPost
  rw[HFIN.out]
  exact⟨_,rfl,blk0_V,below_setRow (HB1.out.trans (HB3.out.mono HB1.out.size)) (by omega) _⟩
 ·have hnz2:((X.eds.length:Int) == 0)=false:=by simp;simpa using hz
  have HNE:Hid (X.eds≠[]):=Lib.hid (fun e=>hz (by rw[e];rfl))
  have hel:X.eds.length<=9223372036854775807:=by
   obtain⟨_,_,_,_,_,h1,h2,_⟩:=SlM.open_ HE0.out
   unfold maxLen at h2;omega
  have HM0:=Lib.hid ((HB3.out.block _ (by omega)).trans HN0.out)
  have HM1:=Lib.hid ((HB3.out.block _ (by omega)).trans HN1.out)
  have k3:W3.cell? ⟨w.heap.size+1,3,none⟩=some (.int .i64 b.story):=rowcell HM1.out
  have cE:=Lib.hid (refEdition_any HST.out b.story lang W3 (HS.out.bel (HB1.out.trans (HB3.out.mono HB1.out.size))))
  go_wp2_with ((with_reducible refine at_sload 27 _ rfl ?_);go_must (refine wpList_sload rfl S_state _ rfl (by simp[Act.eval]) #[.slice sa s.stories.length sc,.slice ta s.tpls.length tc] rfl HM0.out ?_))
  refine cE.out.mono ?_
  rintro e W4 ⟨u,rfl,hu,hb4⟩
  rw[HEN.out]at hu ⊢
  have HEF:Hid (edFor X lang=(findE X.eds lang).getD (X.eds.headD edn0)):=Lib.hid rfl
  generalize findE X.eds lang=fe at *
  obtain⟨hok,b0,rfl,hP⟩:=hu
  obtain⟨b1,b2,rfl⟩:=hP.slice
  have HBM:=Lib.hid hP
  have HB4:Hid (Below W1.heap.size W1 W4):=Lib.hid (HB3.out.trans (hb4.mono HB3.out.size))
  have HN4:=Lib.hid ((hb4.block _ (hlt HN3.out)).trans HN3.out)
  clear hok hP hb4 cE q3 k3 hz hnz2
  go_upto_region 5 with ((with_reducible refine at_sstore 39 _ _ rfl ?_);go_must (refine wpList_snew rfl S_edn _ _ rfl rfl _ _ (ednCells (fe.getD edn0) (.slice b1 (fe.getD edn0).blocks.length b2)) (by simp[Act.eval]) (by simp[Act.eval]) rfl rfl (by simp[Value.oneCell']) ?_))
  obtain⟨W5,hW5⟩:∃ W5,W5=W4.alloc (.cells (ednCells (fe.getD edn0) (.slice b1 (fe.getD edn0).blocks.length b2)) 39):=⟨_,rfl⟩
  rw[<-hW5]
  have hb5:Below W4.heap.size W4 W5:=by rw[hW5];exact bel1 _ _
  have hn5:W5.heap[W4.heap.size]?=some (.cells (ednCells (fe.getD edn0) (.slice b1 (fe.getD edn0).blocks.length b2)) 39 (0,0)):=by rw[hW5];exact World.alloc_heap_new _ _
  have HB5:Hid (Below W1.heap.size W1 W5):=Lib.hid (HB4.out.trans (hb5.mono HB4.out.size))
  have HN5:=Lib.hid hn5
  have HM5:=Lib.hid ((hb5.block _ (hlt HN4.out)).trans HN4.out)
  have h45:W1.heap.size<=W4.heap.size:=HB4.out.size
  have h24:W2.heap.size<W4.heap.size:=hlt HN4.out
  clear hW5 hb5 hn5
  cases fe with
  |some E=>
   have HEX:Hid (edFor X lang=E):=Lib.hid (by rw[HEF.out];rfl)
   rw[show (some E:Option EdnF).isSome=true from rfl]
   obtain⟨W6,hW6⟩:∃ W6,W6=W5:=⟨_,rfl⟩
   have HB6:Hid (Below W1.heap.size W1 W6):=Lib.hid (by rw[hW6];exact HB5.out)
   have HN6:Hid (W6.heap[W4.heap.size]?=some (.cells (ednCells E (.slice b1 E.blocks.length b2)) 39 (0,0))):=Lib.hid (by rw[hW6];exact HN5.out)
   have HM6:Hid (W6.heap[W2.heap.size]?=some (.cells (styCells X (.slice t1 X.topics.length t2) (.slice e1 X.eds.length e2) (.slice c1 X.corr.length c2)) 34 (0,0))):=Lib.hid (by rw[hW6];exact HM5.out)
   have HBE:Hid (BlksM mem (.slice b1 E.blocks.length b2) E.blocks):=HBM
   clear HN5 HM5 HBM
   go_upto_region 7 with fail
   rw[<-hW6]
   clear hW6
   obtain⟨bb1,bb2,bb,bo,hbv,hbcap,hbm,hba,hbat⟩:=HBE.out.open_
   injection hbv with hbv1 hbv0 hbv2
   subst hbv1 hbv2
   clear hbv0
   have HBA:=Lib.hid hba
   have HBAT:=Lib.hid hbat
   have hbl63:E.blocks.length<=9223372036854775807:=by unfold maxLen at hbm;omega
   clear hba hbat hbm
   go_wp2_with fail
   go_loopw [12] (fun i wr=>∃ k:Nat,k<=E.blocks.length/\i=.int .i64 k/\Hid (∀ j (hj:j<E.blocks.length),j<k->decide ((E.blocks[j]).id=b.ref)=false)/\Hid (Below W6.heap.size W6 wr)) (fun i _=>E.blocks.length - (intOf i).toNat)
   case atStart=>exact⟨0,Nat.zero_le _,rfl,Lib.hid (fun j _ h=>absurd h (by omega)),Lib.hid (Below.refl _ _)⟩
   case round=>
    obtain⟨k,hk,rfl,HT,HB⟩:=hrel
    have HB7:Hid (Below W1.heap.size W1 wr):=Lib.hid (HB6.out.trans (HB.out.mono HB6.out.size))
    have HN7:=Lib.hid ((HB.out.block _ (hlt HN6.out)).trans HN6.out)
    have HM7:=Lib.hid ((HB.out.block _ (hlt HM6.out)).trans HM6.out)
    have HZ7:=Lib.hid ((HB7.out.block _ hw1).trans HN2.out)
    have HQ7:=Lib.hid ((HB7.out.block _ (by omega)).trans HN1.out)
    have k73:wr.cell? ⟨W4.heap.size,3,none⟩=some (.slice b1 E.blocks.length b2):=rowcell HN7.out
    by_cases hlk:k<E.blocks.length
    ·obtain rfl:=HBA.out (by omega)
     have k71:wr.cell? ⟨w.heap.size+1,4,none⟩=some (.int .i64 b.ref):=rowcell HQ7.out
     obtain⟨hp3,ao,cap,hint,h9⟩:=(HBAT.out k hlk).nine (HS.out.bel (HB1.out.trans (HB7.out.mono HB1.out.size)))
     have HC9:=Lib.hid (cells9_see h9)
     have i0:wr.cell? ⟨bb,bo+k * 9,none⟩=some (.int .i64 (E.blocks[k]).id):=HC9.out 0 (by omega)
     have HQA:=Lib.hid (fun h2=>quo_at (s:=s) (b:=b) HX.out HEX.out HNE.out k hlk h2 (fun j hj=>HT.out j (Nat.lt_trans hj hlk) hj))
     have HVV:Hid (BlkV mem (.agg (blkCells E.blocks[k] (.slice ao (E.blocks[k]).lab.after.length cap))) E.blocks[k]):=Lib.hid ⟨ao,cap,rfl,hint,hp3⟩
     have HNX:Hid (decide ((E.blocks[k]).id=b.ref)=false->∀ j (hj:j<E.blocks.length),j<k+1->decide ((E.blocks[j]).id=b.ref)=false):=Lib.hid (fun e j hj hjk=>by
      by_cases ej:j=k
      ·subst ej;exact e
      ·exact HT.out j hj (by omega))
     have hkl:(k:Int)<E.blocks.length:=by omega
     clear hint h9 hp3
     generalize E.blocks[k]=y at *
     by_cases hid:y.id=b.ref
     ·have HF:=Lib.hid (HQA.out (decide_eq_true hid))
      have s1:(y.id == b.ref)=true:=by simpa using hid
      have q6:wr.cell? ⟨W2.heap.size,6,none⟩=some (.bool X.retr):=rowcell HM7.out
      clear hid HQA HNX
      go_upto_region 10 with fail
      go_quiet (fail)
      obtain⟨Wq,hWq⟩:∃ Wq,Wq=wr.drewN nq:=⟨_,rfl⟩
      have hbq:Below wr.heap.size wr Wq:=by rw[hWq];exact below_drewN (Below.refl _ _) _
      have HB8:Hid (Below W1.heap.size W1 Wq):=Lib.hid (HB7.out.trans (hbq.mono HB7.out.size))
      have HZ8:=Lib.hid ((hbq.block _ (hlt HZ7.out)).trans HZ7.out)
      have k83:Wq.cell? ⟨W4.heap.size,3,none⟩=some (.slice (some ⟨bb,bo,none⟩) E.blocks.length b2):=sees_bel hbq _ _ k73
      have q86:Wq.cell? ⟨W2.heap.size,6,none⟩=some (.bool X.retr):=sees_bel hbq _ _ q6
      have HC8:Hid (∀ j,j<9->Wq.cell? ⟨bb,bo+k * 9+j,none⟩=(blkCells y (.slice ao y.lab.after.length cap))[j]?):=Lib.hid (fun j hj=>by
       have h1:=HC9.out j hj
       rw[Array.getElem?_eq_getElem (show j<(blkCells y (.slice ao y.lab.after.length cap)).size from hj)]at h1 ⊢
       exact sees_bel hbq _ _ h1)
      rw[<-hWq]
      clear hWq hbq k73 k71 i0 q6 HC9
      cases hr:X.retr with
      |true=>
       have HFIN:Hid (quoS s lang b=(blk0,tRetracted)):=Lib.hid (by rw[HF.out,hr];rfl)
       rw[hr]at q86
       clear hr
       go_wp2_with (first
        |((with_reducible refine at_sbuild 58 _ rfl ?_);go_must (refine wpList_buildTo rfl 58 _ rfl _ rfl _ (by simp[Act.eval];with_reducible exact built_blk0) ?_))
        |((with_reducible refine at_sstore 58 _ _ rfl ?_);go_must (refine wpList_sstore (cs:=blkCells blk0 (.slice none 0 0)) rfl S_blk _ _ rfl (by simp[Act.eval,Act.put]) (by simp[Act.eval,Act.put]) HZ8.out rfl rfl (by simp[Value.oneCell']) ?_)))
       refine bodyPost_ret (results_cell_row2 (p:=6) (u:=7) (ty:=58) (by kernel_rfl) _ _ (w.heap.size+2) _ _ (0,0) _ (by simp) (setRow_heap _ _ _ _ _ _ HZ8.out) Tryz.underlying58 rfl (by kernel_rfl)) rfl ?_
       unfold QuoPost
       rw[HFIN.out]
       exact⟨_,rfl,blk0_V,below_setRow (HB1.out.trans (HB8.out.mono HB1.out.size)) (by omega) _⟩
      |false=>
       have HFIN:Hid (quoS s lang b=(y,[])):=Lib.hid (by rw[HF.out,hr];rfl)
       rw[hr]at q86
       clear hr
       go_wp2_with (first
        |((with_reducible refine at_sload 58 _ rfl ?_);go_must (refine wpList_smid rfl S_blk _ rfl (by simp[Act.eval]) (blkCells y (.slice ao y.lab.after.length cap)) rfl HC8.out ?_))
        |((with_reducible refine at_sstore 58 _ _ rfl ?_);go_must (refine wpList_sstore (cs:=blkCells y (.slice ao y.lab.after.length cap)) rfl S_blk _ _ rfl (by simp[Act.eval,Act.put]) (by simp[Act.eval,Act.put]) HZ8.out rfl rfl (by simp[Value.oneCell']) ?_)))
       refine bodyPost_ret (results_cell_row2 (p:=6) (u:=7) (ty:=58) (by kernel_rfl) _ _ (w.heap.size+2) _ _ (0,0) _ (by simp) (setRow_heap _ _ _ _ _ _ HZ8.out) Tryz.underlying58 rfl (by kernel_rfl)) rfl ?_
       unfold QuoPost
       rw[HFIN.out]
       exact⟨_,rfl,HVV.out,below_setRow (HB1.out.trans (HB8.out.mono HB1.out.size)) (by omega) _⟩
     ·have HN:=Lib.hid (HNX.out (decide_eq_false hid))
      have s1:(y.id == b.ref)=false:=by simpa using hid
      clear hid HQA HNX
      go_upto_region 10 with fail
      go_quiet (fail)
      go_wp2_with fail
      go_roundw
      case rel=>exact⟨k+1,by omega,by go_num,HN,Lib.hid (below_drewN HB.out _)⟩
      case measure=>simp[intOf];omega
    ·obtain rfl:k=E.blocks.length:=by omega
     have HFIN:Hid (quoS s lang b=(blk0,tRemoved)):=Lib.hid (quo_no HX.out HEX.out HNE.out (fun x hx=>by
      obtain⟨j,hj,rfl⟩:=List.getElem_of_mem hx
      exact HT.out j hj hj))
     go_wp2_with (first
      |((with_reducible refine at_sbuild 58 _ rfl ?_);go_must (refine wpList_buildTo rfl 58 _ rfl _ rfl _ (by simp[Act.eval];with_reducible exact built_blk0) ?_))
      |((with_reducible refine at_sstore 58 _ _ rfl ?_);go_must (refine wpList_sstore (cs:=blkCells blk0 (.slice none 0 0)) rfl S_blk _ _ rfl (by simp[Act.eval,Act.put]) (by simp[Act.eval,Act.put]) HZ7.out rfl rfl (by simp[Value.oneCell']) ?_)))
     refine bodyPost_ret (results_cell_row2 (p:=6) (u:=7) (ty:=58) (by kernel_rfl) _ _ (w.heap.size+2) _ _ (0,0) _ (by simp) (setRow_heap _ _ _ _ _ _ HZ7.out) Tryz.underlying58 rfl (by kernel_rfl)) rfl ?_
     unfold QuoPost
     rw[HFIN.out]
     exact⟨_,rfl,blk0_V,below_setRow (HB1.out.trans (HB7.out.mono HB1.out.size)) (by omega) _⟩
  |none=>
   rw[show (none:Option EdnF).isSome=false from rfl]
   obtain⟨ea2,ec2,eb,eo,hev,hec,hem,hea,heat⟩:=SlM.open_ HE0.out
   injection hev with hev1 hev0 hev2
   subst hev1 hev2
   clear hev0
   have hpos:0<X.eds.length:=by
    have h0:=HNE.out
    cases hx:X.eds with
    |nil=>exact absurd hx h0
    |cons a r=>simp
   obtain⟨_,bv0,hcl,hbl⟩:=heat 0 hpos
   obtain rfl:=hea hpos
   obtain⟨d1,d2,rfl⟩:=hbl.slice
   have HCL:Hid (∀ j,j<5->W5.cell? ⟨eb,eo+j,none⟩=(ednCells X.eds[0] (.slice d1 X.eds[0].blocks.length d2))[j]?):=Lib.hid (by
    have h1:=hcl
    rw[Nat.zero_mul,Nat.add_zero]at h1
    exact cells_see (sz:=5) (HS.out.bel (HB1.out.trans (HB5.out.mono HB1.out.size))) h1 rfl)
   have HEX:Hid (edFor X lang=X.eds[0]):=Lib.hid (by
    rw[HEF.out]
    show X.eds.headD edn0=_
    generalize X.eds=l at *
    cases l with
    |nil=>simp at hpos
    |cons a r=>rfl)
   have HBE:=Lib.hid hbl
   have q3:W5.cell? ⟨W2.heap.size,3,none⟩=some (.slice (some ⟨eb,eo,none⟩) X.eds.length e2):=rowcell HM5.out
   have hposI:(0:Int)<X.eds.length:=by omega
   clear heat hea hem hec hcl hbl
   generalize X.eds[0]=E at *
   go_upto_region 7 with (first
    |((with_reducible refine at_sload 39 _ rfl ?_);go_must (refine wpList_smid rfl S_edn _ rfl (by simp[Act.eval]) (ednCells E (.slice d1 E.blocks.length d2)) rfl HCL.out ?_))
    |((with_reducible refine at_sstore 39 _ _ rfl ?_);go_must (refine wpList_sstore (cs:=ednCells E (.slice d1 E.blocks.length d2)) rfl S_edn _ _ rfl (by simp[Act.eval,Act.put]) (by simp[Act.eval,Act.put]) HN5.out rfl rfl (by simp[Value.oneCell']) ?_)))
   obtain⟨W6,hW6⟩:∃ W6,W6=W5.setRow W4.heap.size (ednCells E (.slice d1 E.blocks.length d2)):=⟨_,rfl⟩
   have HB6:Hid (Below W1.heap.size W1 W6):=Lib.hid (by rw[hW6];exact below_setRow HB5.out h45 _)
   have HN6:Hid (W6.heap[W4.heap.size]?=some (.cells (ednCells E (.slice d1 E.blocks.length d2)) 39 (0,0))):=Lib.hid (by rw[hW6];exact setRow_heap _ _ _ _ _ _ HN5.out)
   have HM6:Hid (W6.heap[W2.heap.size]?=some (.cells (styCells X (.slice t1 X.topics.length t2) (.slice (some ⟨eb,eo,none⟩) X.eds.length e2) (.slice c1 X.corr.length c2)) 34 (0,0))):=Lib.hid (by rw[hW6];exact(setRow_other _ _ _ _ (by omega)).trans HM5.out)
   rw[<-hW6]
   clear hW6 q3 HN5 HM5 HBM HCL
   obtain⟨bb1,bb2,bb,bo,hbv,hbcap,hbm,hba,hbat⟩:=HBE.out.open_
   injection hbv with hbv1 hbv0 hbv2
   subst hbv1 hbv2
   clear hbv0
   have HBA:=Lib.hid hba
   have HBAT:=Lib.hid hbat
   have hbl63:E.blocks.length<=9223372036854775807:=by unfold maxLen at hbm;omega
   clear hba hbat hbm
   go_wp2_with fail
   go_loopw [12] (fun i wr=>∃ k:Nat,k<=E.blocks.length/\i=.int .i64 k/\Hid (∀ j (hj:j<E.blocks.length),j<k->decide ((E.blocks[j]).id=b.ref)=false)/\Hid (Below W6.heap.size W6 wr)) (fun i _=>E.blocks.length - (intOf i).toNat)
   case atStart=>exact⟨0,Nat.zero_le _,rfl,Lib.hid (fun j _ h=>absurd h (by omega)),Lib.hid (Below.refl _ _)⟩
   case round=>
    obtain⟨k,hk,rfl,HT,HB⟩:=hrel
    have HB7:Hid (Below W1.heap.size W1 wr):=Lib.hid (HB6.out.trans (HB.out.mono HB6.out.size))
    have HN7:=Lib.hid ((HB.out.block _ (hlt HN6.out)).trans HN6.out)
    have HM7:=Lib.hid ((HB.out.block _ (hlt HM6.out)).trans HM6.out)
    have HZ7:=Lib.hid ((HB7.out.block _ hw1).trans HN2.out)
    have HQ7:=Lib.hid ((HB7.out.block _ (by omega)).trans HN1.out)
    have k73:wr.cell? ⟨W4.heap.size,3,none⟩=some (.slice d1 E.blocks.length d2):=rowcell HN7.out
    by_cases hlk:k<E.blocks.length
    ·obtain rfl:=HBA.out (by omega)
     have k71:wr.cell? ⟨w.heap.size+1,4,none⟩=some (.int .i64 b.ref):=rowcell HQ7.out
     obtain⟨hp3,ao,cap,hint,h9⟩:=(HBAT.out k hlk).nine (HS.out.bel (HB1.out.trans (HB7.out.mono HB1.out.size)))
     have HC9:=Lib.hid (cells9_see h9)
     have i0:wr.cell? ⟨bb,bo+k * 9,none⟩=some (.int .i64 (E.blocks[k]).id):=HC9.out 0 (by omega)
     have HQA:=Lib.hid (fun h2=>quo_at (s:=s) (b:=b) HX.out HEX.out HNE.out k hlk h2 (fun j hj=>HT.out j (Nat.lt_trans hj hlk) hj))
     have HVV:Hid (BlkV mem (.agg (blkCells E.blocks[k] (.slice ao (E.blocks[k]).lab.after.length cap))) E.blocks[k]):=Lib.hid ⟨ao,cap,rfl,hint,hp3⟩
     have HNX:Hid (decide ((E.blocks[k]).id=b.ref)=false->∀ j (hj:j<E.blocks.length),j<k+1->decide ((E.blocks[j]).id=b.ref)=false):=Lib.hid (fun e j hj hjk=>by
      by_cases ej:j=k
      ·subst ej;exact e
      ·exact HT.out j hj (by omega))
     have hkl:(k:Int)<E.blocks.length:=by omega
     clear hint h9 hp3
     generalize E.blocks[k]=y at *
     by_cases hid:y.id=b.ref
     ·have HF:=Lib.hid (HQA.out (decide_eq_true hid))
      have s1:(y.id == b.ref)=true:=by simpa using hid
      have q6:wr.cell? ⟨W2.heap.size,6,none⟩=some (.bool X.retr):=rowcell HM7.out
      clear hid HQA HNX
      go_upto_region 10 with fail
      go_quiet (fail)
      obtain⟨Wq,hWq⟩:∃ Wq,Wq=wr.drewN nq:=⟨_,rfl⟩
      have hbq:Below wr.heap.size wr Wq:=by rw[hWq];exact below_drewN (Below.refl _ _) _
      have HB8:Hid (Below W1.heap.size W1 Wq):=Lib.hid (HB7.out.trans (hbq.mono HB7.out.size))
      have HZ8:=Lib.hid ((hbq.block _ (hlt HZ7.out)).trans HZ7.out)
      have k83:Wq.cell? ⟨W4.heap.size,3,none⟩=some (.slice (some ⟨bb,bo,none⟩) E.blocks.length d2):=sees_bel hbq _ _ k73
      have q86:Wq.cell? ⟨W2.heap.size,6,none⟩=some (.bool X.retr):=sees_bel hbq _ _ q6
      have HC8:Hid (∀ j,j<9->Wq.cell? ⟨bb,bo+k * 9+j,none⟩=(blkCells y (.slice ao y.lab.after.length cap))[j]?):=Lib.hid (fun j hj=>by
       have h1:=HC9.out j hj
       rw[Array.getElem?_eq_getElem (show j<(blkCells y (.slice ao y.lab.after.length cap)).size from hj)]at h1 ⊢
       exact sees_bel hbq _ _ h1)
      rw[<-hWq]
      clear hWq hbq k73 k71 i0 q6 HC9
      cases hr:X.retr with
      |true=>
       have HFIN:Hid (quoS s lang b=(blk0,tRetracted)):=Lib.hid (by rw[HF.out,hr];rfl)
       rw[hr]at q86
       clear hr
       go_wp2_with (first
        |((with_reducible refine at_sbuild 58 _ rfl ?_);go_must (refine wpList_buildTo rfl 58 _ rfl _ rfl _ (by simp[Act.eval];with_reducible exact built_blk0) ?_))
        |((with_reducible refine at_sstore 58 _ _ rfl ?_);go_must (refine wpList_sstore (cs:=blkCells blk0 (.slice none 0 0)) rfl S_blk _ _ rfl (by simp[Act.eval,Act.put]) (by simp[Act.eval,Act.put]) HZ8.out rfl rfl (by simp[Value.oneCell']) ?_)))
       refine bodyPost_ret (results_cell_row2 (p:=6) (u:=7) (ty:=58) (by kernel_rfl) _ _ (w.heap.size+2) _ _ (0,0) _ (by simp) (setRow_heap _ _ _ _ _ _ HZ8.out) Tryz.underlying58 rfl (by kernel_rfl)) rfl ?_
       unfold QuoPost
       rw[HFIN.out]
       exact⟨_,rfl,blk0_V,below_setRow (HB1.out.trans (HB8.out.mono HB1.out.size)) (by omega) _⟩
      |false=>
       have HFIN:Hid (quoS s lang b=(y,[])):=Lib.hid (by rw[HF.out,hr];rfl)
       rw[hr]at q86
       clear hr
       go_wp2_with (first
        |((with_reducible refine at_sload 58 _ rfl ?_);go_must (refine wpList_smid rfl S_blk _ rfl (by simp[Act.eval]) (blkCells y (.slice ao y.lab.after.length cap)) rfl HC8.out ?_))
        |((with_reducible refine at_sstore 58 _ _ rfl ?_);go_must (refine wpList_sstore (cs:=blkCells y (.slice ao y.lab.after.length cap)) rfl S_blk _ _ rfl (by simp[Act.eval,Act.put]) (by simp[Act.eval,Act.put]) HZ8.out rfl rfl (by simp[Value.oneCell']) ?_)))
       refine bodyPost_ret (results_cell_row2 (p:=6) (u:=7) (ty:=58) (by kernel_rfl) _ _ (w.heap.size+2) _ _ (0,0) _ (by simp) (setRow_heap _ _ _ _ _ _ HZ8.out) Tryz.underlying58 rfl (by kernel_rfl)) rfl ?_
       unfold QuoPost
       rw[HFIN.out]
       exact⟨_,rfl,HVV.out,below_setRow (HB1.out.trans (HB8.out.mono HB1.out.size)) (by omega) _⟩
     ·have HN:=Lib.hid (HNX.out (decide_eq_false hid))
      have s1:(y.id == b.ref)=false:=by simpa using hid
      clear hid HQA HNX
      go_upto_region 10 with fail
      go_quiet (fail)
      go_wp2_with fail
      go_roundw
      case rel=>exact⟨k+1,by omega,by go_num,HN,Lib.hid (below_drewN HB.out _)⟩
      case measure=>simp[intOf];omega
    ·obtain rfl:k=E.blocks.length:=by omega
     have HFIN:Hid (quoS s lang b=(blk0,tRemoved)):=Lib.hid (quo_no HX.out HEX.out HNE.out (fun x hx=>by
      obtain⟨j,hj,rfl⟩:=List.getElem_of_mem hx
      exact HT.out j hj hj))
     go_wp2_with (first
      |((with_reducible refine at_sbuild 58 _ rfl ?_);go_must (refine wpList_buildTo rfl 58 _ rfl _ rfl _ (by simp[Act.eval];with_reducible exact built_blk0) ?_))
      |((with_reducible refine at_sstore 58 _ _ rfl ?_);go_must (refine wpList_sstore (cs:=blkCells blk0 (.slice none 0 0)) rfl S_blk _ _ rfl (by simp[Act.eval,Act.put]) (by simp[Act.eval,Act.put]) HZ7.out rfl rfl (by simp[Value.oneCell']) ?_)))
     refine bodyPost_ret (results_cell_row2 (p:=6) (u:=7) (ty:=58) (by kernel_rfl) _ _ (w.heap.size+2) _ _ (0,0) _ (by simp) (setRow_heap _ _ _ _ _ _ HZ7.out) Tryz.underlying58 rfl (by kernel_rfl)) rfl ?_
     unfold QuoPost
     rw[HFIN.out]
     exact⟨_,rfl,blk0_V,below_setRow (HB1.out.trans (HB7.out.mono HB1.out.size)) (by omega) _⟩
set_option maxRecDepth 100000 in
set_option maxHeartbeats 8000000 in
theorem ResolveR_any {mem:Addr->Option Value} {v:Value} {s:StF} (h:StateM mem v s) (hn:s.stories.length<100) (lang:ByteArray) {b:Blk} {bu:Value} (hb:BlkV mem bu b) (w:World) (hs:Sees mem w):
 Calls Tryz.prog 45 #[v,.string lang,bu] w fun e w'=>e=.returned (.string (bs (resS s lang b)))/\Below w.heap.size w w':=by
 have HST:=Lib.hid h
 obtain⟨sv,tv,rfl,h1,h2⟩:=h
 obtain⟨sa,sc,rfl⟩:=SlM.slice h1
 obtain⟨ta,tc,rfl⟩:=SlM.slice h2
 obtain⟨ba,bc,rfl,hbi,hb3⟩:=hb
 have HS:=Lib.hid hs
 have HIB:=Lib.hid (And.intro hbi hb3)
 obtain⟨W1,hW1⟩:∃ W1,W1=(w.alloc (.cells #[.slice sa s.stories.length sc,.slice ta s.tpls.length tc] 27)).alloc (.cells (blkCells b (.slice ba b.lab.after.length bc)) 58):=⟨_,rfl⟩
 have hb1:Below w.heap.size w W1:=by rw[hW1];exact(bel1 w _).alloc (by simp) _
 have HN0:Hid (W1.heap[w.heap.size]?=some (.cells #[.slice sa s.stories.length sc,.slice ta s.tpls.length tc] 27 (0,0))):=Lib.hid (by rw[hW1];exact heap_new1 w _ _)
 have HN1:Hid (W1.heap[w.heap.size+1]?=some (.cells (blkCells b (.slice ba b.lab.after.length bc)) 58 (0,0))):=Lib.hid (by
  rw[hW1]
  have:=World.alloc_heap_new (w.alloc (.cells #[.slice sa s.stories.length sc,.slice ta s.tpls.length tc] 27)) (.cells (blkCells b (.slice ba b.lab.after.length bc)) 58)
  simpa using this)
 have HB1:=Lib.hid hb1
 have HW1:=Lib.hid hW1
 clear h1 h2 hs hb1 hW1 hbi hb3
 go_enter Tryz.func45,Tryz.ntmps45
 go_upto_region 1 with fail
 rw[<-HW1.out]
 go_wp2_with fail
 go_loopw [7] (fun i wr=>∃ (n:Nat) (c:Blk) (ca:Option Addr) (cc:Nat),n<=8/\i=.int .i64 n/\Hid (resGo s lang (8 - n) c=resS s lang b)/\Hid (IntsM mem (.slice ca c.lab.after.length cc) c.lab.after/\c.text.size<=maxLen/\okI c.kind/\okI c.id)/\Hid (wr.heap[w.heap.size]?=some (.cells #[.slice sa s.stories.length sc,.slice ta s.tpls.length tc] 27 (0,0)))/\Hid (wr.heap[w.heap.size+1]?=some (.cells (blkCells c (.slice ca c.lab.after.length cc)) 58 (0,0)))/\Hid (Below w.heap.size w wr)) (fun i _=>8 - (intOf i).toNat)
 case atStart=>exact⟨0,b,ba,bc,by omega,rfl,Lib.hid rfl,HIB,HN0,HN1,HB1⟩
 case round=>
  obtain⟨n,c,ca,cc,hn8,rfl,HR,HI,HZ0,HZ1,HB⟩:=hrel
  have k1:wr.cell? ⟨w.heap.size+1,1,none⟩=some (.int .i64 c.kind):=rowcell HZ1.out
  have HBV:Hid (BlkV mem (.agg (blkCells c (.slice ca c.lab.after.length cc))) c):=Lib.hid ⟨ca,cc,rfl,HI.out⟩
  by_cases hk3:c.kind=3
  ·have HK3:=Lib.hid hk3
   rw[hk3]at k1
   clear hk3
   by_cases h8:n=8
   ·have HF:=Lib.hid (HR.out.symm.trans (show resGo s lang (8 - n) c=tCircular by rw[h8];exact resGo_circ s lang HK3.out))
    subst h8
    go_wp2_with fail
    go_ret
    exact⟨by rw[HF.out];rfl,HB.out⟩
   ·have hn9:((n:Int) == 8)=false:=by simp;omega
    have hn10:(n:Int)<8:=by omega
    have cQ:=Lib.hid (quotedR_any HST.out lang HBV.out wr (HS.out.bel HB.out))
    generalize hcl:c.lab.after.length=cl at *
    go_wp2_with (first
     |((with_reducible refine at_sload 27 _ rfl ?_);go_must (refine wpList_sload rfl S_state _ rfl (by simp[Act.eval]) #[.slice sa s.stories.length sc,.slice ta s.tpls.length tc] rfl HZ0.out ?_))
     |((with_reducible refine at_sload 58 _ rfl ?_);go_must (refine wpList_sload rfl S_blk _ rfl (by simp[Act.eval]) (blkCells c (.slice ca cl cc)) rfl HZ1.out ?_)))
    refine cQ.out.mono ?_
    rintro e W2 ⟨u,rfl,hu,hb2⟩
    have HQT:=Lib.hid (quo_two s lang c)
    have HQS:=Lib.hid (resGo_step s lang (8 - n - 1) HK3.out)
    have HQX:=Lib.hid (resGo_text s lang (8 - n - 1) HK3.out)
    have hne:8 - n - 1+1=8 - n:=by omega
    rw[hne]at HQS HQX
    clear hne
    generalize quoS s lang c=q at *
    obtain⟨qb,qt⟩:=q
    dsimp only at hu HQT HQS HQX
    obtain⟨xa,xc,rfl,hxi⟩:=hu
    have HXI:=Lib.hid hxi
    have HB2:Hid (Below w.heap.size w W2):=Lib.hid (HB.out.trans (hb2.mono HB.out.size))
    have HY0:=Lib.hid ((hb2.block _ (hlt HZ0.out)).trans HZ0.out)
    have HY1:=Lib.hid ((hb2.block _ (hlt HZ1.out)).trans HZ1.out)
    have hw2:wr.heap.size<=W2.heap.size:=hb2.size
    have hw1:w.heap.size+1<wr.heap.size:=hlt HZ1.out
    clear hxi hb2 cQ k1
    generalize hxl:qb.lab.after.length=xl at *
    go_upto_region 5 with ((with_reducible refine at_sstore 58 _ _ rfl ?_);go_must (refine wpList_snew rfl S_blk _ _ rfl rfl _ _ (blkCells qb (.slice xa xl xc)) (by simp[Act.eval]) (by simp[Act.eval]) rfl rfl (by simp[Value.oneCell']) ?_))
    obtain⟨W3,hW3⟩:∃ W3,W3=W2.alloc (.cells (blkCells qb (.slice xa xl xc)) 58):=⟨_,rfl⟩
    rw[<-hW3]
    have hb3:Below W2.heap.size W2 W3:=by rw[hW3];exact bel1 _ _
    have HN3:Hid (W3.heap[W2.heap.size]?=some (.cells (blkCells qb (.slice xa xl xc)) 58 (0,0))):=Lib.hid (by rw[hW3];exact World.alloc_heap_new _ _)
    have HB3:Hid (Below w.heap.size w W3):=Lib.hid (HB2.out.trans (hb3.mono HB2.out.size))
    have HX0:=Lib.hid ((hb3.block _ (hlt HY0.out)).trans HY0.out)
    have HX1:=Lib.hid ((hb3.block _ (hlt HY1.out)).trans HY1.out)
    clear hW3 hb3
    rcases HQT.out with h | h | h
    ·subst h
     rw[show bs ([]:List UInt8)=⟨#[]⟩ from rfl]
     have HNX:Hid (resGo s lang (8 - (n+1)) qb=resS s lang b):=Lib.hid (by
      have h1:=HQS.out rfl
      have h2:=HR.out
      rw[h1]at h2
      rw[show 8 - (n+1)=8 - n - 1 by omega]
      exact h2)
     go_wp2_with (first
      |((with_reducible refine at_sload 58 _ rfl ?_);go_must (refine wpList_sload rfl S_blk _ rfl (by simp[Act.eval]) (blkCells qb (.slice xa xl xc)) rfl HN3.out ?_))
      |((with_reducible refine at_sstore 58 _ _ rfl ?_);go_must (refine wpList_sstore (cs:=blkCells qb (.slice xa xl xc)) rfl S_blk _ _ rfl (by simp[Act.eval,Act.put]) (by simp[Act.eval,Act.put]) HX1.out rfl rfl (by simp[Value.oneCell']) ?_)))
     have hwr:IntKind.i64.wrap ((n:Int)+1)=(n:Int)+1:=IntWalk.i64_in _ (by omega)
     go_roundw
     case rel=>exact⟨n+1,qb,xa,xc,by omega,by go_num,HNX,by rw[hxl];exact HXI,Lib.hid ((setRow_other _ _ _ _ (by omega)).trans HX0.out),Lib.hid (by rw[hxl];exact setRow_heap _ _ _ _ _ _ HX1.out),Lib.hid (below_setRow HB3.out (by omega) _)⟩
     case measure=>simp[intOf];omega
    ·subst h
     have HF:=Lib.hid (HR.out.symm.trans (HQX.out (by decide)))
     rw[show bs tRemoved=⟨#[91,114,101,109,111,118,101,100,93]⟩ from rfl]
     go_wp2_with fail
     go_ret
     exact⟨by rw[HF.out];rfl,HB3.out⟩
    ·subst h
     have HF:=Lib.hid (HR.out.symm.trans (HQX.out (by decide)))
     rw[show bs tRetracted=⟨#[91,114,101,116,114,97,99,116,101,100,93]⟩ from rfl]
     go_wp2_with fail
     go_ret
     exact⟨by rw[HF.out];rfl,HB3.out⟩
  ·have HSH:=Lib.hid (HR.out.symm.trans (resGo_done s lang _ hk3))
   have hk4:(c.kind == 3)=false:=by simpa using hk3
   have k2:wr.cell? ⟨w.heap.size+1,2,none⟩=some (.string c.text):=rowcell HZ1.out
   have HSD:Hid (shown s c=if c.kind=5 then digs (countS s c.text) else c.text.data.toList):=Lib.hid rfl
   clear hk3
   by_cases h8:n=8
   ·have hn9:¬ ((n:Int)<8):=by omega
    clear h8
    by_cases hk5:c.kind=5
    ·have hcn:countS s c.text<100:=by
      have:countS s c.text<=s.stories.length:=List.length_filter_le _ _
      omega
     have HF:Hid (resS s lang b=digs (countS s c.text)):=Lib.hid (by rw[HSH.out,HSD.out,if_pos hk5])
     rw[hk5]at k1 hk4
     have cC:=Lib.hid (countR_any HST.out c.text wr (HS.out.bel HB.out))
     clear hk5
     go_wp2_with ((with_reducible refine at_sload 27 _ rfl ?_);go_must (refine wpList_sload rfl S_state _ rfl (by simp[Act.eval]) #[.slice sa s.stories.length sc,.slice ta s.tpls.length tc] rfl HZ0.out ?_))
     refine cC.out.mono ?_
     rintro e W2 ⟨rfl,hb2⟩
     have HB2:Hid (Below w.heap.size w W2):=Lib.hid (HB.out.trans (hb2.mono HB.out.size))
     have cI:=Lib.hid (digitsR_any (countS s c.text) hcn W2)
     clear hb2 cC
     go_wp2_with fail
     refine cI.out.mono ?_
     rintro e W3 ⟨rfl,hb3⟩
     have HB3:Hid (Below w.heap.size w W3):=Lib.hid (HB2.out.trans (hb3.mono HB2.out.size))
     clear hb3 cI
     go_wp2_with fail
     go_ret
     exact⟨by rw[HF.out];rfl,HB3.out⟩
    ·have hk6:(c.kind == 5)=false:=by simpa using hk5
     have HF:Hid (resS s lang b=c.text.data.toList):=Lib.hid (by rw[HSH.out,HSD.out,if_neg hk5])
     clear hk5
     go_wp2_with fail
     go_ret
     exact⟨by rw[HF.out,bs_data];rfl,HB.out⟩
   ·have hn10:(n:Int)<8:=by omega
    clear h8
    by_cases hk5:c.kind=5
    ·have hcn:countS s c.text<100:=by
      have:countS s c.text<=s.stories.length:=List.length_filter_le _ _
      omega
     have HF:Hid (resS s lang b=digs (countS s c.text)):=Lib.hid (by rw[HSH.out,HSD.out,if_pos hk5])
     rw[hk5]at k1 hk4
     have cC:=Lib.hid (countR_any HST.out c.text wr (HS.out.bel HB.out))
     clear hk5
     go_wp2_with ((with_reducible refine at_sload 27 _ rfl ?_);go_must (refine wpList_sload rfl S_state _ rfl (by simp[Act.eval]) #[.slice sa s.stories.length sc,.slice ta s.tpls.length tc] rfl HZ0.out ?_))
     refine cC.out.mono ?_
     rintro e W2 ⟨rfl,hb2⟩
     have HB2:Hid (Below w.heap.size w W2):=Lib.hid (HB.out.trans (hb2.mono HB.out.size))
     have cI:=Lib.hid (digitsR_any (countS s c.text) hcn W2)
     clear hb2 cC
     go_wp2_with fail
     refine cI.out.mono ?_
     rintro e W3 ⟨rfl,hb3⟩
     have HB3:Hid (Below w.heap.size w W3):=Lib.hid (HB2.out.trans (hb3.mono HB2.out.size))
     clear hb3 cI
     go_wp2_with fail
     go_ret
     exact⟨by rw[HF.out];rfl,HB3.out⟩
    ·have hk6:(c.kind == 5)=false:=by simpa using hk5
     have HF:Hid (resS s lang b=c.text.data.toList):=Lib.hid (by rw[HSH.out,HSD.out,if_neg hk5])
     clear hk5
     go_wp2_with fail
     go_ret
     exact⟨by rw[HF.out,bs_data];rfl,HB.out⟩
theorem plainB_take {l:List Blk} {k:Nat} (h:k<l.length):plainB (l.take (k+1))=plainB (l.take k)++lineOf l[k].kind l[k].text:=by
 rw[List.take_succ_eq_append_getElem h,plainB_snoc]
theorem plainB_takelen {l:List Blk} (ht:∀ x∈l,x.text.size<=10000000000) (hl:l.length<=1000) (k:Nat):(plainB (l.take k)).length<=10000000003000:=by
 have h1:=plainB_len (l:=l.take k) (fun x hx=>ht x (List.mem_of_mem_take hx))
 have h2:(l.take k).length<=1000:=by rw[List.length_take];omega
 have h3:=Nat.mul_le_mul_right 10000000003 h2
 omega
theorem size_data (t:ByteArray):t.data.toList.length=t.size:=Array.length_toList
set_option maxRecDepth 100000 in
set_option maxHeartbeats 8000000 in
theorem plainR_any {mem:Addr->Option Value} {v:Value} {l:List Blk} (h:BlksM mem v l) (hl:l.length<=1000) (ht:∀ x∈l,x.text.size<=10000000000) (w:World) (hs:Sees mem w):
 Calls Tryz.prog 46 #[v] w fun e w'=>e=.returned (.string (bs (plainB l)))/\Below w.heap.size w w':=by
 obtain⟨ba,bc,bb,bo,rfl,hcap,hm,hba,hat⟩:=h.open_
 have HBA:=Lib.hid hba
 have HAT:=Lib.hid hat
 have HT:=Lib.hid ht
 have HS:=Lib.hid hs
 have HLEN:=Lib.hid (plainB_takelen ht hl)
 clear h hba hat ht hs hm
 go_enter Tryz.func46,Tryz.ntmps46
 go_wp2_with fail
 go_loopw [4,3] (fun i o wr=>∃ (k:Nat) (T:ByteArray),k<=l.length/\i=.int .i64 k/\o=.string T/\Hid (T.data.toList=plainB (l.take k))/\Hid (Below w.heap.size w wr)) (fun i _ _=>l.length - (intOf i).toNat)
 case atStart=>exact⟨0,⟨#[]⟩,Nat.zero_le _,rfl,rfl,Lib.hid (by rw[List.take_zero];rfl),Lib.hid (Below.refl _ _)⟩
 case round=>
  obtain⟨k,T,hk,rfl,rfl,HQ,HB⟩:=hrel
  by_cases hlt:k<l.length
  ·obtain rfl:=HBA.out (by omega)
   have hts:T.size<=10000000003000:=by
    have h1:=HLEN.out k
    rw[<-HQ.out,size_data]at h1
    exact h1
   have HNX:Hid (∀ T':ByteArray,T'.data.toList=T.data.toList++lineOf l[k].kind l[k].text->T'.data.toList=plainB (l.take (k+1))):=Lib.hid (fun T' e=>by rw[plainB_take hlt,<-HQ.out];exact e)
   obtain⟨hp3,ao,cap,hint,h9⟩:=(HAT.out k hlt).nine (HS.out.bel HB.out)
   have k1:wr.cell? ⟨bb,bo+k * 9+1,none⟩=some (.int .i64 (l[k]).kind):=cells9_see h9 1 (by omega)
   have k2:wr.cell? ⟨bb,bo+k * 9+2,none⟩=some (.string (l[k]).text):=cells9_see h9 2 (by omega)
   have hxs:=HT.out _ (List.getElem_mem hlt)
   have hkl:(k:Int)<l.length:=by omega
   clear hp3 hint h9
   generalize l[k]=x at *
   by_cases h1:x.kind=1
   ·have HL:Hid (lineOf x.kind x.text=x.text.data.toList++[10]):=Lib.hid (by unfold lineOf lineF;rw[h1];simp)
    rw[h1]at k1
    clear h1
    have HN:=Lib.hid (HNX.out (T++x.text++⟨#[10]⟩) (by rw[HL.out];simp))
    go_wp2_with fail
    go_roundw
    case rel=>exact⟨k+1,T++x.text++⟨#[10]⟩,by omega,by go_num,rfl,HN,HB⟩
    case measure=>simp[intOf];omega
   by_cases h2:x.kind=2
   ·have HL:Hid (lineOf x.kind x.text=joinB (sentF x.text)++[10]):=Lib.hid (by unfold lineOf lineF;rw[h2];simp)
    rw[h2]at k1
    clear h1 h2
    generalize x.text=xt at *
    go_wp2_with fail
    refine(SentencesR_any xt (by omega) wr).mono ?_
    rintro e W5 ⟨sv,rfl,hsr,hb5⟩
    have hlr:=lrow_of hsr
    obtain⟨sa,sc,hsv⟩:=lrow_shape hlr
    subst hsv
    rw[List.length_map]at *
    have HLR:=Lib.hid hlr
    have HB5:Hid (Below w.heap.size w W5):=Lib.hid (HB.out.trans (hb5.mono HB.out.size))
    have hsl:lenS (sentF xt)<=10000000001:=by have:=sentF_len xt;omega
    have hsn:(sentF xt).length<=10000000001:=by have:=lenS_count (sentF xt);omega
    generalize sentF xt=S at *
    have HJL:Hid (∀ q,(joinB (S.take q)).length<=10000000001):=Lib.hid (fun q=>by have h1:=joinB_len (S.take q);have h2:=lenS_take S q;omega)
    have HPC:Hid (∀ q (h:q<S.length),(bs S[q]).size<=10000000001):=Lib.hid (fun q h=>by
     have h1:=lenS_get S q h
     have h2:(bs S[q]).size=(S[q]).length:=by show (bs S[q]).data.size=_;simp[bs]
     omega)
    clear hb5 hsr hlr hsl k1 k2
    go_wp2_with fail
    obtain⟨wo,rfl⟩:∃ wo,wo=wr:=⟨_,rfl⟩
    go_loopw [6,3] (fun i o wq=>∃ (q:Nat) (T2:ByteArray),q<=S.length/\i=.int .i64 q/\o=.string T2/\Hid (T2.data.toList=T.data.toList++joinB (S.take q))/\wq=W5) (fun i _ _=>S.length - (intOf i).toNat)
    case atStart=>exact⟨0,T,Nat.zero_le _,rfl,rfl,Lib.hid (by rw[List.take_zero];show _=T.data.toList++[];rw[List.append_nil]),rfl⟩
    case round=>
     obtain⟨q,T2,hq,rfl,rfl,HQ2,rfl⟩:=hrel
     have ht2:T2.size<=10010000003002:=by
      have h1:=HJL.out q
      have h2:T2.size=T.size+(joinB (S.take q)).length:=by rw[<-size_data T2,HQ2.out,List.length_append,size_data]
      omega
     by_cases hlq:q<S.length
     ·obtain⟨lg,lcap,hlv,_,hlc,hl1,hl2⟩:=lrow_get HLR.out q (by rw[List.length_map];exact hlq)
      injection hlv with hlv1 hlv2 hlv3
      subst hlv1 hlv3
      clear hlv2
      rw[List.length_map]at hl1
      have hl3:sc<=9223372036854775807:=by unfold maxLen at hl2;exact hl2
      rw[List.getElem_map]at hlc
      have hpz:=HPC.out q hlq
      have HJN:Hid (∀ T':ByteArray,T'.data.toList=T2.data.toList++(if q=0 then [] else [32])++S[q]->T'.data.toList=T.data.toList++joinB (S.take (q+1))):=Lib.hid (fun T' e=>by rw[e,HQ2.out,join_take S q hlq];simp only[List.append_assoc])
      generalize S[q]=pc at *
      have hqk:(q:Int)<S.length:=by omega
      clear hl2
      by_cases hq0:q=0
      ·have HN:=Lib.hid (HJN.out (T2++bs pc) (by rw[if_pos hq0];simp[bs]))
       have hq1:¬ ((0:Int)<q):=by omega
       clear hq0
       go_wp2_with fail
       go_roundw
       case rel=>exact⟨q+1,T2++bs pc,by omega,by go_num,rfl,HN,(by first|rfl | trivial)⟩
       case measure=>simp[intOf];omega
      ·have HN:=Lib.hid (HJN.out (T2++⟨#[32]⟩++bs pc) (by rw[if_neg hq0];simp[bs]))
       have hq1:(0:Int)<q:=by omega
       have hz3:(T2++(⟨#[32]⟩:ByteArray)).size<=10010000003003:=by rw[ByteArray.size_append];show T2.size+1<=_;omega
       clear hq0
       go_wp2_with fail
       go_roundw
       case rel=>exact⟨q+1,T2++⟨#[32]⟩++bs pc,by omega,by go_num,rfl,HN,(by first|rfl | trivial)⟩
       case measure=>simp[intOf];omega
     ·obtain rfl:q=S.length:=by omega
      have HN:=Lib.hid (HNX.out (T2++⟨#[10]⟩) (by
       have h1:=HQ2.out
       rw[List.take_length]at h1
       rw[HL.out]
       simp[h1]))
      go_wp2_with fail
      go_roundw
      case rel=>exact⟨k+1,T2++⟨#[10]⟩,by omega,by go_num,rfl,HN,HB5⟩
      case measure=>simp[intOf];omega
   by_cases h3:x.kind=3
   ·have HL:Hid (lineOf x.kind x.text=[34]++x.text.data.toList++[34,10]):=Lib.hid (by unfold lineOf lineF;rw[h3];simp)
    rw[h3]at k1
    clear h1 h2 h3
    have HN:=Lib.hid (HNX.out (T++⟨#[34]⟩++x.text++⟨#[34,10]⟩) (by rw[HL.out];simp))
    go_wp2_with fail
    go_roundw
    case rel=>exact⟨k+1,T++⟨#[34]⟩++x.text++⟨#[34,10]⟩,by omega,by go_num,rfl,HN,HB⟩
    case measure=>simp[intOf];omega
   by_cases h4:x.kind=4
   ·have HL:Hid (lineOf x.kind x.text=[91]++x.text.data.toList++[93,10]):=Lib.hid (by unfold lineOf lineF;rw[h4];simp)
    rw[h4]at k1
    clear h1 h2 h3 h4
    have HN:=Lib.hid (HNX.out (T++⟨#[91]⟩++x.text++⟨#[93,10]⟩) (by rw[HL.out];simp))
    go_wp2_with fail
    go_roundw
    case rel=>exact⟨k+1,T++⟨#[91]⟩++x.text++⟨#[93,10]⟩,by omega,by go_num,rfl,HN,HB⟩
    case measure=>simp[intOf];omega
   by_cases h5:x.kind=5
   ·have HL:Hid (lineOf x.kind x.text=[35]++x.text.data.toList++[10]):=Lib.hid (by unfold lineOf lineF;rw[h5];simp)
    rw[h5]at k1
    clear h1 h2 h3 h4 h5
    have HN:=Lib.hid (HNX.out (T++⟨#[35]⟩++x.text++⟨#[10]⟩) (by rw[HL.out];simp))
    go_wp2_with fail
    go_roundw
    case rel=>exact⟨k+1,T++⟨#[35]⟩++x.text++⟨#[10]⟩,by omega,by go_num,rfl,HN,HB⟩
    case measure=>simp[intOf];omega
   have n1:(x.kind == 1)=false:=by simpa using h1
   have n2:(x.kind == 2)=false:=by simpa using h2
   have n3:(x.kind == 3)=false:=by simpa using h3
   have n4:(x.kind == 4)=false:=by simpa using h4
   have n5:(x.kind == 5)=false:=by simpa using h5
   have HN:=Lib.hid (HNX.out T (by unfold lineOf;rw[if_neg (by omega),List.append_nil]))
   clear h1 h2 h3 h4 h5
   go_wp2_with fail
   go_roundw
   case rel=>exact⟨k+1,T,by omega,by go_num,rfl,HN,HB⟩
   case measure=>simp[intOf];omega
  ·obtain rfl:k=l.length:=by omega
   have HF:Hid (T=bs (plainB l)):=Lib.hid (str_ext (by
    have h1:=HQ.out
    rw[List.take_length]at h1
    rw[h1];simp[bs]))
   go_wp2_with fail
   go_ret
   exact⟨by rw[HF.out];rfl,HB.out⟩
theorem blks_one {W:World} {g:Nat} {x:Blk} {ao:Option Addr} {cap:Nat} (h:W.heap[g]?=some (.cells (blkCells x (.slice ao x.lab.after.length cap)) 58 (0,0))) (hp:x.text.size<=maxLen/\okI x.kind/\okI x.id) (hi:IntsM (fun a=>W.cell? a) (.slice ao x.lab.after.length cap) x.lab.after):BlksM (fun a=>W.cell? a) (.slice (some ⟨g,0,none⟩) 1 1) [x]:=by
 refine⟨g,0,⟨ml 1 (by omega),some ⟨g,0,none⟩,1,rfl,Nat.le_refl _,ml 1 (by omega),fun _=>rfl⟩,fun j hj=>?_⟩
 obtain rfl:j=0:=by simpa using hj
 refine blkAt_cells hp hi fun t ht=>?_
 rw[show 0+0 * 9+t=t by omega]
 exact rowcell h
theorem plainB_one (x:Blk):plainB [x]=lineOf x.kind x.text:=by unfold plainB;simp
theorem shown_take {s:StF} {lang:ByteArray} {l:List Blk} {k:Nat} (h:k<l.length):plainB ((l.take (k+1)).map (shownB s lang))=plainB ((l.take k).map (shownB s lang))++lineOf (shownB s lang l[k]).kind (shownB s lang l[k]).text:=by
 rw[List.take_succ_eq_append_getElem h,List.map_append,List.map_singleton,plainB_snoc]
theorem corr_take {lang:ByteArray} {l:List Corr} {k:Nat} (h:k<l.length):corrLines lang (l.take (k+1))=corrLines lang (l.take k)++(if l[k].lang=lang then tCorr++l[k].text.data.toList++[10] else []):=by
 rw[List.take_succ_eq_append_getElem h,corrLines_snoc]
theorem lineOf_size (k:Int) (t:ByteArray):(bs (lineOf k t)).size<=t.size+3:=by
 have h:=lineOf_len k t
 have h2:(bs (lineOf k t)).size=(lineOf k t).length:=by show (bs (lineOf k t)).data.size=_;simp[bs]
 omega
set_option maxRecDepth 100000 in
set_option maxHeartbeats 16000000 in
theorem TextR_any {mem:Addr->Option Value} {v:Value} {s:StF} (h:StateM mem v s) (hn:s.stories.length<100) (hx:∀ x∈s.stories,TxY x) (htx:TxS s 1000000000) (id:Int) (lang:ByteArray) (w:World) (hs:Sees mem w):
 Calls Tryz.prog 24 #[v,.int .i64 id,.string lang] w (TextPost s id lang w):=by
 have HST:=Lib.hid h
 obtain⟨sv,tv,rfl,h1,h2⟩:=h
 obtain⟨sa,sc,rfl⟩:=SlM.slice h1
 obtain⟨ta,tc,rfl⟩:=SlM.slice h2
 have HS:=Lib.hid hs
 have HTXS:=Lib.hid htx
 have HX:=Lib.hid (txy_of hx id)
 have HTE:=Lib.hid (htx.of id)
 obtain⟨W1,hW1⟩:∃ W1,W1=w.alloc (.cells #[.slice sa s.stories.length sc,.slice ta s.tpls.length tc] 27):=⟨_,rfl⟩
 have hb1:Below w.heap.size w W1:=by rw[hW1];exact bel1 w _
 have HN0:Hid (W1.heap[w.heap.size]?=some (.cells #[.slice sa s.stories.length sc,.slice ta s.tpls.length tc] 27 (0,0))):=Lib.hid (by rw[hW1];exact World.alloc_heap_new w _)
 have HB1:=Lib.hid hb1
 have HW1:=Lib.hid hW1
 have cS:=Lib.hid (refFind_any HST.out id W1 (hs.bel hb1))
 have HNO:=Lib.hid (textS_none (s:=s) (id:=id) (lang:=lang))
 have HYE:=Lib.hid (fun e=>textS_some (s:=s) (id:=id) (lang:=lang) (e:=e))
 clear h1 h2 hs hb1 hW1 hx htx
 go_enter Tryz.func24,Tryz.ntmps24
 go_upto_region 1 with fail
 rw[<-HW1.out]
 clear HW1
 go_wp2_with ((with_reducible refine at_sload 27 _ rfl ?_);go_must (refine wpList_sload rfl S_state _ rfl (by simp[Act.eval]) #[.slice sa s.stories.length sc,.slice ta s.tpls.length tc] rfl HN0.out ?_))
 refine cS.out.mono ?_
 rintro e W2 ⟨u,rfl,hu,hb2⟩
 have HEN:Hid (ednOf s id lang=findE (styOf s id).eds lang):=Lib.hid rfl
 generalize styOf s id=X at *
 obtain⟨hok,t0,e0,c0,rfl,hP⟩:=hu
 have HCR:=Lib.hid hP.2.2
 obtain⟨t1,t2,e1,e2,c1,c2,rfl,rfl,rfl⟩:=hP.shape
 have HB2:=Lib.hid hb2
 clear hok hP hb2 cS
 generalize (findS s id).isSome=found at *
 go_upto_region 2 with ((with_reducible refine at_sstore 34 _ _ rfl ?_);go_must (refine wpList_snew rfl S_sty _ _ rfl rfl _ _ (styCells X (.slice t1 X.topics.length t2) (.slice e1 X.eds.length e2) (.slice c1 X.corr.length c2)) (by simp[Act.eval]) (by simp[Act.eval]) rfl rfl (by simp[Value.oneCell']) ?_))
 obtain⟨W3,hW3⟩:∃ W3,W3=W2.alloc (.cells (styCells X (.slice t1 X.topics.length t2) (.slice e1 X.eds.length e2) (.slice c1 X.corr.length c2)) 34):=⟨_,rfl⟩
 rw[<-hW3]
 have hb3:Below W2.heap.size W2 W3:=by rw[hW3];exact bel1 _ _
 have HN3:Hid (W3.heap[W2.heap.size]?=some (.cells (styCells X (.slice t1 X.topics.length t2) (.slice e1 X.eds.length e2) (.slice c1 X.corr.length c2)) 34 (0,0))):=Lib.hid (by rw[hW3];exact World.alloc_heap_new _ _)
 have HB3:Hid (Below W1.heap.size W1 W3):=Lib.hid (HB2.out.trans (hb3.mono HB2.out.size))
 have HM0:=Lib.hid ((HB3.out.block _ (hlt HN0.out)).trans HN0.out)
 have cE:=Lib.hid (refEdition_any HST.out id lang W3 (HS.out.bel (HB1.out.trans (HB3.out.mono HB1.out.size))))
 clear hW3 hb3
 go_wp2_with ((with_reducible refine at_sload 27 _ rfl ?_);go_must (refine wpList_sload rfl S_state _ rfl (by simp[Act.eval]) #[.slice sa s.stories.length sc,.slice ta s.tpls.length tc] rfl HM0.out ?_))
 refine cE.out.mono ?_
 rintro e W4 ⟨u,rfl,hu,hb4⟩
 rw[HEN.out]at hu ⊢
 have HTI:Hid (∀ E,findE X.eds lang=some E->TxE E/\∀ y∈E.blocks,y.text.size<=1000000000):=Lib.hid (fun E hE=>⟨HX.out.eds E (List.mem_of_find?_eq_some hE),HTE.out E (List.mem_of_find?_eq_some hE)⟩)
 generalize findE X.eds lang=fe at *
 obtain⟨hok,b0,rfl,hP⟩:=hu
 obtain⟨b1,b2,rfl⟩:=hP.slice
 have HBM:=Lib.hid hP
 have HB4:Hid (Below W1.heap.size W1 W4):=Lib.hid (HB3.out.trans (hb4.mono HB3.out.size))
 have HN4:=Lib.hid ((hb4.block _ (hlt HN3.out)).trans HN3.out)
 clear hok hP hb4 cE HM0
 generalize hE:fe.getD edn0=E at *
 go_upto_region 3 with ((with_reducible refine at_sstore 39 _ _ rfl ?_);go_must (refine wpList_snew rfl S_edn _ _ rfl rfl _ _ (ednCells E (.slice b1 E.blocks.length b2)) (by simp[Act.eval]) (by simp[Act.eval]) rfl rfl (by simp[Value.oneCell']) ?_))
 obtain⟨W5,hW5⟩:∃ W5,W5=W4.alloc (.cells (ednCells E (.slice b1 E.blocks.length b2)) 39):=⟨_,rfl⟩
 rw[<-hW5]
 have hb5:Below W4.heap.size W4 W5:=by rw[hW5];exact bel1 _ _
 have HN5:Hid (W5.heap[W4.heap.size]?=some (.cells (ednCells E (.slice b1 E.blocks.length b2)) 39 (0,0))):=Lib.hid (by rw[hW5];exact World.alloc_heap_new _ _)
 have HB5:Hid (Below W1.heap.size W1 W5):=Lib.hid (HB4.out.trans (hb5.mono HB4.out.size))
 have HM5:=Lib.hid ((hb5.block _ (hlt HN4.out)).trans HN4.out)
 clear hW5 hb5 HN3 HN4
 cases fe with
 |none=>
  have HF:=Lib.hid (HNO.out rfl)
  rw[show (none:Option EdnF).isSome=false from rfl]
  clear hE
  go_wp2_with fail
  refine bodyPost_ret (results_tmp2 (u:=6) (v:=7) (by kernel_rfl) _ _) rfl ?_
  unfold TextPost
  rw[HF.out]
  exact⟨rfl,HB1.out.trans (HB5.out.mono HB1.out.size)⟩
 |some E0=>
  have hE:E0=E:=hE
  subst hE
  have HF:=Lib.hid (HYE.out E0 rfl)
  obtain⟨htE,hblk⟩:=HTI.out E0 rfl
  have htl:=htE.1
  have hbl:=htE.2
  have HTB:=Lib.hid hblk
  have HCT:=Lib.hid HX.out.cor
  have hnc:=HX.out.ncor
  clear hblk htE
  rw[show (some E0:Option EdnF).isSome=true from rfl]
  have q2:W5.cell? ⟨W4.heap.size,2,none⟩=some (.string E0.title):=rowcell HN5.out
  have q6:W5.cell? ⟨W2.heap.size,6,none⟩=some (.bool X.retr):=rowcell HM5.out
  have HTXE:Hid (textE s X E0 lang=E0.title.data.toList++[10]++(if X.retr then tWas++[10] else plainB (E0.blocks.map (shownB s lang))++corrLines lang X.corr)):=Lib.hid rfl
  cases hr:X.retr with
  |true=>
   have HR:Hid (bs (textE s X E0 lang)=E0.title++⟨#[10]⟩++⟨#[84,104,105,115,32,115,116,111,114,121,32,119,97,115,32,114,101,116,114,97,99,116,101,100,46,10]⟩):=Lib.hid (str_ext (by rw[HTXE.out,hr];simp[bs,tWas]))
   rw[hr]at q6
   clear hr
   go_wp2_with fail
   refine bodyPost_ret (results_tmp2 (u:=6) (v:=7) (by kernel_rfl) _ _) rfl ?_
   unfold TextPost
   rw[HF.out]
   refine⟨?_,HB1.out.trans (HB5.out.mono HB1.out.size)⟩
   show _=Ending.returned (.tuple #[.string (bs (textE s X E0 lang)),.bool true])
   rw[HR.out]
   rfl
  |false=>
   have HR:Hid (textE s X E0 lang=E0.title.data.toList++[10]++plainB (E0.blocks.map (shownB s lang))++corrLines lang X.corr):=Lib.hid (by rw[HTXE.out,hr];simp)
   rw[hr]at q6
   obtain⟨bb1,bb2,bb,bo,hbv,hbcap,hbm,hba,hbat⟩:=HBM.out.open_
   injection hbv with hbv1 hbv0 hbv2
   subst hbv1 hbv2
   clear hbv0
   have HBA:=Lib.hid hba
   have HBAT:=Lib.hid hbat
   have hbl63:b2<=9223372036854775807:=by unfold maxLen at hbm;exact hbm
   clear hr hba hbat hbm
   go_wp2_with fail
   clear q2 q6
   go_loopw [13,12] (fun i o wr=>∃ (k:Nat) (T:ByteArray),k<=E0.blocks.length/\i=.int .i64 k/\o=.string T/\Hid (T.data.toList=E0.title.data.toList++[10]++plainB ((E0.blocks.take k).map (shownB s lang)))/\T.size<=1000000000001+k * 10000000000/\Hid (Below W5.heap.size W5 wr)) (fun i _ _=>E0.blocks.length - (intOf i).toNat)
   case atStart=>exact⟨0,E0.title++⟨#[10]⟩,Nat.zero_le _,rfl,rfl,Lib.hid (by rw[List.take_zero];simp[plainB]),by rw[ByteArray.size_append];show E0.title.size+1<=_;omega,Lib.hid (Below.refl _ _)⟩
   case round=>
    obtain⟨k,T,hk,rfl,rfl,HQ,hts,HB⟩:=hrel
    have HN6:=Lib.hid ((HB.out.block _ (hlt HN5.out)).trans HN5.out)
    have HB6:Hid (Below W1.heap.size W1 wr):=Lib.hid (HB5.out.trans (HB.out.mono HB5.out.size))
    have k63:wr.cell? ⟨W4.heap.size,3,none⟩=some (.slice b1 E0.blocks.length b2):=rowcell HN6.out
    by_cases hlk:k<E0.blocks.length
    ·obtain rfl:=HBA.out (by omega)
     obtain⟨hp3,ao,cap,hint,h9⟩:=(HBAT.out k hlk).nine (HS.out.bel (HB1.out.trans (HB6.out.mono HB1.out.size)))
     have HC9:=Lib.hid (cells9_see h9)
     have HVV:Hid (BlkV mem (.agg (blkCells E0.blocks[k] (.slice ao (E0.blocks[k]).lab.after.length cap))) E0.blocks[k]):=Lib.hid ⟨ao,cap,rfl,hint,hp3⟩
     have HIN:=Lib.hid hint
     have HP3:=Lib.hid hp3
     have HSK:=Lib.hid (shown_take (s:=s) (lang:=lang) hlk)
     have hyt:=HTB.out _ (List.getElem_mem hlk)
     have hkl:(k:Int)<E0.blocks.length:=by omega
     have HSL:=Lib.hid (shownB_len HTXS.out lang hyt)
     have HRL:=Lib.hid (resS_len HTXS.out lang hyt)
     clear hint h9 hp3
     generalize E0.blocks[k]=y at *
     generalize hyl:y.lab.after.length=yl at *
     have HYL:=Lib.hid hyl
     clear hyl
     go_upto_region 12 with (first
      |((with_reducible refine at_sload 58 _ rfl ?_);go_must (refine wpList_smid rfl S_blk _ rfl (by simp[Act.eval]) (blkCells y (.slice ao yl cap)) rfl HC9.out ?_))
      |((with_reducible refine at_sstore 58 _ _ rfl ?_);go_must (refine wpList_snew rfl S_blk _ _ rfl rfl _ _ (blkCells y (.slice ao yl cap)) (by simp[Act.eval]) (by simp[Act.eval]) rfl rfl (by simp[Value.oneCell']) ?_)))
     obtain⟨W7,hW7⟩:∃ W7,W7=wr.alloc (.cells (blkCells y (.slice ao yl cap)) 58):=⟨_,rfl⟩
     rw[<-hW7]
     have hb7:Below wr.heap.size wr W7:=by rw[hW7];exact bel1 _ _
     have HN7:Hid (W7.heap[wr.heap.size]?=some (.cells (blkCells y (.slice ao yl cap)) 58 (0,0))):=Lib.hid (by rw[hW7];exact World.alloc_heap_new _ _)
     have HB7:Hid (Below W5.heap.size W5 W7):=Lib.hid (HB.out.trans (hb7.mono HB.out.size))
     have h57:W5.heap.size<=wr.heap.size:=HB.out.size
     have HBW7:Hid (Below w.heap.size w W7):=Lib.hid (HB1.out.trans ((HB5.out.trans (HB7.out.mono HB5.out.size)).mono HB1.out.size))
     have HM7:=Lib.hid (((HB5.out.trans (HB7.out.mono HB5.out.size)).block _ (hlt HN0.out)).trans HN0.out)
     have hw0:w.heap.size<W5.heap.size:=Nat.lt_of_lt_of_le (hlt HN0.out) HB5.out.size
     generalize hBX:wr.heap.size=BX at *
     clear hW7 hb7 HC9 k63 hBX
     have k1:W7.cell? ⟨BX,1,none⟩=some (.int .i64 y.kind):=rowcell HN7.out
     by_cases hk3:y.kind=3
     ·have HSH:Hid (shownB s lang y={ y with text:=bs (resS s lang y) }):=Lib.hid (by unfold shownB;rw[if_pos hk3])
      rw[hk3]at k1
      clear hk3
      have cR:=Lib.hid (ResolveR_any HST.out hn lang (b:=y) (bu:=.agg (blkCells y (.slice ao yl cap))) HVV.out W7 (HS.out.bel HBW7.out))
      go_wp2_with (first
       |((with_reducible refine at_sload 27 _ rfl ?_);go_must (refine wpList_sload rfl S_state _ rfl (by simp[Act.eval]) #[.slice sa s.stories.length sc,.slice ta s.tpls.length tc] rfl HM7.out ?_))
       |((with_reducible refine at_sload 58 _ rfl ?_);go_must (refine wpList_sload rfl S_blk _ rfl (by simp[Act.eval]) (blkCells y (.slice ao yl cap)) rfl HN7.out ?_)))
      refine cR.out.mono ?_
      rintro e W8 ⟨rfl,hb8⟩
      have HN8:=Lib.hid ((hb8.block _ (hlt HN7.out)).trans HN7.out)
      have HB8:Hid (Below W5.heap.size W5 W8):=Lib.hid (HB7.out.trans (hb8.mono HB7.out.size))
      have HBW8:Hid (Below w.heap.size w W8):=Lib.hid (HBW7.out.trans (hb8.mono HBW7.out.size))
      have j2:W8.cell? ⟨BX,2,none⟩=some (.string y.text):=rowcell HN8.out
      have z2:W8.frozen? ⟨BX,2,none⟩=false:=rowfree HN8.out
      have hrz:(bs (resS s lang y)).size<=1000000012:=by
       have h1:=HRL.out
       have h2:(bs (resS s lang y)).size=(resS s lang y).length:=by show (bs (resS s lang y)).data.size=_;simp[bs]
       omega
      clear hb8 cR k1
      have HNA:Hid ((W8.setCell ⟨BX,2,none⟩ (.string (bs (resS s lang y)))).heap[BX]?=some (.cells (blkCells { y with text:=bs (resS s lang y) } (.slice ao yl cap)) 58 (0,0))):=Lib.hid (blk_set HN8.out)
      have HBA8:Hid (Below W5.heap.size W5 (W8.setCell ⟨BX,2,none⟩ (.string (bs (resS s lang y))))):=Lib.hid (HB8.out.setCell h57 _)
      have HBWA:Hid (Below w.heap.size w (W8.setCell ⟨BX,2,none⟩ (.string (bs (resS s lang y))))):=Lib.hid (HBW8.out.setCell (by show w.heap.size<=BX;omega) _)
      go_upto_region 17 with fail
      obtain⟨WA,hWA⟩:∃ WA,WA=W8.setCell ⟨BX,2,none⟩ (.string (bs (resS s lang y))):=⟨_,rfl⟩
      rw[<-hWA]at HNA HBA8 HBWA ⊢
      clear hWA j2 z2
      have HLS:=Lib.hid (lineOf_size ({ y with text:=bs (resS s lang y) }).kind ({ y with text:=bs (resS s lang y) }).text)
      have HTZ:Hid (({ y with text:=bs (resS s lang y) }).text.size<=2000000014):=Lib.hid (by have h1:=HSL.out;rw[HSH.out]at h1;exact h1)
      go_wp2_with (first
       |((with_reducible refine at_sload 58 _ rfl ?_);go_must (refine wpList_sload rfl S_blk _ rfl (by simp[Act.eval]) (blkCells { y with text:=bs (resS s lang y) } (.slice ao yl cap)) rfl HNA.out ?_))
       |((with_reducible refine at_sslice 37 _ _ rfl ?_);go_must (refine wpList_one_slice rfl E_blk _ rfl (.agg (blkCells { y with text:=bs (resS s lang y) } (.slice ao yl cap))) rfl (by simp[Act.eval,Act.put]) ?_)))
      have hb8:Below WA.heap.size WA (WA.alloc (.cells (blkCells { y with text:=bs (resS s lang y) } (.slice ao yl cap)) 58)):=bel1 _ _
      refine(plainR_any (l:=[{ y with text:=bs (resS s lang y) }]) (blks_one (x:={ y with text:=bs (resS s lang y) }) (ao:=ao) (cap:=cap) (by show _=some (Obj.cells (blkCells { y with text:=bs (resS s lang y) } (.slice ao y.lab.after.length cap)) 58 (0,0));rw[HYL.out];exact World.alloc_heap_new WA _) ⟨by show (bs (resS s lang y)).size<=maxLen;unfold maxLen;omega,HP3.out.2⟩ (by show IntsM _ (.slice ao y.lab.after.length cap) y.lab.after;rw[HYL.out];exact HIN.out.mono (fun a u e=>sees_bel hb8 a u (HS.out.bel HBWA.out a u e)))) (by show 1<=1000;omega) (fun x hx=>by rw[List.mem_singleton.1 hx];exact Nat.le_trans HTZ.out (by omega)) _ (Sees.self _)).mono ?_
      rintro e W9 ⟨rfl,hb9⟩
      rw[plainB_one]
      have HB9:Hid (Below W5.heap.size W5 W9):=Lib.hid ((HBA8.out.trans (hb8.mono HBA8.out.size)).trans (hb9.mono (Nat.le_trans HBA8.out.size hb8.size)))
      have HNX:Hid ((T++bs (lineOf ({ y with text:=bs (resS s lang y) }).kind ({ y with text:=bs (resS s lang y) }).text)).data.toList=E0.title.data.toList++[10]++plainB ((E0.blocks.take (k+1)).map (shownB s lang))):=Lib.hid (by
       rw[HSK.out,HSH.out]
       simp[bs,HQ.out])
      have hz9:(bs (lineOf ({ y with text:=bs (resS s lang y) }).kind ({ y with text:=bs (resS s lang y) }).text)).size<=2000000017:=Nat.le_trans HLS.out (Nat.add_le_add_right HTZ.out 3)
      have HZ9:Hid ((T++bs (lineOf ({ y with text:=bs (resS s lang y) }).kind ({ y with text:=bs (resS s lang y) }).text)).size<=1000000000001+(k+1) * 10000000000):=Lib.hid (by rw[ByteArray.size_append];omega)
      clear hb8 hb9
      generalize bs (lineOf ({ y with text:=bs (resS s lang y) }).kind ({ y with text:=bs (resS s lang y) }).text)=ln at *
      go_wp2_with fail
      go_roundw
      case rel=>exact⟨k+1,T++ln,by omega,by go_num,rfl,HNX,HZ9.out,HB9⟩
      case measure=>simp[intOf];omega
     by_cases hk5:y.kind=5
     ·have HSH:Hid (shownB s lang y={ blk0 with kind:=2,text:=(y.text++(⟨#[58,32]⟩:ByteArray)++bs (resS s lang y)) }):=Lib.hid (by
       unfold shownB
       rw[if_neg (by omega),if_pos hk5]
       have e:bs (y.text.data.toList++[58,32]++resS s lang y)=(y.text++(⟨#[58,32]⟩:ByteArray)++bs (resS s lang y)):=str_ext (by simp[bs])
       rw[e])
      have hk53:(y.kind == 3)=false:=by simp;omega
      rw[hk5]at k1 hk53
      clear hk5 hk3
      have cR:=Lib.hid (fun W (hb:Below W7.heap.size W7 W)=>ResolveR_any HST.out hn lang (b:=y) (bu:=.agg (blkCells y (.slice ao yl cap))) HVV.out W (HS.out.bel (HBW7.out.trans (hb.mono HBW7.out.size))))
      have hrz:(bs (resS s lang y)).size<=1000000012:=by
       have h1:=HRL.out
       have h2:(bs (resS s lang y)).size=(resS s lang y).length:=by show (bs (resS s lang y)).data.size=_;simp[bs]
       omega
      have hcz:(y.text++(⟨#[58,32]⟩:ByteArray)).size<=1000000002:=by rw[ByteArray.size_append];show y.text.size+2<=_;omega
      go_upto_region 16 with fail
      obtain⟨Wd,hWd⟩:∃ Wd,Wd=W7.drew:=⟨_,rfl⟩
      have hwd:Below W7.heap.size W7 Wd:=by rw[hWd];exact(Below.refl _ W7).drew
      have HND:=Lib.hid ((hwd.block _ (hlt HN7.out)).trans HN7.out)
      have HMD:=Lib.hid ((hwd.block _ (hlt HM7.out)).trans HM7.out)
      have HBD:=Lib.hid hwd
      have HZ0:Hid (Below Wd.heap.size Wd Wd):=Lib.hid (Below.refl _ _)
      clear hwd k1
      refine wp_sch (.take 0 (.take 1 (.take 2 (.take 3 (.take 4 (.take 5 (.only 6 (.take 7 (.take 8 (.last 9 .done)))))))))) 9 (fun W2=>Below Wd.heap.size Wd W2) (by kernel_rfl) (by kernel_rfl) (by rw[<-hWd];exact HZ0.out) ?_
      rw[<-hWd]
      clear hWd
      refine wpSch_take rfl (.pointer (some ⟨BX,2,none⟩)) (fun _ _ _ _ h=>h) HZ0.out (by rfl) (fun W2 hW=>by go_simp) ?_
      simp only[Act.put,List.setIfInBounds_toArray,List.set_cons_zero,List.set_cons_succ]
      refine wpSch_take rfl (.string y.text) (fun _ _ _ _ h=>h) HZ0.out (by rfl) (fun W2 hW=>by have q0:W2.cell? ⟨BX,2,none⟩=some (.string y.text):=rowcell ((hW.block _ (hlt HND.out)).trans HND.out);go_simp) ?_
      simp only[Act.put,List.setIfInBounds_toArray,List.set_cons_zero,List.set_cons_succ]
      refine wpSch_take rfl (.string (y.text++(⟨#[58,32]⟩:ByteArray))) (fun _ _ _ _ h=>h) HZ0.out (by rfl) (fun W2 hW=>by have h0:y.text.size<=9223372036854775805:=(by omega);go_simp) ?_
      simp only[Act.put,List.setIfInBounds_toArray,List.set_cons_zero,List.set_cons_succ]
      refine wpSch_take rfl (.agg #[.slice sa s.stories.length sc,.slice ta s.tpls.length tc]) (fun _ _ _ _ h=>h) HZ0.out (by rfl) (fun W2 hW=>by exact exec_smid S_state _ rfl (by simp[Act.eval]) _ rfl (whole_cells ((hW.block _ (hlt HMD.out)).trans HMD.out))) ?_
      simp only[Act.put,List.setIfInBounds_toArray,List.set_cons_zero,List.set_cons_succ]
      refine wpSch_take rfl (.string lang) (fun _ _ _ _ h=>h) HZ0.out (by rfl) (fun W2 hW=>by go_simp) ?_
      simp only[Act.put,List.setIfInBounds_toArray,List.set_cons_zero,List.set_cons_succ]
      refine wpSch_take rfl (.agg (blkCells y (.slice ao yl cap))) (fun _ _ _ _ h=>h) HZ0.out (by rfl) (fun W2 hW=>by exact exec_smid S_blk _ rfl (by simp[Act.eval]) _ rfl (whole_cells ((hW.block _ (hlt HND.out)).trans HND.out))) ?_
      simp only[Act.put,List.setIfInBounds_toArray,List.set_cons_zero,List.set_cons_succ]
      refine wpSch_only rfl (fun K hK=>?_)
      rw[if_pos (by rfl)]
      go_simp
      refine(cR.out Wd HBD.out).mono ?_
      rintro e W8 ⟨rfl,hb8⟩
      dsimp only
      have HZ8:Hid (Below Wd.heap.size Wd W8):=Lib.hid hb8
      clear hb8
      refine hK _ _ HZ8.out ?_
      clear hK K
      refine wpSch_take rfl (.string (y.text++(⟨#[58,32]⟩:ByteArray)++bs (resS s lang y))) (fun _ _ _ _ h=>h) HZ8.out (by rfl) (fun W2 hW=>by have h0:y.text.size+2+(resS s lang y).length<=9223372036854775807:=(by have h1:=HRL.out;omega);go_simp) ?_
      simp only[Act.put,List.setIfInBounds_toArray,List.set_cons_zero,List.set_cons_succ]
      refine wpSch_take rfl (.agg (blkCells { blk0 with kind:=2,text:=(y.text++(⟨#[58,32]⟩:ByteArray)++bs (resS s lang y)) } (.slice none 0 0))) (fun _ _ _ _ h=>h) HZ8.out (by rfl) (fun W2 hW=>by exact exec_sbuild2 _ _ rfl _ (by simp[Act.eval];with_reducible exact built_cnt _)) ?_
      simp only[Act.put,List.setIfInBounds_toArray,List.set_cons_zero,List.set_cons_succ]
      refine wpSch_last rfl (fun K hK=>?_)
      rw[if_pos (by rfl)]
      have HN8:=Lib.hid ((HZ8.out.block _ (hlt HND.out)).trans HND.out)
      refine wp_sstore S_blk _ _ rfl (by simp[Act.eval]) (by simp[Act.eval]) (g:=BX) (cs:=(blkCells { blk0 with kind:=2,text:=(y.text++(⟨#[58,32]⟩:ByteArray)++bs (resS s lang y)) } (.slice none 0 0))) HN8.out rfl rfl (by simp[Value.oneCell']) ?_
      refine hK _ _ ?_
      clear hK K
      refine wpSch_done ?_
      have HNA:Hid ((W8.setRow BX (blkCells { blk0 with kind:=2,text:=(y.text++(⟨#[58,32]⟩:ByteArray)++bs (resS s lang y)) } (.slice none 0 0))).heap[BX]?=some (.cells (blkCells { blk0 with kind:=2,text:=(y.text++(⟨#[58,32]⟩:ByteArray)++bs (resS s lang y)) } (.slice none 0 0)) 58 (0,0))):=Lib.hid (setRow_heap _ _ _ _ _ _ HN8.out)
      have HBA8:Hid (Below W5.heap.size W5 (W8.setRow BX (blkCells { blk0 with kind:=2,text:=(y.text++(⟨#[58,32]⟩:ByteArray)++bs (resS s lang y)) } (.slice none 0 0)))):=Lib.hid (below_setRow (HB7.out.trans ((HBD.out.trans (HZ8.out.mono HBD.out.size)).mono HB7.out.size)) h57 _)
      obtain⟨WA,hWA⟩:∃ WA,WA=W8.setRow BX (blkCells { blk0 with kind:=2,text:=(y.text++(⟨#[58,32]⟩:ByteArray)++bs (resS s lang y)) } (.slice none 0 0)):=⟨_,rfl⟩
      rw[<-hWA]at HNA HBA8 ⊢
      simp only[Act.put]
      clear hWA
      have HLS:=Lib.hid (lineOf_size ({ blk0 with kind:=2,text:=(y.text++(⟨#[58,32]⟩:ByteArray)++bs (resS s lang y)) }).kind ({ blk0 with kind:=2,text:=(y.text++(⟨#[58,32]⟩:ByteArray)++bs (resS s lang y)) }).text)
      have HTZ:Hid (({ blk0 with kind:=2,text:=(y.text++(⟨#[58,32]⟩:ByteArray)++bs (resS s lang y)) }).text.size<=2000000014):=Lib.hid (by have h1:=HSL.out;rw[HSH.out]at h1;exact h1)
      go_wp2_with (first
       |((with_reducible refine at_sload 58 _ rfl ?_);go_must (refine wpList_sload rfl S_blk _ rfl (by simp[Act.eval]) (blkCells { blk0 with kind:=2,text:=(y.text++(⟨#[58,32]⟩:ByteArray)++bs (resS s lang y)) } (.slice none 0 0)) rfl HNA.out ?_))
       |((with_reducible refine at_sslice 37 _ _ rfl ?_);go_must (refine wpList_one_slice rfl E_blk _ rfl (.agg (blkCells { blk0 with kind:=2,text:=(y.text++(⟨#[58,32]⟩:ByteArray)++bs (resS s lang y)) } (.slice none 0 0))) rfl (by simp[Act.eval,Act.put]) ?_)))
      have hb8:Below WA.heap.size WA (WA.alloc (.cells (blkCells { blk0 with kind:=2,text:=(y.text++(⟨#[58,32]⟩:ByteArray)++bs (resS s lang y)) } (.slice none 0 0)) 58)):=bel1 _ _
      refine(plainR_any (l:=[{ blk0 with kind:=2,text:=(y.text++(⟨#[58,32]⟩:ByteArray)++bs (resS s lang y)) }]) (blks_one (World.alloc_heap_new WA _) ⟨by show ((y.text++(⟨#[58,32]⟩:ByteArray)++bs (resS s lang y))).size<=maxLen;rw[ByteArray.size_append];unfold maxLen;omega,okI_d rfl,okI_d rfl⟩ (IntsM.nil _)) (by show 1<=1000;omega) (fun x hx=>by rw[List.mem_singleton.1 hx];exact Nat.le_trans HTZ.out (by omega)) _ (Sees.self _)).mono ?_
      rintro e W9 ⟨rfl,hb9⟩
      rw[plainB_one]
      have HB9:Hid (Below W5.heap.size W5 W9):=Lib.hid ((HBA8.out.trans (hb8.mono HBA8.out.size)).trans (hb9.mono (Nat.le_trans HBA8.out.size hb8.size)))
      have HNX:Hid ((T++bs (lineOf ({ blk0 with kind:=2,text:=(y.text++(⟨#[58,32]⟩:ByteArray)++bs (resS s lang y)) }).kind ({ blk0 with kind:=2,text:=(y.text++(⟨#[58,32]⟩:ByteArray)++bs (resS s lang y)) }).text)).data.toList=E0.title.data.toList++[10]++plainB ((E0.blocks.take (k+1)).map (shownB s lang))):=Lib.hid (by
       rw[HSK.out,HSH.out]
       simp[bs,HQ.out])
      have hz9:(bs (lineOf ({ blk0 with kind:=2,text:=(y.text++(⟨#[58,32]⟩:ByteArray)++bs (resS s lang y)) }).kind ({ blk0 with kind:=2,text:=(y.text++(⟨#[58,32]⟩:ByteArray)++bs (resS s lang y)) }).text)).size<=2000000017:=Nat.le_trans HLS.out (Nat.add_le_add_right HTZ.out 3)
      have HZ9:Hid ((T++bs (lineOf ({ blk0 with kind:=2,text:=(y.text++(⟨#[58,32]⟩:ByteArray)++bs (resS s lang y)) }).kind ({ blk0 with kind:=2,text:=(y.text++(⟨#[58,32]⟩:ByteArray)++bs (resS s lang y)) }).text)).size<=1000000000001+(k+1) * 10000000000):=Lib.hid (by rw[ByteArray.size_append];omega)
      clear hb8 hb9
      generalize bs (lineOf ({ blk0 with kind:=2,text:=(y.text++(⟨#[58,32]⟩:ByteArray)++bs (resS s lang y)) }).kind ({ blk0 with kind:=2,text:=(y.text++(⟨#[58,32]⟩:ByteArray)++bs (resS s lang y)) }).text)=ln at *
      go_wp2_with fail
      go_roundw
      case rel=>exact⟨k+1,T++ln,by omega,by go_num,rfl,HNX,HZ9.out,HB9⟩
      case measure=>simp[intOf];omega
     have n3:(y.kind == 3)=false:=by simpa using hk3
     have n5:(y.kind == 5)=false:=by simpa using hk5
     have HSH:Hid (shownB s lang y=y):=Lib.hid (by unfold shownB;rw[if_neg hk3,if_neg hk5])
     clear hk3 hk5
     have HLS:=Lib.hid (lineOf_size (y).kind (y).text)
     have HTZ:Hid ((y).text.size<=2000000014):=Lib.hid (by have h1:=HSL.out;rw[HSH.out]at h1;exact h1)
     go_wp2_with (first
      |((with_reducible refine at_sload 58 _ rfl ?_);go_must (refine wpList_sload rfl S_blk _ rfl (by simp[Act.eval]) (blkCells y (.slice ao yl cap)) rfl HN7.out ?_))
      |((with_reducible refine at_sslice 37 _ _ rfl ?_);go_must (refine wpList_one_slice rfl E_blk _ rfl (.agg (blkCells y (.slice ao yl cap))) rfl (by simp[Act.eval,Act.put]) ?_)))
     have hb8:Below W7.heap.size W7 (W7.alloc (.cells (blkCells y (.slice ao yl cap)) 58)):=bel1 _ _
     refine(plainR_any (l:=[y]) (blks_one (x:=y) (ao:=ao) (cap:=cap) (by rw[HYL.out];exact World.alloc_heap_new W7 _) HP3.out (by rw[HYL.out];exact HIN.out.mono (fun a u e=>sees_bel hb8 a u (HS.out.bel HBW7.out a u e)))) (by show 1<=1000;omega) (fun x hx=>by rw[List.mem_singleton.1 hx];exact Nat.le_trans HTZ.out (by omega)) _ (Sees.self _)).mono ?_
     rintro e W9 ⟨rfl,hb9⟩
     rw[plainB_one]
     have HB9:Hid (Below W5.heap.size W5 W9):=Lib.hid ((HB7.out.trans (hb8.mono HB7.out.size)).trans (hb9.mono (Nat.le_trans HB7.out.size hb8.size)))
     have HNX:Hid ((T++bs (lineOf (y).kind (y).text)).data.toList=E0.title.data.toList++[10]++plainB ((E0.blocks.take (k+1)).map (shownB s lang))):=Lib.hid (by
      rw[HSK.out,HSH.out]
      simp[bs,HQ.out])
     have hz9:(bs (lineOf (y).kind (y).text)).size<=2000000017:=Nat.le_trans HLS.out (Nat.add_le_add_right HTZ.out 3)
     have HZ9:Hid ((T++bs (lineOf (y).kind (y).text)).size<=1000000000001+(k+1) * 10000000000):=Lib.hid (by rw[ByteArray.size_append];omega)
     clear hb8 hb9
     generalize bs (lineOf (y).kind (y).text)=ln at *
     go_wp2_with fail
     go_roundw
     case rel=>exact⟨k+1,T++ln,by omega,by go_num,rfl,HNX,HZ9.out,HB9⟩
     case measure=>simp[intOf];omega
    ·obtain rfl:k=E0.blocks.length:=by omega
     rw[List.take_length]at HQ
     go_wp2_with fail
     have HN6:=Lib.hid HB6
     have hts2:T.size<=2000000000001:=by omega
     obtain⟨wo,rfl⟩:∃ wo,wo=wr:=⟨_,rfl⟩
     obtain⟨ca1,ca2,cb,co,hcv,hccap,hcm,hca,hcat⟩:=SlM.open_ HCR.out
     injection hcv with hcv1 hcv0 hcv2
     subst hcv1 hcv2
     clear hcv0
     have HCA:=Lib.hid hca
     have HCAT:=Lib.hid hcat
     have hcl63:c2<=9223372036854775807:=by unfold maxLen at hcm;exact hcm
     clear hca hcat hcm k63
     go_loopw [15,12] (fun i o wq=>∃ (k:Nat) (T2:ByteArray),k<=X.corr.length/\i=.int .i64 k/\o=.string T2/\Hid (T2.data.toList=T.data.toList++corrLines lang (X.corr.take k))/\T2.size<=2000000000001+k * 1013/\Hid (Below W5.heap.size W5 wq)) (fun i _ _=>X.corr.length - (intOf i).toNat)
     case atStart=>exact⟨0,T,Nat.zero_le _,rfl,rfl,Lib.hid (by rw[List.take_zero];simp[corrLines,corrLang]),by omega,HB⟩
     case round=>
      obtain⟨k,T2,hk,rfl,rfl,HQ2,hts3,HBC⟩:=hrel
      have HMC:=Lib.hid ((HBC.out.block _ (hlt HM5.out)).trans HM5.out)
      have k75:wr.cell? ⟨W2.heap.size,5,none⟩=some (.slice c1 X.corr.length c2):=rowcell HMC.out
      have HBWC:Hid (Below w.heap.size w wr):=Lib.hid (HB1.out.trans ((HB5.out.trans (HBC.out.mono HB5.out.size)).mono HB1.out.size))
      by_cases hlk:k<X.corr.length
      ·obtain rfl:=HCA.out (by omega)
       have HCK:=Lib.hid (corr_take (lang:=lang) hlk)
       have HCW:=Lib.hid (cells_see (sz:=5) (HS.out.bel HBWC.out) (HCAT.out k hlk).2 rfl)
       have g0:wr.cell? ⟨cb,co+k * 5,none⟩=some (.string (X.corr[k]).lang):=HCW.out 0 (by omega)
       have g3:wr.cell? ⟨cb,co+k * 5+3,none⟩=some (.string (X.corr[k]).text):=HCW.out 3 (by omega)
       have hct:=HCT.out _ (List.getElem_mem hlk)
       have hkl:(k:Int)<X.corr.length:=by omega
       generalize X.corr[k]=c at *
       by_cases hlg:c.lang=lang
       ·have s1:(c.lang.toList == lang.toList)=true:=(str_dec _ _).trans (decide_eq_true hlg)
        have HNX:Hid ((T2++⟨#[67,111,114,114,101,99,116,105,111,110,58,32]⟩++c.text++⟨#[10]⟩).data.toList=T.data.toList++corrLines lang (X.corr.take (k+1))):=Lib.hid (by
         rw[HCK.out,if_pos hlg]
         simp[HQ2.out,tCorr])
        have hz1:(T2++(⟨#[67,111,114,114,101,99,116,105,111,110,58,32]⟩:ByteArray)).size<=2000000000013+k * 1013:=by rw[ByteArray.size_append];show T2.size+12<=_;omega
        have hz2:(T2++(⟨#[67,111,114,114,101,99,116,105,111,110,58,32]⟩:ByteArray)++c.text).size<=2000000001013+k * 1013:=by rw[ByteArray.size_append];omega
        have HZ3:Hid ((T2++(⟨#[67,111,114,114,101,99,116,105,111,110,58,32]⟩:ByteArray)++c.text++⟨#[10]⟩).size<=2000000000001+(k+1) * 1013):=Lib.hid (by
         rw[ByteArray.size_append,ByteArray.size_append,ByteArray.size_append]
         show T2.size+12+c.text.size+1<=_
         omega)
        clear hlg
        go_wp2_with fail
        go_roundw
        case rel=>exact⟨k+1,T2++⟨#[67,111,114,114,101,99,116,105,111,110,58,32]⟩++c.text++⟨#[10]⟩,by omega,by go_num,rfl,HNX,HZ3.out,HBC⟩
        case measure=>simp[intOf];omega
       ·have s1:(c.lang.toList == lang.toList)=false:=(str_dec _ _).trans (decide_eq_false hlg)
        have HNX:Hid (T2.data.toList=T.data.toList++corrLines lang (X.corr.take (k+1))):=Lib.hid (by rw[HCK.out,if_neg hlg,List.append_nil];exact HQ2.out)
        clear hlg
        go_wp2_with fail
        go_roundw
        case rel=>exact⟨k+1,T2,by omega,by go_num,rfl,HNX,by omega,HBC⟩
        case measure=>simp[intOf];omega
      ·obtain rfl:k=X.corr.length:=by omega
       have HFT:Hid (bs (textE s X E0 lang)=T2):=Lib.hid (str_ext (by
        have h1:=HQ2.out
        rw[List.take_length]at h1
        rw[h1,HQ.out,HR.out]
        simp[bs]))
       go_wp2_with fail
       refine bodyPost_ret (results_tmp2 (u:=6) (v:=7) (by kernel_rfl) _ _) rfl ?_
       unfold TextPost
       rw[HF.out]
       refine⟨?_,HBWC.out⟩
       show _=Ending.returned (.tuple #[.string (bs (textE s X E0 lang)),.bool true])
       rw[HFT.out]
       rfl
theorem state_blks {mem:Addr->Option Value} {v:Value} {s:StF} (h:StateM mem v s):∀ x∈s.stories,∀ e∈x.eds,∀ b∈e.blocks,b.text.size<=maxLen/\okI b.kind/\okI b.id:=by
 obtain⟨sv,tv,rfl,h1,_⟩:=h
 refine SlM.all h1 (p:=fun x=>∀ e∈x.eds,∀ b∈e.blocks,b.text.size<=maxLen/\okI b.kind/\okI b.id) fun x b o hx=>?_
 obtain⟨_,tv,ev,cv,_,hp⟩:=hx
 refine SlM.all hp.2.1 (p:=fun e=>∀ b∈e.blocks,b.text.size<=maxLen/\okI b.kind/\okI b.id) fun e b o he=>?_
 obtain⟨_,bv,_,hb⟩:=he
 exact blksOk hb
theorem edn_blks {mem:Addr->Option Value} {v:Value} {s:StF} (h:StateM mem v s) (id:Int) (lang:ByteArray):∀ b∈((ednOf s id lang).getD edn0).blocks,b.text.size<=maxLen/\okI b.kind/\okI b.id:=by
 unfold ednOf
 cases hf:findE (styOf s id).eds lang with
 |none=>intro b hb;cases hb
 |some e=>
  have hx:∀ e∈(styOf s id).eds,∀ b∈e.blocks,b.text.size<=maxLen/\okI b.kind/\okI b.id:=by
   unfold styOf
   cases hg:findS s id with
   |none=>intro e he;cases he
   |some x=>exact state_blks h x (List.mem_of_find?_eq_some hg)
  exact hx e (List.mem_of_find?_eq_some hf)
def StyRes (X:StyF) (fb:Bool) (w:World) (e:Ending) (w':World):Prop:=∃ ta tc ea ec ca cc,e=.returned (.tuple #[.agg (styCells X (.slice ta X.topics.length tc) (.slice ea X.eds.length ec) (.slice ca X.corr.length cc)),.bool fb])/\StyV (fun p=>w'.cell? p) (.agg (styCells X (.slice ta X.topics.length tc) (.slice ea X.eds.length ec) (.slice ca X.corr.length cc))) X/\Below w.heap.size w w'
def EdnRes (E:EdnF) (eb:Bool) (w:World) (e:Ending) (w':World):Prop:=∃ ba bc,e=.returned (.tuple #[.agg (ednCells E (.slice ba E.blocks.length bc)),.bool eb])/\EdnV (fun p=>w'.cell? p) (.agg (ednCells E (.slice ba E.blocks.length bc))) E/\Below w.heap.size w w'
def TxtRes (T:ByteArray) (tb:Bool) (w:World) (e:Ending) (w':World):Prop:=e=.returned (.tuple #[.string T,.bool tb])/\Below w.heap.size w w'
section
variable {mem:Addr->Option Value} {v:Value} {s:StF} {id:Int} {lang:ByteArray} {w w':World} {e:Ending}
theorem FindPost.res (h:FindPost s id w e w'):StyRes (styOf s id) (findS s id).isSome w e w':=by
 obtain⟨xt,xe,xc,rfl,hxo,hxs,hxk,hxt,hxe,hxc,hb⟩:=h
 obtain⟨xta,xtc,rfl⟩:=lrow_shape hxt
 obtain⟨xea,xec,rfl⟩:=hxe.shape
 obtain⟨xca,xcc,hxcv⟩:=hxc.shape
 rw[List.length_map]at hxcv
 subst hxcv
 refine⟨_,_,_,_,_,_,rfl,⟨hxo,_,_,_,rfl,?_⟩,hb⟩
 have ht:=lrow_strs hxt hxs (F:=fun _=>False) (fun _ _ q=>q)
 have hc:=grow_corrs hxc hxk (F:=fun _=>False) (fun _ _ q=>q)
 obtain⟨cs,h1,h2⟩:=hxe
 have he:=EVals.ednsM (F:=fun _=>False) h1 (h2.mono (memFr_mono (Upd.refl (fun _=>False) w') (fun k hk hf=>⟨fun q=>q,fun q=>q⟩))) (fun _ _ q=>q)
 have hp:StyP (memFr w' (fun _=>False)) (styOf s id) _ _ _:=⟨ht,he,hc⟩
 exact hp.mono (memFr_sees w' _)
theorem EditionPost.res (hm:StateM mem v s) (h:EditionPost s id lang w e w'):EdnRes ((ednOf s id lang).getD edn0) (ednOf s id lang).isSome w e w':=by
 obtain⟨bv,rfl,ho,hb,hbe⟩:=h
 have hv:BlksM (fun p=>w'.cell? p) bv ((ednOf s id lang).getD edn0).blocks:=(BRow.blks hb (edn_blks hm id lang)).mono (memFr_sees _ _)
 have hv2:=hv
 obtain⟨_,_,⟨_,ba,bc,rfl,_⟩,_⟩:=hv2
 exact⟨ba,bc,rfl,⟨ho,_,rfl,hv⟩,hbe⟩
theorem StoryAt.res (hs:Sees mem w) (h:StoryAt mem s id w e w'):StyRes (styOf s id) (findS s id).isSome w e w':=by
 obtain⟨u,rfl,hv,hb⟩:=h
 have hv2:=hv.mono (hs.bel hb)
 obtain⟨_,tv,ev,cv,rfl,hp⟩:=hv
 obtain⟨ta,tc,ea,ec,ca,cc,rfl,rfl,rfl⟩:=hp.shape
 exact⟨ta,tc,ea,ec,ca,cc,rfl,hv2,hb⟩
theorem RefEdn.res (hs:Sees mem w) (h:RefEdn mem s id lang w e w'):EdnRes ((ednOf s id lang).getD edn0) (ednOf s id lang).isSome w e w':=by
 obtain⟨u,rfl,hv,hb⟩:=h
 have hv2:=hv.mono (hs.bel hb)
 obtain⟨_,bv,rfl,hp⟩:=hv
 obtain⟨_,_,⟨_,ba,bc,rfl,_⟩,_⟩:=hp
 exact⟨ba,bc,rfl,hv2,hb⟩
end
structure Looks (mem:Addr->Option Value) (v:Value) (id:Int) (lang:ByteArray) (X:StyF) (fb:Bool) (E:EdnF) (eb:Bool) (T:ByteArray) (tb:Bool):Prop where
 find:∀ w,Sees mem w->Calls Tryz.prog 19 #[v,.int .i64 id] w (StyRes X fb w)
 findR:∀ w,Sees mem w->Calls Tryz.prog 20 #[v,.int .i64 id] w (StyRes X fb w)
 edn:∀ w,Sees mem w->Calls Tryz.prog 21 #[v,.int .i64 id,.string lang] w (EdnRes E eb w)
 ednR:∀ w,Sees mem w->Calls Tryz.prog 22 #[v,.int .i64 id,.string lang] w (EdnRes E eb w)
 txt:∀ w,Sees mem w->Calls Tryz.prog 23 #[v,.int .i64 id,.string lang] w (TxtRes T tb w)
 txtR:∀ w,Sees mem w->Calls Tryz.prog 24 #[v,.int .i64 id,.string lang] w (TxtRes T tb w)
theorem looks_any {mem:Addr->Option Value} {v:Value} {s:StF} (h:StateM mem v s) (hn:s.stories.length<100) (hg:∀ x∈s.stories,StyGood x) (ht:∀ x∈s.stories,∀ e∈x.eds,e.title.size<=1000000000000) (id:Int) (lang:ByteArray):∃ X fb E eb T tb,Looks mem v id lang X fb E eb T tb:=
 ⟨styOf s id,(findS s id).isSome,(ednOf s id lang).getD edn0,(ednOf s id lang).isSome,bs ((textS s id lang).getD []),(textS s id lang).isSome,
   ⟨fun w hs=>(Find_any h (gsty_all hg) id w hs).mono fun _ _ hp=>hp.res,
    fun w hs=>(refFind_any h id w hs).mono fun _ _ hp=>hp.res hs,
    fun w hs=>(Edition_any h (gst_all hg) id lang w hs).mono fun _ _ hp=>hp.res h,
    fun w hs=>(refEdition_any h id lang w hs).mono fun _ _ hp=>hp.res hs,
    fun w hs=>Text_any h hn (txy_all hg ht) (txs_all hg) id lang w hs,
    fun w hs=>TextR_any h hn (txy_all hg ht) (txs_all hg) id lang w hs⟩⟩
theorem short_title {K:Nat} {l:List Fct} (hl:∀ f∈l,f.title.size<=K):∀ f∈shortL7 l,f.title.size<=K:=fun f hf=>by
 obtain⟨y,hy,rfl⟩:=List.mem_map.1 hf
 exact hl y (List.mem_of_mem_take hy)
def oneE (E:EdnF):StyF:={ sty0 with eds:=[E] }
def seCells (g:Nat):Array Value:=styCells sty0 (.slice none 0 0) (.slice (some ⟨g,0,none⟩) 1 1) (.slice none 0 0)
theorem built_se (g:Nat):Tryz.prog.built 34 [(3,.slice (some ⟨g,0,none⟩) 1 1)]=some (seCells g):=by kernel_rfl
theorem oneE_V {W:World} {g:Nat} {E:EdnF} {ba:Option Addr} {bc:Nat} (hh:W.heap[g]?=some (.cells (ednCells E (.slice ba E.blocks.length bc)) 39 (0,0))) (hv:EdnV (fun p=>W.cell? p) (.agg (ednCells E (.slice ba E.blocks.length bc))) E):StyV (fun p=>W.cell? p) (.agg (seCells g)) (oneE E):=by
 refine⟨⟨okI_zero,str0_ok,okI_zero⟩,_,_,_,rfl,sty0_P.1,⟨g,0,⟨ml 1 (by omega),some ⟨g,0,none⟩,1,rfl,Nat.le_refl _,ml 1 (by omega),fun _=>rfl⟩,fun j hj=>?_⟩,sty0_P.2.2⟩
 obtain rfl:j=0:=by simpa [oneE] using hj
 obtain⟨h0,bv,h1,h2⟩:=hv
 injection h1 with h1
 have e1:(.slice ba E.blocks.length bc:Value)=bv:=by have:=congrArg (fun x=>x[3]?) h1;simpa using this
 subst e1
 refine⟨h0,_,fun t ht=>?_,h2⟩
 rw[show 0+0 * 5+t=t by omega]
 exact rowcell hh
end Go.Proofs.YtdkkhmjlamkgdaaGreatDoor
namespace Go.Proofs.YtdkkhmjlamkgdaaGreatDoor.Mg
theorem upEd_titles {P:ByteArray->Prop} {f:Fct} (hf:P f.title):∀ {l:List EdG},(∀ e∈l,P e.title)->∀ e∈upEd f l,P e.title
 |[],_,e,he=>by rw[List.mem_singleton.1 he];exact hf
 |a::r,h,e,he=>by
  unfold upEd at he
  split at he
  ·rcases List.mem_cons.1 he with rfl | he
   ·exact hf
   ·exact h e (List.mem_cons_of_mem _ he)
  ·rcases List.mem_cons.1 he with rfl | he
   ·exact h _ List.mem_cons_self
   ·exact upEd_titles hf (fun y hy=>h y (List.mem_cons_of_mem _ hy)) e he
theorem stepG_titles {P:ByteArray->Prop} {g:StG} (h:∀ e∈g.eds,P e.title) {f:Fct} (hf:P f.title):∀ e∈(stepG g f).eds,P e.title:=by
 unfold stepG
 split
 ·exact upEd_titles hf h
 split
 ·split <;> exact h
 split
 ·intro e he
  unfold touchEd at he
  obtain⟨y,hy,rfl⟩:=List.mem_map.1 he
  split
  ·exact h y hy
  ·exact h y hy
 split
 ·exact h
 split
 ·exact h
 ·exact h
theorem foldl_titles {P:ByteArray->Prop}:∀ (l:List Fct) {g:StG},(∀ e∈g.eds,P e.title)->(∀ f∈l,P f.title)->∀ e∈(l.foldl stepG g).eds,P e.title
 |[],_,h,_=>h
 |f::l,_,h,hl=>foldl_titles l (stepG_titles h (hl f List.mem_cons_self)) (fun x hx=>hl x (List.mem_cons_of_mem _ hx))
theorem fold_titles {P:ByteArray->Prop} {l:List Fct} (hl:∀ f∈l,P f.title) {s:StF} (h:FoldIs l s):∀ x∈s.stories,∀ e∈x.eds,P e.title:=fun x hx e he=>by
 obtain⟨_,z,hz,rfl⟩:=((h.val x hx).mem e).1 he
 exact foldl_titles _ (g:=stg0) (fun e he=>by cases he) (fun f hf=>hl f (List.mem_filter.1 hf).1) z hz
end Go.Proofs.YtdkkhmjlamkgdaaGreatDoor.Mg
namespace Go.Proofs.YtdkkhmjlamkgdaaGreatDoor
open Go.RowKit Mg Go.Shelf Go.Maps
set_option maxRecDepth 100000 in
set_option maxHeartbeats 16000000 in
theorem lookups_any {mem:Addr->Option Value} {v:Value} {es:List FctE} (h:EsM mem v es) (ht:∀ x∈es,x.f.title.size<=1000000000000) (id:Int) (_hid:okI id) (lang:ByteArray) (_hl:lang.size<=maxLen) (w:World) (hs:Sees mem w):
 Calls Tryz.prog 3 #[v,.int .i64 id,.string lang] w fun e w'=>e=.returned (.bool true)/\Below w.heap.size w w':=by
 have c0:=Lib.hid (sane_any w)
 have HS:=Lib.hid hs
 have HE:=Lib.hid h
 have HTI:Hid (∀ f∈shortL7 (es.map FctE.f),f.title.size<=1000000000000):=Lib.hid (short_title (fun f hf=>by
  obtain⟨x,hx,rfl⟩:=List.mem_map.1 hf
  exact ht x hx))
 obtain⟨va,vc,vb,vo,rfl,_⟩:=h.open_
 clear h hs ht
 go_enter Tryz.func3,Tryz.ntmps3
 go_wp2_with fail
 refine c0.out.mono ?_
 rintro e w0 ⟨rfl,hb0⟩
 have HBW:Hid (Below w.heap.size w w0):=Lib.hid hb0
 clear hb0 c0
 have cS:=Lib.hid (short_law HE.out w0 (HS.out.bel HBW.out))
 go_wp2_with fail
 refine cS.out.mono ?_
 rintro e w1 ⟨ra,rc,fs,rfl,hsh⟩
 have cF:=Lib.hid hsh.foldR
 have HC:Hid (Below w0.heap.size w0 w1):=Lib.hid hsh.bel
 clear hsh cS
 go_wp2_with fail
 refine cF.out.mono ?_
 rintro e w2 ⟨a,c,b,d,s,rfl,hF⟩
 have HF:=Lib.hid hF
 have HD:Hid (Below w0.heap.size w0 w2):=Lib.hid (HC.out.trans (hF.bel.mono HC.out.size))
 clear hF cF
 go_upto_region 3 with ((with_reducible refine at_sstore 27 _ _ rfl ?_);go_must (refine wpList_snew rfl S_state _ _ rfl rfl _ _ #[.slice a s.stories.length c,.slice b s.tpls.length d] (by simp[Act.eval]) (by simp[Act.eval]) rfl rfl (by simp[Value.oneCell']) ?_))
 obtain⟨W3,hW3⟩:∃ W3,W3=w2.alloc (.cells #[.slice a s.stories.length c,.slice b s.tpls.length d] 27):=⟨_,rfl⟩
 rw[<-hW3]
 have hb3:Below w2.heap.size w2 W3:=by rw[hW3];exact bel1 _ _
 have HN3:Hid (W3.heap[w2.heap.size]?=some (.cells #[.slice a s.stories.length c,.slice b s.tpls.length d] 27 (0,0))):=Lib.hid (by rw[hW3];exact World.alloc_heap_new _ _)
 have HEB:Hid (Below w0.heap.size w0 W3):=Lib.hid (HD.out.trans (hb3.mono HD.out.size))
 have HST:Hid (StateM (fun p=>W3.cell? p) (.agg #[.slice a s.stories.length c,.slice b s.tpls.length d]) s):=Lib.hid (HF.out.st.mono (fun p u e=>sees_bel hb3 p u (memNo_sees _ _ p u e)))
 have HB3:Hid (Below w.heap.size w W3):=Lib.hid (HBW.out.trans (HEB.out.mono HBW.out.size))
 have HS3:Hid (Sees (fun p=>W3.cell? p) W3):=Lib.hid (Sees.self W3)
 have HLN:Hid (s.stories.length<100):=Lib.hid (by
  have h1:=HF.out.len
  have h2:(shortL7 (es.map FctE.f)).length<=40:=by unfold shortL7;rw[List.length_map,List.length_take];omega
  omega)
 obtain⟨X,fb,E,eb,T,tb,hlk⟩:=looks_any HST.out HLN.out HF.out.good (fold_titles (P:=fun t=>t.size<=1000000000000) HTI.out HF.out.is) id lang
 have HL:=Lib.hid hlk
 clear hW3 hb3 hlk HC HD HEB HTI HF HST HLN HBW
 have cN:=Lib.hid (HL.out.find W3 HS3.out)
 go_wp2_with ((with_reducible refine at_sload 27 _ rfl ?_);go_must (refine wpList_sload rfl S_state _ rfl (by simp[Act.eval]) #[.slice a s.stories.length c,.slice b s.tpls.length d] rfl HN3.out ?_))
 refine cN.out.mono ?_
 rintro e w4 ⟨ta1,tc1,ea1,ec1,ca1,cc1,rfl,hv,hb⟩
 have HN4:=Lib.hid ((hb.block _ (qh HN3.out)).trans HN3.out)
 have HS4:=Lib.hid (HS3.out.bel hb)
 have HB4:Hid (Below w.heap.size w w4):=Lib.hid (HB3.out.trans (hb.mono HB3.out.size))
 clear HN3 HS3 HB3
 have HV1:=Lib.hid hv
 clear hb cN hv
 go_upto_region 4 with ((with_reducible refine at_sstore 34 _ _ rfl ?_);go_must (refine wpList_snew rfl S_sty _ _ rfl rfl _ _ (styCells X (.slice ta1 X.topics.length tc1) (.slice ea1 X.eds.length ec1) (.slice ca1 X.corr.length cc1)) (by simp[Act.eval]) (by simp[Act.eval]) rfl rfl (by simp[Value.oneCell']) ?_))
 obtain⟨W5,hW⟩:∃ W,W=w4.alloc (.cells (styCells X (.slice ta1 X.topics.length tc1) (.slice ea1 X.eds.length ec1) (.slice ca1 X.corr.length cc1)) 34):=⟨_,rfl⟩
 rw[<-hW]
 have hb:Below w4.heap.size w4 W5:=by rw[hW];exact bel1 _ _
 obtain⟨n5,hn⟩:∃ n,n=w4.heap.size:=⟨_,rfl⟩
 replace HV1:=Lib.hid (HV1.out.mono (sees_bel hb))
 have HN5:=Lib.hid ((hb.block _ (qh HN4.out)).trans HN4.out)
 have HS5:=Lib.hid (HS4.out.bel hb)
 have HB5:Hid (Below w.heap.size w W5):=Lib.hid (HB4.out.trans (hb.mono HB4.out.size))
 clear HN4 HS4 HB4
 have HX1:Hid (W5.heap[n5]?=some (.cells (styCells X (.slice ta1 X.topics.length tc1) (.slice ea1 X.eds.length ec1) (.slice ca1 X.corr.length cc1)) 34 (0,0))):=Lib.hid (by rw[hW,hn];exact World.alloc_heap_new _ _)
 rw[<-hn]
 clear hW hn hb
 have cN:=Lib.hid (HL.out.findR W5 HS5.out)
 go_wp2_with ((with_reducible refine at_sload 27 _ rfl ?_);go_must (refine wpList_sload rfl S_state _ rfl (by simp[Act.eval]) #[.slice a s.stories.length c,.slice b s.tpls.length d] rfl HN5.out ?_))
 refine cN.out.mono ?_
 rintro e w6 ⟨ta2,tc2,ea2,ec2,ca2,cc2,rfl,hv,hb⟩
 replace HV1:=Lib.hid (HV1.out.mono (sees_bel hb))
 replace HX1:=Lib.hid ((hb.block _ (qh HX1.out)).trans HX1.out)
 have HN6:=Lib.hid ((hb.block _ (qh HN5.out)).trans HN5.out)
 have HS6:=Lib.hid (HS5.out.bel hb)
 have HB6:Hid (Below w.heap.size w w6):=Lib.hid (HB5.out.trans (hb.mono HB5.out.size))
 clear HN5 HS5 HB5
 have HV2:=Lib.hid hv
 clear hb cN hv
 go_upto_region 5 with ((with_reducible refine at_sstore 34 _ _ rfl ?_);go_must (refine wpList_snew rfl S_sty _ _ rfl rfl _ _ (styCells X (.slice ta2 X.topics.length tc2) (.slice ea2 X.eds.length ec2) (.slice ca2 X.corr.length cc2)) (by simp[Act.eval]) (by simp[Act.eval]) rfl rfl (by simp[Value.oneCell']) ?_))
 obtain⟨W7,hW⟩:∃ W,W=w6.alloc (.cells (styCells X (.slice ta2 X.topics.length tc2) (.slice ea2 X.eds.length ec2) (.slice ca2 X.corr.length cc2)) 34):=⟨_,rfl⟩
 rw[<-hW]
 have hb:Below w6.heap.size w6 W7:=by rw[hW];exact bel1 _ _
 obtain⟨n7,hn⟩:∃ n,n=w6.heap.size:=⟨_,rfl⟩
 replace HV1:=Lib.hid (HV1.out.mono (sees_bel hb))
 replace HV2:=Lib.hid (HV2.out.mono (sees_bel hb))
 replace HX1:=Lib.hid ((hb.block _ (qh HX1.out)).trans HX1.out)
 have HN7:=Lib.hid ((hb.block _ (qh HN6.out)).trans HN6.out)
 have HS7:=Lib.hid (HS6.out.bel hb)
 have HB7:Hid (Below w.heap.size w W7):=Lib.hid (HB6.out.trans (hb.mono HB6.out.size))
 clear HN6 HS6 HB6
 have HX2:Hid (W7.heap[n7]?=some (.cells (styCells X (.slice ta2 X.topics.length tc2) (.slice ea2 X.eds.length ec2) (.slice ca2 X.corr.length cc2)) 34 (0,0))):=Lib.hid (by rw[hW,hn];exact World.alloc_heap_new _ _)
 rw[<-hn]
 clear hW hn hb
 have cN:=Lib.hid (HL.out.edn W7 HS7.out)
 go_wp2_with ((with_reducible refine at_sload 27 _ rfl ?_);go_must (refine wpList_sload rfl S_state _ rfl (by simp[Act.eval]) #[.slice a s.stories.length c,.slice b s.tpls.length d] rfl HN7.out ?_))
 refine cN.out.mono ?_
 rintro e w8 ⟨ba1,bc1,rfl,hv,hb⟩
 replace HV1:=Lib.hid (HV1.out.mono (sees_bel hb))
 replace HV2:=Lib.hid (HV2.out.mono (sees_bel hb))
 replace HX1:=Lib.hid ((hb.block _ (qh HX1.out)).trans HX1.out)
 replace HX2:=Lib.hid ((hb.block _ (qh HX2.out)).trans HX2.out)
 have HN8:=Lib.hid ((hb.block _ (qh HN7.out)).trans HN7.out)
 have HS8:=Lib.hid (HS7.out.bel hb)
 have HB8:Hid (Below w.heap.size w w8):=Lib.hid (HB7.out.trans (hb.mono HB7.out.size))
 clear HN7 HS7 HB7
 have HV3:=Lib.hid hv
 clear hb cN hv
 go_upto_region 6 with ((with_reducible refine at_sstore 39 _ _ rfl ?_);go_must (refine wpList_snew rfl S_edn _ _ rfl rfl _ _ (ednCells E (.slice ba1 E.blocks.length bc1)) (by simp[Act.eval]) (by simp[Act.eval]) rfl rfl (by simp[Value.oneCell']) ?_))
 obtain⟨W9,hW⟩:∃ W,W=w8.alloc (.cells (ednCells E (.slice ba1 E.blocks.length bc1)) 39):=⟨_,rfl⟩
 rw[<-hW]
 have hb:Below w8.heap.size w8 W9:=by rw[hW];exact bel1 _ _
 obtain⟨n9,hn⟩:∃ n,n=w8.heap.size:=⟨_,rfl⟩
 replace HV1:=Lib.hid (HV1.out.mono (sees_bel hb))
 replace HV2:=Lib.hid (HV2.out.mono (sees_bel hb))
 replace HV3:=Lib.hid (HV3.out.mono (sees_bel hb))
 replace HX1:=Lib.hid ((hb.block _ (qh HX1.out)).trans HX1.out)
 replace HX2:=Lib.hid ((hb.block _ (qh HX2.out)).trans HX2.out)
 have HN9:=Lib.hid ((hb.block _ (qh HN8.out)).trans HN8.out)
 have HS9:=Lib.hid (HS8.out.bel hb)
 have HB9:Hid (Below w.heap.size w W9):=Lib.hid (HB8.out.trans (hb.mono HB8.out.size))
 clear HN8 HS8 HB8
 have HX3:Hid (W9.heap[n9]?=some (.cells (ednCells E (.slice ba1 E.blocks.length bc1)) 39 (0,0))):=Lib.hid (by rw[hW,hn];exact World.alloc_heap_new _ _)
 rw[<-hn]
 clear hW hn hb
 have cN:=Lib.hid (HL.out.ednR W9 HS9.out)
 go_wp2_with ((with_reducible refine at_sload 27 _ rfl ?_);go_must (refine wpList_sload rfl S_state _ rfl (by simp[Act.eval]) #[.slice a s.stories.length c,.slice b s.tpls.length d] rfl HN9.out ?_))
 refine cN.out.mono ?_
 rintro e w10 ⟨ba2,bc2,rfl,hv,hb⟩
 replace HV1:=Lib.hid (HV1.out.mono (sees_bel hb))
 replace HV2:=Lib.hid (HV2.out.mono (sees_bel hb))
 replace HV3:=Lib.hid (HV3.out.mono (sees_bel hb))
 replace HX1:=Lib.hid ((hb.block _ (qh HX1.out)).trans HX1.out)
 replace HX2:=Lib.hid ((hb.block _ (qh HX2.out)).trans HX2.out)
 replace HX3:=Lib.hid ((hb.block _ (qh HX3.out)).trans HX3.out)
 have HN10:=Lib.hid ((hb.block _ (qh HN9.out)).trans HN9.out)
 have HS10:=Lib.hid (HS9.out.bel hb)
 have HB10:Hid (Below w.heap.size w w10):=Lib.hid (HB9.out.trans (hb.mono HB9.out.size))
 clear HN9 HS9 HB9
 have HV4:=Lib.hid hv
 clear hb cN hv
 go_upto_region 7 with ((with_reducible refine at_sstore 39 _ _ rfl ?_);go_must (refine wpList_snew rfl S_edn _ _ rfl rfl _ _ (ednCells E (.slice ba2 E.blocks.length bc2)) (by simp[Act.eval]) (by simp[Act.eval]) rfl rfl (by simp[Value.oneCell']) ?_))
 obtain⟨W11,hW⟩:∃ W,W=w10.alloc (.cells (ednCells E (.slice ba2 E.blocks.length bc2)) 39):=⟨_,rfl⟩
 rw[<-hW]
 have hb:Below w10.heap.size w10 W11:=by rw[hW];exact bel1 _ _
 obtain⟨n11,hn⟩:∃ n,n=w10.heap.size:=⟨_,rfl⟩
 replace HV1:=Lib.hid (HV1.out.mono (sees_bel hb))
 replace HV2:=Lib.hid (HV2.out.mono (sees_bel hb))
 replace HV3:=Lib.hid (HV3.out.mono (sees_bel hb))
 replace HV4:=Lib.hid (HV4.out.mono (sees_bel hb))
 replace HX1:=Lib.hid ((hb.block _ (qh HX1.out)).trans HX1.out)
 replace HX2:=Lib.hid ((hb.block _ (qh HX2.out)).trans HX2.out)
 replace HX3:=Lib.hid ((hb.block _ (qh HX3.out)).trans HX3.out)
 have HN11:=Lib.hid ((hb.block _ (qh HN10.out)).trans HN10.out)
 have HS11:=Lib.hid (HS10.out.bel hb)
 have HB11:Hid (Below w.heap.size w W11):=Lib.hid (HB10.out.trans (hb.mono HB10.out.size))
 clear HN10 HS10 HB10
 have HX4:Hid (W11.heap[n11]?=some (.cells (ednCells E (.slice ba2 E.blocks.length bc2)) 39 (0,0))):=Lib.hid (by rw[hW,hn];exact World.alloc_heap_new _ _)
 rw[<-hn]
 clear hW hn hb
 have cN:=Lib.hid (HL.out.txt W11 HS11.out)
 go_wp2_with ((with_reducible refine at_sload 27 _ rfl ?_);go_must (refine wpList_sload rfl S_state _ rfl (by simp[Act.eval]) #[.slice a s.stories.length c,.slice b s.tpls.length d] rfl HN11.out ?_))
 refine cN.out.mono ?_
 rintro e w12 ⟨rfl,hb⟩
 replace HV1:=Lib.hid (HV1.out.mono (sees_bel hb))
 replace HV2:=Lib.hid (HV2.out.mono (sees_bel hb))
 replace HV3:=Lib.hid (HV3.out.mono (sees_bel hb))
 replace HV4:=Lib.hid (HV4.out.mono (sees_bel hb))
 replace HX1:=Lib.hid ((hb.block _ (qh HX1.out)).trans HX1.out)
 replace HX2:=Lib.hid ((hb.block _ (qh HX2.out)).trans HX2.out)
 replace HX3:=Lib.hid ((hb.block _ (qh HX3.out)).trans HX3.out)
 replace HX4:=Lib.hid ((hb.block _ (qh HX4.out)).trans HX4.out)
 have HN12:=Lib.hid ((hb.block _ (qh HN11.out)).trans HN11.out)
 have HS12:=Lib.hid (HS11.out.bel hb)
 have HB12:Hid (Below w.heap.size w w12):=Lib.hid (HB11.out.trans (hb.mono HB11.out.size))
 clear HN11 HS11 HB11
 clear hb cN
 have cN:=Lib.hid (HL.out.txtR w12 HS12.out)
 go_wp2_with ((with_reducible refine at_sload 27 _ rfl ?_);go_must (refine wpList_sload rfl S_state _ rfl (by simp[Act.eval]) #[.slice a s.stories.length c,.slice b s.tpls.length d] rfl HN12.out ?_))
 refine cN.out.mono ?_
 rintro e w13 ⟨rfl,hb⟩
 replace HV1:=Lib.hid (HV1.out.mono (sees_bel hb))
 replace HV2:=Lib.hid (HV2.out.mono (sees_bel hb))
 replace HV3:=Lib.hid (HV3.out.mono (sees_bel hb))
 replace HV4:=Lib.hid (HV4.out.mono (sees_bel hb))
 replace HX1:=Lib.hid ((hb.block _ (qh HX1.out)).trans HX1.out)
 replace HX2:=Lib.hid ((hb.block _ (qh HX2.out)).trans HX2.out)
 replace HX3:=Lib.hid ((hb.block _ (qh HX3.out)).trans HX3.out)
 replace HX4:=Lib.hid ((hb.block _ (qh HX4.out)).trans HX4.out)
 have HN13:=Lib.hid ((hb.block _ (qh HN12.out)).trans HN12.out)
 have HS13:=Lib.hid (HS12.out.bel hb)
 have HB13:Hid (Below w.heap.size w w13):=Lib.hid (HB12.out.trans (hb.mono HB12.out.size))
 clear HN12 HS12 HB12
 clear hb cN
 have hbf:(fb == fb)=true:=by cases fb <;> rfl
 have hbe:(eb == eb)=true:=by cases eb <;> rfl
 have hbt:(tb == tb)=true:=by cases tb <;> rfl
 have cA:Hid (Calls Tryz.prog 25 #[.agg (styCells X (.slice ta1 X.topics.length tc1) (.slice ea1 X.eds.length ec1) (.slice ca1 X.corr.length cc1)),.agg (styCells X (.slice ta2 X.topics.length tc2) (.slice ea2 X.eds.length ec2) (.slice ca2 X.corr.length cc2))] w13 fun e w'=>e=.returned (.bool true)/\Below w13.heap.size w13 w'):=Lib.hid ((sameStoryR_any HV1.out HV2.out w13 (Sees.self w13)).mono fun e w' hp=>⟨by rw[hp.1,decide_eq_true rfl],hp.2⟩)
 go_wp2_with (first
  |((with_reducible refine at_sload 34 (.tmp 9) rfl ?_);go_must (refine wpList_val (by rfl) (.agg (styCells X (.slice ta1 X.topics.length tc1) (.slice ea1 X.eds.length ec1) (.slice ca1 X.corr.length cc1))) (exec_smid S_sty _ rfl (by simp[Act.eval]) _ rfl (whole_cells HX1.out)) ?_))
  |((with_reducible refine at_sload 34 (.tmp 11) rfl ?_);go_must (refine wpList_val (by rfl) (.agg (styCells X (.slice ta2 X.topics.length tc2) (.slice ea2 X.eds.length ec2) (.slice ca2 X.corr.length cc2))) (exec_smid S_sty _ rfl (by simp[Act.eval,Act.put]) _ rfl (whole_cells HX2.out)) ?_)))
 refine cA.out.mono ?_
 rintro e w14 ⟨rfl,hb⟩
 replace HV1:=Lib.hid (HV1.out.mono (sees_bel hb))
 replace HV2:=Lib.hid (HV2.out.mono (sees_bel hb))
 replace HV3:=Lib.hid (HV3.out.mono (sees_bel hb))
 replace HV4:=Lib.hid (HV4.out.mono (sees_bel hb))
 replace HX1:=Lib.hid ((hb.block _ (qh HX1.out)).trans HX1.out)
 replace HX2:=Lib.hid ((hb.block _ (qh HX2.out)).trans HX2.out)
 replace HX3:=Lib.hid ((hb.block _ (qh HX3.out)).trans HX3.out)
 replace HX4:=Lib.hid ((hb.block _ (qh HX4.out)).trans HX4.out)
 have HN14:=Lib.hid ((hb.block _ (qh HN13.out)).trans HN13.out)
 have HS14:=Lib.hid (HS13.out.bel hb)
 have HB14:Hid (Below w.heap.size w w14):=Lib.hid (HB13.out.trans (hb.mono HB13.out.size))
 clear HN13 HS13 HB13
 clear hb cA
 have HWP:Hid (∃ W15 W16,W15=w14.alloc (.cells (ednCells E (.slice ba1 E.blocks.length bc1)) 39)/\W16=W15.alloc (.cells (ednCells E (.slice ba2 E.blocks.length bc2)) 39)):=Lib.hid ⟨_,_,rfl,rfl⟩
 have HX4b:Hid ((w14.alloc (.cells (ednCells E (.slice ba1 E.blocks.length bc1)) 39)).heap[n11]?=some (.cells (ednCells E (.slice ba2 E.blocks.length bc2)) 39 (0,0))):=Lib.hid (((bel1 w14 _).block _ (qh HX4.out)).trans HX4.out)
 go_wp2_with (first
  |((with_reducible refine at_sload 39 (.tmp 13) rfl ?_);go_must (refine wpList_val (by rfl) (.agg (ednCells E (.slice ba1 E.blocks.length bc1))) (exec_smid S_edn _ rfl (by simp[Act.eval]) _ rfl (whole_cells HX3.out)) ?_))
  |((with_reducible refine at_sload 39 (.tmp 15) rfl ?_);go_must (refine wpList_val (by rfl) (.agg (ednCells E (.slice ba2 E.blocks.length bc2))) (exec_smid S_edn _ rfl (by simp[Act.eval,Act.put]) _ rfl (whole_cells HX4b.out)) ?_))
  |((with_reducible refine at_sslice 31 1 #[(0,.tmp 92)] rfl ?_);go_must (refine wpList_wanted (by rfl) (fun K hK=>wp_one_slice E_edn _ rfl (.agg (ednCells E (.slice ba1 E.blocks.length bc1))) rfl (by simp[Act.eval,Act.put]) (hK _ _ ?_))))
  |((with_reducible refine at_sslice 31 1 #[(0,.tmp 95)] rfl ?_);go_must (refine wpList_wanted (by rfl) (fun K hK=>wp_one_slice E_edn _ rfl (.agg (ednCells E (.slice ba2 E.blocks.length bc2))) rfl (by simp[Act.eval,Act.put]) (hK _ _ ?_))))
  |((with_reducible refine at_sbuild 34 _ rfl ?_);go_must (refine wpList_val (by rfl) _ (exec_sbuild2 34 _ rfl _ (by simp[Act.eval,Act.put];with_reducible exact built_se _)) ?_)))
 obtain⟨W15,W16,h15,h16⟩:=HWP.out
 rw[<-h15,<-h16,<-(show W15.heap.size=w14.heap.size+1 by rw[h15,World.size_alloc])]
 have HBa:Hid (Below w14.heap.size w14 W15):=Lib.hid (by rw[h15];exact bel1 _ _)
 have HBb:Hid (Below W15.heap.size W15 W16):=Lib.hid (by rw[h16];exact bel1 _ _)
 have HP1:Hid (W15.heap[w14.heap.size]?=some (.cells (ednCells E (.slice ba1 E.blocks.length bc1)) 39 (0,0))):=Lib.hid (by rw[h15];exact World.alloc_heap_new _ _)
 have HP2:Hid (W16.heap[W15.heap.size]?=some (.cells (ednCells E (.slice ba2 E.blocks.length bc2)) 39 (0,0))):=Lib.hid (by rw[h16];exact World.alloc_heap_new _ _)
 have HBC:Hid (Below w14.heap.size w14 W16):=Lib.hid (HBa.out.trans (HBb.out.mono HBa.out.size))
 have HVA:Hid (StyV (fun p=>W16.cell? p) (.agg (seCells w14.heap.size)) (oneE E)):=Lib.hid (oneE_V ((HBb.out.block _ (qh HP1.out)).trans HP1.out) (HV3.out.mono (sees_bel HBC.out)))
 have HVB:Hid (StyV (fun p=>W16.cell? p) (.agg (seCells W15.heap.size)) (oneE E)):=Lib.hid (oneE_V HP2.out (HV4.out.mono (sees_bel HBC.out)))
 have cB:Hid (Calls Tryz.prog 25 #[.agg (seCells w14.heap.size),.agg (seCells W15.heap.size)] W16 fun e w'=>e=.returned (.bool true)/\Below W16.heap.size W16 w'):=Lib.hid ((sameStoryR_any HVA.out HVB.out W16 (Sees.self W16)).mono fun e w' hp=>⟨by rw[hp.1,decide_eq_true rfl],hp.2⟩)
 have HBX:Hid (Below w.heap.size w W16):=Lib.hid (HB14.out.trans (HBC.out.mono HB14.out.size))
 clear h15 h16 HWP HX4b
 refine cB.out.mono ?_
 rintro e w17 ⟨rfl,hb⟩
 have HBF:Hid (Below w.heap.size w w17):=Lib.hid (HBX.out.trans (hb.mono HBX.out.size))
 clear hb cB
 go_wp2_with fail
 go_ret
 exact⟨rfl,HBF.out⟩
end Go.Proofs.YtdkkhmjlamkgdaaGreatDoor
namespace Go.Proofs.YtdkkhmjlamkgdaaGreatDoor
open Go.ChangeShapes Go.WideShapes Go.RowKit Go.Deep Mg
theorem cell_add {w:World} {a:Addr} {k:Nat} {v:Value} (h:w.cell? (a.add k)=some v):w.cell? ⟨a.block,a.off+k,none⟩=some v:=by
 by_cases hk:k=0
 ·subst hk
  have e:a.add 0=a:=by simp[Addr.add]
  rw[e]at h
  obtain⟨b,o,s⟩:=a
  cases s with
  |none=>exact h
  |some x=>
   unfold World.cell? at h
   simp at h
   split at h <;> simp at h
 ·unfold Addr.add at h
  rwa [if_neg hk]at h
theorem cell_spot {w:World} {a:Addr} {v:Value} (h:w.cell? a=some v):a=⟨a.block,a.off,none⟩:=by
 obtain⟨b,o,s⟩:=a
 cases s with
 |none=>rfl
 |some x=>
  unfold World.cell? at h
  simp at h
  split at h <;> simp at h
theorem add_zero (a:Addr):a.add 0=a:=by simp[Addr.add]
section
variable {H:Type} {enc:TypeId × Value->H} {P:Program} {w W:World} {base:Nat} {spare:Nat->Bool} {held:Bool}
theorem open_rows {t e:TypeId} {fuel n:Nat} {cs:List Value} {x:DataW H × List MemPlace} (ht:P.underlying t=some (.slice e)) (hC:P.cellsOf e=n) (hpos:0<n) (h:DataW.trod enc P w base spare held fuel t cs=some x):
 cs=[.slice none 0 0] ∨
 ∃ (a:Addr) (len cap:Nat),cs=[.slice (some a) len cap]/\len<=cap/\cap<=maxLen/\(0<len->a=⟨a.block,a.off,none⟩) ∧
  ∀ i,i<len->∃ (cs':List Value) (y:DataW H × List MemPlace) (m:Nat),cs'.length=n/\DataW.trod enc P w base spare held m e cs'=some y/\∀ j (hj:j<cs'.length),w.cell? ⟨a.block,a.off+i * n+j,none⟩=some cs'[j]:=by
 subst hC
 rcases DataW.trod_slice ht h with ⟨h0,_⟩ | ⟨a,len,cap,elems,rest,n,rfl,hcs,hx,_,hl,hm,hlen,hel,_,_⟩
 ·exact .inl h0
 ·refine .inr ⟨a,len,cap,hcs,hl,hm,fun h0=>?_,fun i hi=>?_⟩
  ·have h1:=hel 0 h0
   rw[List.getElem?_eq_getElem (by omega),Option.bind_eq_some_iff,Nat.zero_mul,add_zero]at h1
   obtain⟨cs',hc,ht'⟩:=h1
   obtain⟨_,hcl,hat⟩:=World.cells?_some hc
   have h2:=hat 0 hpos
   rw[List.getElem?_eq_getElem (by rw[hcl];exact hpos),add_zero]at h2
   exact cell_spot h2
  have h1:=hel i hi
  rw[List.getElem?_eq_getElem (by omega)]at h1
  rw[Option.bind_eq_some_iff]at h1
  obtain⟨cs',hc,ht'⟩:=h1
  obtain⟨_,hcl,hat⟩:=World.cells?_some hc
  refine⟨cs',_,n,hcl,ht',fun j hj=>?_⟩
  have h2:=hat j (by omega)
  rw[List.getElem?_eq_getElem hj,Go.Deep.add_add]at h2
  rw[Nat.add_assoc]
  exact cell_add h2
theorem int_arg {fuel:Nat} {v:Value} {x:DataW H × List MemPlace} (h:DataW.trod enc Tryz.prog w base spare held fuel 3 [v]=some x):∃ n:Int,v=.int .i64 n/\okI n:=by
 obtain⟨n,h1,_,h2⟩:=DataW.trod_int Tryz.underlying3 h
 injection h1 with h1 _
 refine⟨n,h1,?_⟩
 have e1:IntKind.i64.min=-9223372036854775808:=by decide
 have e2:IntKind.i64.max=9223372036854775807:=by decide
 simp only[Lit.wf,e1,e2,Bool.and_eq_true,decide_eq_true_eq]at h2
 exact h2
theorem string_arg {fuel:Nat} {v:Value} {x:DataW H × List MemPlace} (h:DataW.trod enc Tryz.prog w base spare held fuel 9 [v]=some x):∃ s:ByteArray,v=.string s/\s.size<=maxLen:=by
 obtain⟨s,h1,_,h3⟩:=DataW.trod_string Tryz.underlying9 h
 injection h1 with h1 _
 exact⟨s,h1,h3⟩
theorem each_ints {mem:Addr->Option Value} {b:Nat}:∀ (n o:Nat),(∀ i,i<n->∃ x:Int,mem ⟨b,o+i,none⟩=some (.int .i64 x))->∃ l:List Int,l.length=n/\∀ j (h:j<l.length),mem ⟨b,o+j,none⟩=some (.int .i64 l[j])
 |0,o,_=>⟨[],rfl,fun j h=>absurd h (by simp)⟩
 |n+1,o,h=>by
  obtain⟨x,hx⟩:=h 0 (by omega)
  obtain⟨l,h1,h2⟩:=each_ints n (o+1) (fun i hi=>by rw[show o+1+i=o+(i+1) by omega];exact h (i+1) (by omega))
  refine⟨x::l,by simp[h1],fun j hj=>?_⟩
  cases j with
  |zero=>exact hx
  |succ j=>rw[show o+(j+1)=o+1+j by omega];exact h2 j (by simpa using hj)
theorem cells3:Tryz.prog.cellsOf 3=1:=by kernel_rfl
theorem cells9:Tryz.prog.cellsOf 9=1:=by kernel_rfl
theorem cells25:Tryz.prog.cellsOf 46=1:=by kernel_rfl
theorem cells37:Tryz.prog.cellsOf 48=4:=by kernel_rfl
theorem cells39:Tryz.prog.cellsOf 58=9:=by kernel_rfl
theorem ints_arg {fuel:Nat} {v:Value} {x:DataW H × List MemPlace} (h:DataW.trod enc Tryz.prog w base spare held fuel 46 [v]=some x):∃ l:List Int,IntsM (fun a=>w.cell? a) v l:=by
 rcases open_rows Tryz.underlying46 cells3 (by omega) h with h0 | ⟨a,len,cap,hcs,hl,hm,hsp,hi⟩
 ·injection h0 with h0 _
  subst h0
  exact⟨[],IntsM.nil _⟩
 ·injection hcs with hcs _
  subst hcs
  obtain⟨l,h1,h2⟩:=each_ints (mem:=fun a=>w.cell? a) (b:=a.block) len a.off (fun i hil=>by
   obtain⟨cs',y,m,hcl,ht,hc⟩:=hi i hil
   match cs',hcl with
   |[u],_=>
    obtain⟨n,rfl,_⟩:=int_arg ht
    have:=hc 0 (by simp)
    exact⟨n,by simpa using this⟩)
  subst h1
  exact⟨l,a.block,a.off,⟨Nat.le_trans hl hm,some a,cap,rfl,hl,hm,fun h0=>by rw[<-hsp h0]⟩,h2⟩
theorem one37:∃ fs,Tryz.prog.underlying 48=some (.struct fs)/\(fs.map (·.type)).toList=[3,46,3,3]/\(fs.map (·.offset)).toList=[0,1,2,3]:=
 ⟨_,Tryz.underlying48,by simp,by simp⟩
theorem one39:∃ fs,Tryz.prog.underlying 58=some (.struct fs)/\(fs.map (·.type)).toList=[3,3,9,3,3,48]/\(fs.map (·.offset)).toList=[0,1,2,3,4,5]:=
 ⟨_,Tryz.underlying58,by simp,by simp⟩
theorem field_arg {t:TypeId} {fs:Array Field} {fuel:Nat} {cs:List Value} {x:DataW H × List MemPlace} (hu:P.underlying t=some (.struct fs)) (h:DataW.trod enc P w base spare held fuel t cs=some x):
 ∃ m,∀ (j:Nat) (t':TypeId) (o:Nat),(fs.map (·.type)).toList[j]?=some t'->(fs.map (·.offset)).toList[j]?=some o->∃ y:DataW H × List MemPlace,DataW.trod enc P w base spare held m t' ((cs.drop o).take (P.cellsOf t'))=some y:=by
 obtain⟨xs,n,_,_,_,hlen,hg⟩:=DataW.trod_struct hu h
 refine⟨n,fun j t' o ht ho=>?_⟩
 rw[Array.getElem?_toList,Array.getElem?_map,Option.map_eq_some_iff]at ht ho
 obtain⟨f,hj,rfl⟩:=ht
 obtain⟨f',hj',rfl⟩:=ho
 obtain rfl:=Option.some.inj (hj.symm.trans hj')
 have hjl:j<xs.length:=by rw[hlen];exact(Array.getElem?_eq_some_iff.1 hj).1
 exact⟨xs[j],(hg j f hj).trans (List.getElem?_eq_getElem hjl)⟩
set_option maxRecDepth 100000 in
theorem blk_arg {fuel:Nat} {cs:List Value} {x:DataW H × List MemPlace} (hl:cs.length=9) (h:DataW.trod enc Tryz.prog w base spare held fuel 58 cs=some x) {b o:Nat} (hc:∀ j (hj:j<cs.length),w.cell? ⟨b,o+j,none⟩=some cs[j]):
 ∃ y:Blk,BlkAt (fun a=>w.cell? a) y b o:=by
 obtain⟨fs,hu,hty,hof⟩:=one39
 obtain⟨m,key⟩:=field_arg hu h
 rw[hty,hof]at key
 match cs,hl with
 |[c0,c1,c2,c3,c4,c5,c6,c7,c8],_=>
  obtain⟨y0,t0⟩:=key 0 3 0 rfl rfl
  obtain⟨y1,t1⟩:=key 1 3 1 rfl rfl
  obtain⟨y2,t2⟩:=key 2 9 2 rfl rfl
  obtain⟨y3,t3⟩:=key 3 3 3 rfl rfl
  obtain⟨y4,t4⟩:=key 4 3 4 rfl rfl
  obtain⟨y5,t5⟩:=key 5 48 5 rfl rfl
  rw[cells3]at t0 t1 t3 t4
  rw[cells9]at t2
  rw[cells37]at t5
  obtain⟨gs,hu',hty',hof'⟩:=one37
  obtain⟨m',key'⟩:=field_arg hu' t5
  rw[hty',hof']at key'
  obtain⟨z0,s0⟩:=key' 0 3 0 rfl rfl
  obtain⟨z1,s1⟩:=key' 1 46 1 rfl rfl
  obtain⟨z2,s2⟩:=key' 2 3 2 rfl rfl
  obtain⟨z3,s3⟩:=key' 3 3 3 rfl rfl
  rw[cells3]at s0 s2 s3
  rw[cells25]at s1
  obtain⟨id,rfl,k0⟩:=int_arg (v:=c0) t0
  obtain⟨kind,rfl,k1⟩:=int_arg (v:=c1) t1
  obtain⟨text,rfl,k2⟩:=string_arg (v:=c2) t2
  obtain⟨story,rfl,_⟩:=int_arg (v:=c3) t3
  obtain⟨ref,rfl,_⟩:=int_arg (v:=c4) t4
  obtain⟨till,rfl,_⟩:=int_arg (v:=c5) s0
  obtain⟨after,ka⟩:=ints_arg (v:=c6) s1
  obtain⟨appr,rfl,_⟩:=int_arg (v:=c7) s2
  obtain⟨den,rfl,_⟩:=int_arg (v:=c8) s3
  exact⟨⟨id,kind,text,story,ref,⟨till,after,appr,den⟩⟩,⟨hc 0 (by simp),hc 1 (by simp),hc 2 (by simp),hc 3 (by simp),hc 4 (by simp)⟩,⟨hc 5 (by simp),hc 7 (by simp),hc 8 (by simp)⟩,⟨k2,k1,k0⟩,c6,hc 6 (by simp),ka⟩
theorem each_blks {mem:Addr->Option Value} {b:Nat}:∀ (n o:Nat),(∀ i,i<n->∃ y:Blk,BlkAt mem y b (o+i * 9))->∃ l:List Blk,l.length=n/\BlksAt mem l b o
 |0,o,_=>⟨[],rfl,fun j h=>absurd h (by simp)⟩
 |n+1,o,h=>by
  obtain⟨x,hx⟩:=h 0 (by omega)
  obtain⟨l,h1,h2⟩:=each_blks n (o+9) (fun i hi=>by rw[show o+9+i * 9=o+(i+1) * 9 by omega];exact h (i+1) (by omega))
  refine⟨x::l,by simp[h1],fun j hj=>?_⟩
  cases j with
  |zero=>exact hx
  |succ j=>rw[show o+(j+1) * 9=o+9+j * 9 by omega];exact h2 j (by simpa using hj)
theorem blks_arg {fuel:Nat} {v:Value} {x:DataW H × List MemPlace} (h:DataW.trod enc Tryz.prog w base spare held fuel 37 [v]=some x):∃ l:List Blk,BlksM (fun a=>w.cell? a) v l:=by
 rcases open_rows Tryz.underlying37 cells39 (by omega) h with h0 | ⟨a,len,cap,hcs,hl,hm,hsp,hi⟩
 ·injection h0 with h0 _
  subst h0
  exact⟨[],BlksM.nil _⟩
 ·injection hcs with hcs _
  subst hcs
  obtain⟨l,h1,h2⟩:=each_blks (mem:=fun a=>w.cell? a) (b:=a.block) len a.off (fun i hil=>by
   obtain⟨cs',y,m,hcl,ht,hc⟩:=hi i hil
   exact blk_arg hcl ht hc)
  subst h1
  exact⟨l,a.block,a.off,⟨Nat.le_trans hl hm,some a,cap,rfl,hl,hm,fun h0=>by rw[<-hsp h0]⟩,h2⟩
end
end Go.Proofs.YtdkkhmjlamkgdaaGreatDoor
namespace Go.Proofs.YtdkkhmjlamkgdaaGreatDoor
open Go.RowKit Mg Go.Shelf
end Go.Proofs.YtdkkhmjlamkgdaaGreatDoor
namespace Go.Proofs.YtdkkhmjlamkgdaaGreatDoor
open Go.ChangeShapes Go.WideShapes Go.RowKit Go.Deep Mg
section
variable {H:Type} {enc:TypeId × Value->H} {w W:World} {base:Nat} {spare:Nat->Bool} {held:Bool}
theorem cellsSS:Tryz.prog.cellsOf 30=1:=by kernel_rfl
theorem cellsBB:Tryz.prog.cellsOf 37=1:=by kernel_rfl
theorem cellsFF:Tryz.prog.cellsOf 50=23:=by kernel_rfl
theorem each_strs {mem:Addr->Option Value} {b:Nat}:∀ (n o:Nat),(∀ i,i<n->∃ x:ByteArray,mem ⟨b,o+i,none⟩=some (.string x)/\x.size<=maxLen)->∃ l:List ByteArray,l.length=n/\(∀ s∈l,s.size<=maxLen)/\∀ j (h:j<l.length),mem ⟨b,o+j,none⟩=some (.string l[j])
 |0,o,_=>⟨[],rfl,(fun s h=>by cases h),fun j h=>absurd h (by simp)⟩
 |n+1,o,h=>by
  obtain⟨x,hx,hx2⟩:=h 0 (by omega)
  obtain⟨l,h1,h3,h2⟩:=each_strs n (o+1) (fun i hi=>by rw[show o+1+i=o+(i+1) by omega];exact h (i+1) (by omega))
  refine⟨x::l,by simp[h1],fun s hs=>?_,fun j hj=>?_⟩
  ·rcases List.mem_cons.1 hs with rfl | hs
   ·exact hx2
   ·exact h3 s hs
  cases j with
  |zero=>exact hx
  |succ j=>rw[show o+(j+1)=o+1+j by omega];exact h2 j (by simpa using hj)
theorem strs_arg {fuel:Nat} {v:Value} {x:DataW H × List MemPlace} (h:DataW.trod enc Tryz.prog w base spare held fuel 30 [v]=some x):∃ l:List ByteArray,StrsM (fun a=>w.cell? a) v l:=by
 rcases open_rows Tryz.underlying30 cells9 (by omega) h with h0 | ⟨a,len,cap,hcs,hl,hm,hsp,hi⟩
 ·injection h0 with h0 _
  subst h0
  exact⟨[],StrsM.nil _⟩
 ·injection hcs with hcs _
  subst hcs
  obtain⟨l,h1,h3,h2⟩:=each_strs (mem:=fun a=>w.cell? a) (b:=a.block) len a.off (fun i hil=>by
   obtain⟨cs',y,m,hcl,ht,hc⟩:=hi i hil
   match cs',hcl with
   |[u],_=>
    obtain⟨n,rfl,hn⟩:=string_arg ht
    have:=hc 0 (by simp)
    exact⟨n,by simpa using this,hn⟩)
  subst h1
  exact⟨l,a.block,a.off,⟨Nat.le_trans hl hm,some a,cap,rfl,hl,hm,fun h0=>by rw[<-hsp h0]⟩,h3,h2⟩
theorem oneFF:∃ fs,Tryz.prog.underlying 50=some (.struct fs)/\(fs.map (·.type)).toList=[3,3,3,3,9,3,3,9,9,30,37,48,3,3,3,9,9,3,3,3]/\(fs.map (·.offset)).toList=[0,1,2,3,4,5,6,7,8,9,10,11,15,16,17,18,19,20,21,22]:=
 ⟨_,Tryz.underlying50,by simp,by simp⟩
set_option maxRecDepth 100000 in
set_option maxHeartbeats 1000000 in
theorem fct_arg {fuel:Nat} {cs:List Value} {x:DataW H × List MemPlace} (hl:cs.length=23) (h:DataW.trod enc Tryz.prog w base spare held fuel 50 cs=some x):∃ e:FctE,e.ok (fun a=>w.cell? a)/\e.cells.toList=cs:=by
 obtain⟨fs,hu,hty,hof⟩:=oneFF
 obtain⟨m,key⟩:=field_arg hu h
 rw[hty,hof]at key
 match cs,hl with
 |[c0,c1,c2,c3,c4,c5,c6,c7,c8,c9,c10,c11,c12,c13,c14,c15,c16,c17,c18,c19,c20,c21,c22],_=>
  obtain⟨y0,t0⟩:=key 0 3 0 rfl rfl
  rw[cells3]at t0
  obtain⟨y1,t1⟩:=key 1 3 1 rfl rfl
  rw[cells3]at t1
  obtain⟨y2,t2⟩:=key 2 3 2 rfl rfl
  rw[cells3]at t2
  obtain⟨y3,t3⟩:=key 3 3 3 rfl rfl
  rw[cells3]at t3
  obtain⟨y4,t4⟩:=key 4 9 4 rfl rfl
  rw[cells9]at t4
  obtain⟨y5,t5⟩:=key 5 3 5 rfl rfl
  rw[cells3]at t5
  obtain⟨y6,t6⟩:=key 6 3 6 rfl rfl
  rw[cells3]at t6
  obtain⟨y7,t7⟩:=key 7 9 7 rfl rfl
  rw[cells9]at t7
  obtain⟨y8,t8⟩:=key 8 9 8 rfl rfl
  rw[cells9]at t8
  obtain⟨y9,t9⟩:=key 9 30 9 rfl rfl
  rw[cellsSS]at t9
  obtain⟨y10,t10⟩:=key 10 37 10 rfl rfl
  rw[cellsBB]at t10
  obtain⟨y11,t11⟩:=key 11 48 11 rfl rfl
  rw[cells37]at t11
  obtain⟨y12,t12⟩:=key 12 3 15 rfl rfl
  rw[cells3]at t12
  obtain⟨y13,t13⟩:=key 13 3 16 rfl rfl
  rw[cells3]at t13
  obtain⟨y14,t14⟩:=key 14 3 17 rfl rfl
  rw[cells3]at t14
  obtain⟨y15,t15⟩:=key 15 9 18 rfl rfl
  rw[cells9]at t15
  obtain⟨y16,t16⟩:=key 16 9 19 rfl rfl
  rw[cells9]at t16
  obtain⟨y17,t17⟩:=key 17 3 20 rfl rfl
  rw[cells3]at t17
  obtain⟨y18,t18⟩:=key 18 3 21 rfl rfl
  rw[cells3]at t18
  obtain⟨y19,t19⟩:=key 19 3 22 rfl rfl
  rw[cells3]at t19
  obtain⟨n,rfl,k0⟩:=int_arg (v:=c0) t0
  obtain⟨time,rfl,k1⟩:=int_arg (v:=c1) t1
  obtain⟨kind,rfl,k2⟩:=int_arg (v:=c2) t2
  obtain⟨story,rfl,k3⟩:=int_arg (v:=c3) t3
  obtain⟨lang,rfl,k4⟩:=string_arg (v:=c4) t4
  obtain⟨rev,rfl,k5⟩:=int_arg (v:=c5) t5
  obtain⟨base,rfl,k6⟩:=int_arg (v:=c6) t6
  obtain⟨title,rfl,k7⟩:=string_arg (v:=c7) t7
  obtain⟨author,rfl,k8⟩:=string_arg (v:=c8) t8
  obtain⟨topics,kt⟩:=strs_arg (v:=c9) t9
  obtain⟨blocks,kb⟩:=blks_arg (v:=c10) t10
  obtain⟨gs,hu',hty',hof'⟩:=one37
  obtain⟨m',key'⟩:=field_arg hu' t11
  rw[hty',hof']at key'
  obtain⟨z0,s0⟩:=key' 0 3 0 rfl rfl
  obtain⟨z1,s1⟩:=key' 1 46 1 rfl rfl
  obtain⟨z2,s2⟩:=key' 2 3 2 rfl rfl
  obtain⟨z3,s3⟩:=key' 3 3 3 rfl rfl
  rw[cells3]at s0 s2 s3
  rw[cells25]at s1
  obtain⟨ltill,rfl,l0⟩:=int_arg (v:=c11) s0
  obtain⟨after,ka⟩:=ints_arg (v:=c12) s1
  obtain⟨appr,rfl,l2⟩:=int_arg (v:=c13) s2
  obtain⟨den,rfl,l3⟩:=int_arg (v:=c14) s3
  obtain⟨editor,rfl,k12⟩:=int_arg (v:=c15) t12
  obtain⟨block,rfl,k13⟩:=int_arg (v:=c16) t13
  obtain⟨sentence,rfl,k14⟩:=int_arg (v:=c17) t14
  obtain⟨text,rfl,k15⟩:=string_arg (v:=c18) t15
  obtain⟨name,rfl,k16⟩:=string_arg (v:=c19) t16
  obtain⟨partner,rfl,k17⟩:=int_arg (v:=c20) t17
  obtain⟨cls,rfl,k18⟩:=int_arg (v:=c21) t18
  obtain⟨till,rfl,k19⟩:=int_arg (v:=c22) t19
  obtain⟨ta,tc,rfl⟩:=kt.slice
  obtain⟨ba,bc,rfl⟩:=kb.slice
  obtain⟨aa,ac,rfl⟩:=ka.slice
  exact⟨⟨⟨n,time,kind,story,lang,rev,base,title,author,topics,blocks,⟨ltill,after,appr,den⟩,editor,block,sentence,text,name,partner,cls,till⟩,ta,tc,ba,bc,aa,ac⟩,⟨⟨k0,k1,k2,k3,k4,k5,k6,k7,k8,l0,l2,l3,k12,k13,k14,k15,k16,k17,k18,k19,blks_ok kb⟩,kt,kb,ka⟩,rfl⟩
set_option maxRecDepth 100000 in
theorem int_in {b0:Nat} {v:Value} {d:DataW H} {p:List MemPlace} (hv:Value.okWide Tryz.prog W .any b0 3 v) (h:DataW.Trod enc Tryz.prog W 0 (fun _=>true) true 3 v d p):∃ a:Int,v=.int .i64 a/\okI a:=by
 obtain⟨n,rfl⟩:=okWide_int Tryz.underlying3 hv
 obtain⟨fuel,h⟩:=h
 obtain⟨m,e,hm⟩:=int_arg (v:=.int .i64 n) h
 exact⟨m,e,hm⟩
set_option maxRecDepth 100000 in
theorem string_in {b0:Nat} {v:Value} {d:DataW H} {p:List MemPlace} (hv:Value.okWide Tryz.prog W .any b0 9 v) (h:DataW.Trod enc Tryz.prog W 0 (fun _=>true) true 9 v d p):∃ s:ByteArray,v=.string s/\s.size<=maxLen:=by
 obtain⟨n,rfl⟩:=okWide_string Tryz.underlying9 hv
 obtain⟨fuel,h⟩:=h
 exact string_arg (v:=.string n) h
end
section
variable {K:Nat} {H:Type} {enc:TypeId × Value->H} {P:Program} {w W:World} {base:Nat} {spare:Nat->Bool} {held:Bool}
theorem bulk_all:∀ {l:List (DataW H)} {d:DataW H},d∈l->Rows.uptoBulk d<=Rows.uptoBulkAll l
 |[],_,h=>by cases h
 |x::l,d,h=>by
  simp only[Rows.uptoBulkAll]
  rcases List.mem_cons.1 h with rfl | h
  ·omega
  ·have:=bulk_all h;omega
theorem bulk_elems {K:Nat} {elems rest:List (DataW H)} (h:Rows.uptoBulk (.slice elems rest)<=K):∀ d∈elems,Rows.uptoBulk d<=K:=fun d hd=>by
 have:=bulk_all hd
 simp only[Rows.uptoBulk]at h
 omega
theorem bulk_fields {K:Nat} {parts:List (DataW H)} (h:Rows.uptoBulk (.agg parts)<=K) {j:Nat} {d:DataW H} (hd:parts[j]?=some d):Rows.uptoBulk d<=K:=by
 have:=bulk_all (List.mem_of_getElem? hd)
 simp only[Rows.uptoBulk]at h
 omega
theorem open_rowsU {t e:TypeId} {fuel n:Nat} {cs:List Value} {x:DataW H × List MemPlace} (ht:P.underlying t=some (.slice e)) (hC:P.cellsOf e=n) (hpos:0<n) (h:DataW.trod enc P w base spare held fuel t cs=some x) (hz:Rows.uptoBulk x.1<=K):
 cs=[.slice none 0 0] ∨
 ∃ (a:Addr) (len cap:Nat),cs=[.slice (some a) len cap]/\len<=cap/\cap<=maxLen/\(0<len->a=⟨a.block,a.off,none⟩) ∧
  ∀ i,i<len->∃ (cs':List Value) (y:DataW H × List MemPlace) (m:Nat),cs'.length=n/\DataW.trod enc P w base spare held m e cs'=some y/\Rows.uptoBulk y.1<=K/\∀ j (hj:j<cs'.length),w.cell? ⟨a.block,a.off+i * n+j,none⟩=some cs'[j]:=by
 subst hC
 rcases DataW.trod_slice ht h with ⟨h0,_⟩ | ⟨a,len,cap,elems,rest,n,rfl,hcs,hx,_,hl,hm,hlen,hel,_,_⟩
 ·exact .inl h0
 ·rw[hx]at hz
  have hz2:=bulk_elems hz
  refine .inr ⟨a,len,cap,hcs,hl,hm,fun h0=>?_,fun i hi=>?_⟩
  ·have h1:=hel 0 h0
   rw[List.getElem?_eq_getElem (by omega),Option.bind_eq_some_iff,Nat.zero_mul,add_zero]at h1
   obtain⟨cs',hc,ht'⟩:=h1
   obtain⟨_,hcl,hat⟩:=World.cells?_some hc
   have h2:=hat 0 hpos
   rw[List.getElem?_eq_getElem (by rw[hcl];exact hpos),add_zero]at h2
   exact cell_spot h2
  have h1:=hel i hi
  rw[List.getElem?_eq_getElem (by omega)]at h1
  rw[Option.bind_eq_some_iff]at h1
  obtain⟨cs',hc,ht'⟩:=h1
  obtain⟨_,hcl,hat⟩:=World.cells?_some hc
  refine⟨cs',_,n,hcl,ht',hz2 _ (List.mem_map.2 ⟨_,List.getElem_mem (by omega),rfl⟩),fun j hj=>?_⟩
  have h2:=hat j (by omega)
  rw[List.getElem?_eq_getElem hj,Go.Deep.add_add]at h2
  rw[Nat.add_assoc]
  exact cell_add h2
theorem field_argU {t:TypeId} {fs:Array Field} {fuel:Nat} {cs:List Value} {x:DataW H × List MemPlace} (hu:P.underlying t=some (.struct fs)) (h:DataW.trod enc P w base spare held fuel t cs=some x) (hz:Rows.uptoBulk x.1<=K):
 ∃ m,∀ (j:Nat) (t':TypeId) (o:Nat),(fs.map (·.type)).toList[j]?=some t'->(fs.map (·.offset)).toList[j]?=some o->∃ y:DataW H × List MemPlace,DataW.trod enc P w base spare held m t' ((cs.drop o).take (P.cellsOf t'))=some y/\Rows.uptoBulk y.1<=K:=by
 obtain⟨xs,n,_,hx,_,hlen,hg⟩:=DataW.trod_struct hu h
 rw[hx]at hz
 refine⟨n,fun j t' o ht ho=>?_⟩
 rw[Array.getElem?_toList,Array.getElem?_map,Option.map_eq_some_iff]at ht ho
 obtain⟨f,hj,rfl⟩:=ht
 obtain⟨f',hj',rfl⟩:=ho
 obtain rfl:=Option.some.inj (hj.symm.trans hj')
 have hjl:j<xs.length:=by rw[hlen];exact(Array.getElem?_eq_some_iff.1 hj).1
 exact⟨xs[j],(hg j f hj).trans (List.getElem?_eq_getElem hjl),bulk_fields hz (by rw[List.getElem?_map,List.getElem?_eq_getElem hjl];rfl)⟩
theorem string_argU {fuel:Nat} {a:ByteArray} {x:DataW H × List MemPlace} (h:DataW.trod enc Tryz.prog w base spare held fuel 9 [.string a]=some x) (hz:Rows.uptoBulk x.1<=K):a.size<=K:=by
 obtain⟨s,h1,h2,_⟩:=DataW.trod_string Tryz.underlying9 h
 injection h1 with h1 _
 injection h1 with h1
 subst h1
 rw[h2]at hz
 simp only[Rows.uptoBulk]at hz
 have e:a.data.toList.length=a.size:=Array.length_toList
 rw[e]at hz
 omega
set_option maxRecDepth 100000 in
theorem fct_argU {fuel:Nat} {e:FctE} {x:DataW H × List MemPlace} (h:DataW.trod enc Tryz.prog w base spare held fuel 50 e.cells.toList=some x) (hz:Rows.uptoBulk x.1<=K):e.f.title.size<=K:=by
 obtain⟨fs,hu,hty,hof⟩:=oneFF
 obtain⟨m,key⟩:=field_argU hu h hz
 rw[hty,hof]at key
 obtain⟨y7,t7,z7⟩:=key 7 9 7 rfl rfl
 rw[cells9]at t7
 exact string_argU (a:=e.f.title) t7 z7
theorem each_fctU {mem:Addr->Option Value} {b:Nat} {p:FctE->Prop}:∀ (n o:Nat),(∀ i,i<n->∃ y:FctE,(y.ok mem/\y.at mem b (o+i * 23))/\p y)->∃ l:List FctE,l.length=n/\(∀ j (h:j<l.length),l[j].ok mem/\l[j].at mem b (o+j * 23))/\∀ x∈l,p x
 |0,o,_=>⟨[],rfl,(fun j h=>absurd h (by simp)),fun x h=>by cases h⟩
 |n+1,o,h=>by
  obtain⟨x,hx,px⟩:=h 0 (by omega)
  obtain⟨l,h1,h2,h3⟩:=each_fctU n (o+23) (fun i hi=>by rw[show o+23+i * 23=o+(i+1) * 23 by omega];exact h (i+1) (by omega))
  refine⟨x::l,by simp[h1],fun j hj=>?_,fun y hy=>?_⟩
  ·cases j with
   |zero=>exact hx
   |succ j=>rw[show o+(j+1) * 23=o+23+j * 23 by omega];exact h2 j (by simpa using hj)
  ·rcases List.mem_cons.1 hy with rfl | hy
   ·exact px
   ·exact h3 y hy
set_option maxRecDepth 100000 in
theorem facts_inU {b0:Nat} {v:Value} {d:DataW H} {p:List MemPlace} (hv:Value.okWide Tryz.prog W .any b0 22 v) (h:DataW.Trod enc Tryz.prog W 0 (fun _=>true) true 22 v d p) (hz:Rows.uptoBulk d<=K):∃ l:List FctE,EsM (fun a=>W.cell? a) v l/\∀ x∈l,x.f.title.size<=K:=by
 obtain⟨a,len,cap,rfl⟩:=okWide_slice Tryz.underlying22 hv
 obtain⟨fuel,h⟩:=h
 rcases open_rowsU Tryz.underlying22 cellsFF (by omega) h hz with h0 | ⟨a,len,cap,hcs,hl,hm,hsp,hi⟩
 ·injection h0 with h0 _
  rw[h0]
  exact⟨[],⟨0,0,sliceNil,fun j hj=>absurd hj (by simp)⟩,fun x h=>by cases h⟩
 ·injection hcs with hcs _
  rw[hcs]
  obtain⟨l,h1,h2,h3⟩:=each_fctU (mem:=fun a=>W.cell? a) (b:=a.block) (p:=fun x=>x.f.title.size<=K) len a.off (fun i hil=>by
   obtain⟨cs',y,m,hcl,ht,hzy,hc⟩:=hi i hil
   obtain⟨e,he,hec⟩:=fct_arg hcl ht
   subst hec
   refine⟨e,⟨he,fun j u hj=>?_⟩,fct_argU ht hzy⟩
   have hj2:=(Array.getElem?_eq_some_iff.1 hj).1
   have:=hc j (by rw[Array.length_toList];exact hj2)
   rw[Array.getElem?_eq_getElem hj2]at hj
   rw[Array.getElem_toList]at this
   exact this.trans hj)
  subst h1
  exact⟨l,⟨a.block,a.off,⟨Nat.le_trans hl hm,some a,cap,rfl,hl,hm,fun h0=>by rw[<-hsp h0]⟩,h2⟩,h3⟩
end
end Go.Proofs.YtdkkhmjlamkgdaaGreatDoor
namespace Go.Proofs.YtdkkhmjlamkgdaaGreatDoor
open Go.ChangeShapes Go.WideShapes Go.ChangeAt Go.RowKit Go.ChangeMaps Go.Deep
section
variable {H:Type} {enc:TypeId × Value->H} {P:Program}
theorem post_of_below {f:Func} {s:ChangeSpec} {apart fresh handsOn again:Bool} {W W':World} {args:Array Value} {v:Value} {ds gs:List (DataW H)} {before pa pv:List MemPlace}
 (hW:DataW.Whole enc P f.params.toList s.vars apart W args.toList ds gs before)
 (hres:∀ (b:Nat) (sp:Nat->Bool) (hd:Bool),DataW.TrodAll enc P W' b sp hd f.resultTypes.toList (v.resultList f.resultTypes.size) (s.fn H (ds++gs)).results [])
 (hargs:∀ sp:Nat->Bool,(∀ p∈before,sp p.block=true)->DataW.TrodAll enc P W' 0 sp true f.params.toList args.toList (s.fn H (ds++gs)).args pa)
 (hvars:∀ sp:Nat->Bool,(∀ p∈before,sp p.block=true)->DataW.TrodVars enc P W' sp s.vars (s.fn H (ds++gs)).vars pv)
 (hps:before=pa++pv) (hb:Below W.heap.size W W')
 (hok:∀ (j:Nat) (t:TypeId) (r:Value),f.resultTypes[j]?=some t->(v.resultList f.resultTypes.size)[j]?=some r->Value.okWide P W' .any 0 t r):
 s.post enc P f apart fresh handsOn again W args v W':=by
 have hlt:∀ p∈before,p.block<W.heap.size:=fun p hp=>hW.lt p hp
 have hold:∀ p∈before,(fun b=>decide (b<W.heap.size)) p.block=true:=fun p hp=>by simpa using hlt p hp
 refine⟨ds,gs,before,[],pa,pv,hW,hres _ _ _,hargs _ hold,hvars _ hold,World.keptBut_mono (fun p hp=>⟨hp,?_⟩) (hb.frame (·∈before)),fun _=>?_⟩
 ·rw[hps,List.mem_append]at hp
  exact Or.inr hp
 ·obtain⟨_,_,_,_,_,hz,hn⟩:=hW
  refine⟨hok,_,_,([]++pa)++pv,⟨[]++pa,pv,trodAll_append (hargs _ (fun _ _=>rfl)) (hres _ _ _),hvars _ (fun _ _=>rfl),rfl,?_,?_⟩,?_⟩
  ·intro b off hp
   have hin:MemPlace.cell b off∈before:=by rw[hps];simpa using hp
   rw[hb.frozen (hlt _ hin)]
   exact hz b off hin
  ·intro ha
   have:=hn ha
   rw[hps]at this
   simpa using this
  ·intro p hp _
   rw[hps]
   simpa using hp
end
theorem own:ownKnob Tryz.prog.godebug=none:=by kernel_rfl
def laidAll:List (String × DataW Unit):=Rows.stateSortedRow.laid
noncomputable def lit1:DataW Unit->List Value
 |.lit (.int k n)=>[.int k n]
 |.agg ps=>ps.flatMap fun
  |.lit (.int k n)=>[.int k n]
  |_=>[]
 |_=>[]
noncomputable def lit2:DataW Unit->List Value
 |.agg ps=>ps.flatMap lit1
 |_=>[]
noncomputable def layIn (h:Array Obj) (x:String × DataW Unit):Array Obj:=
 match Tryz.prog.globalNamed x.1 with
 |some g=>h.modify g (fun o=>match o with
  |.cells _ t _=>.cells (lit2 x.2).toArray t (0,0)
  |o=>o)
 |none=>h
noncomputable def laidWorld (os:Os):World:=
 { World.holding Tryz.prog os ⟨#[],#[],[]⟩ with heap:=laidAll.foldl layIn (World.holding Tryz.prog os ⟨#[],#[],[]⟩).heap }
theorem laidOut:laidOutB Tryz.prog=true:=by kernel_rfl
theorem trodAll_stays {H:Type} {enc:TypeId × Value->H} {W W':World} (hb:Below W.heap.size W W') (sp:Nat->Bool):∀ {ts:List TypeId} {vs:List Value} {ds:List (DataW H)} {ps:List MemPlace},
 (∀ t∈ts,Tryz.prog.readableRec t=true/\t<Tryz.prog.types.size)->DataW.TrodAll enc Tryz.prog W 0 (fun _=>true) true ts vs ds ps->(∀ p∈ps,p.block<W.heap.size)->(∀ p∈ps,sp p.block=true) →
 DataW.TrodAll enc Tryz.prog W' 0 sp true ts vs ds ps
 |[],[],[],_,_,h,_,_=>h
 |t::ts,v::vs,d::ds,_,hr,h,hlt,hsp=>by
  obtain⟨p,q,h1,h2,rfl⟩:=h
  refine⟨p,q,WideElems.Trod_stays laidOut (hr t (by simp)).1 (hr t (by simp)).2 h1 (fun x hx=>hb.same (hlt x (by simp[hx]))) (fun x hx=>hsp x (by simp[hx])),?_,rfl⟩
  exact trodAll_stays hb sp (fun t ht=>hr t (by simp[ht])) h2 (fun x hx=>hlt x (by simp[hx])) (fun x hx=>hsp x (by simp[hx]))
 |[],_::_,_,_,_,h,_,_=>h.elim
 |[],[],_::_,_,_,h,_,_=>h.elim
 |_::_,[],_,_,_,h,_,_=>h.elim
 |_::_,_::_,[],_,_,h,_,_=>h.elim
set_option maxRecDepth 100000 in
theorem close_law {H:Type} {enc:TypeId × Value->H} {f:Func} {s:ChangeSpec} {W W':World} {args:Array Value} {ds gs:List (DataW H)} {before:List MemPlace}
 (hW:DataW.Whole enc Tryz.prog f.params.toList s.vars false W args.toList ds gs before) (hv:s.vars=[]) (hres:f.resultTypes=#[4])
 (hspec:(s.fn H ds).results=[.lit (.bool true)]/\(s.fn H ds).args=ds/\(s.fn H ds).vars=[]) (hread:∀ t∈f.params.toList,Tryz.prog.readableRec t=true/\t<Tryz.prog.types.size) (hb:Below W.heap.size W W'):
 s.post enc Tryz.prog f false true false false W args (.bool true) W':=by
 have hW2:=hW
 obtain⟨p,q,hA,hV,rfl,_,_⟩:=hW
 rw[hv]at hV
 obtain⟨rfl,rfl⟩:=trodVars_none hV
 obtain⟨s1,s2,s3⟩:=hspec
 have hlt:=hW2.lt
 refine post_of_below (pa:=p) (pv:=[]) hW2 (fun _ _ _=>?_) (fun sp hsp=>?_) (fun _ _=>?_) rfl hb ?_
 ·rw[List.append_nil,s1,hres]
  exact trodAll_cons_mk (shut_bool Tryz.underlying4 _) trodAll_mk0
 ·rw[List.append_nil,s2]
  exact trodAll_stays hb sp hread hA (fun x hx=>hlt x (by simp[hx])) (fun x hx=>hsp x (by simp[hx]))
 ·rw[List.append_nil,s3,hv]
  exact rfl
 ·exact ok_one hres rfl (okWide_bool_mk Tryz.underlying4 _)
def joinedRest (P:Program) (fn:Func) (s:ChangeSpec) (c:OpenClaim):Bool:=
 c.wf (OpenSpec.ofChange s) && laidOutB P && mapsRowed P &&
 fn.params.all (P.readableRec ·) && namedTie P c.named s.vars &&
 (c.stops == []) && (P.stops == []) && (c.knobs == []) && (P.stopKnobs == []) &&
 (c.maps == (fn.params.toList++s.plain.varTypes P).any (P.mapsRec ·)) && (c.ifaces == (fn.params.toList++s.plain.varTypes P).any (P.ifacesRec ·)) && (c.mapsOut == P.mapsAmong fn.resultTypes.toList) &&
 (c.loops == (fn.params.toList++s.plain.varTypes P).any (P.loopsFrom ·)) && (c.wideKeys == (fn.params.toList++s.plain.varTypes P++fn.resultTypes.toList).any (P.wideKeysFrom ·)) &&
 s.vars.all (P.varReadable ·) && fn.resultTypes.all (fun t=>P.readableRec t && decide (t<P.types.size)) && (c.ifacesOut == fn.resultTypes.toList.any (P.ifacesRec ·)) && (c.loopsOut == fn.resultTypes.toList.any (P.loopsFrom ·)) && (c.plainKeys == P.plainKeys) && c.shortTexts.isNone && (c.kinds == (if c.domain.isEmpty then [] else fn.params.toList.map fun t=>match P.underlying t with | some (.int k)=>some k | _=>none)) && (c.pinned == c.pinnedBy) &&
 (c.veiled == (fn.params.toList++s.plain.varTypes P++fn.resultTypes.toList).any (P.veiledRec ·)) && c.veiledFits P fn.params.toList (fn.params.toList++s.plain.varTypes P++fn.resultTypes.toList)
theorem joined_of {P:Program} {f:FuncId} {fn:Func} {s:ChangeSpec} {c:OpenClaim} (p1:(c.inPlace == P.inPlace f)=true) (p2:(c.unfollowed == P.unfollowed f)=true) (p3:(c.recurses == P.recurses f)=true) (p4:(c.named == P.varsNamed f)=true)
 (p5:P.stopsHeard=true) (p6:P.mayEnter=true) (p7:(c.lifted == P.liftsFinal)=true) (p8:(P.make == some c.make)=true) (hr:joinedRest P fn s c=true):joinedFacts P f fn s c=true:=by
 unfold joinedRest at hr
 unfold joinedFacts
 rw[p1,p2,p3,p4,p5,p6,p7,p8]
 simp only[Bool.and_true,Bool.and_assoc]at hr ⊢
 exact hr
theorem pr_heard:Tryz.prog.stopsHeard=true:=by kernel_rfl
theorem pr_enter:Tryz.prog.mayEnter=true:=by kernel_rfl
theorem pr_lifts:(Rows.stateSortedRow.lifted == Tryz.prog.liftsFinal)=true:=by kernel_rfl
theorem pr_make:(Tryz.prog.make == some Rows.stateSortedRow.make)=true:=by kernel_rfl
end Go.Proofs.YtdkkhmjlamkgdaaGreatDoor

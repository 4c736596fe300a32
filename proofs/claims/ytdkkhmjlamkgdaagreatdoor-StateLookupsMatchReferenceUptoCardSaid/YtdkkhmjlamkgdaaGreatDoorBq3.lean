/-
  WHAT IS PROVED HERE: 19 texts joined, each with its own head: what the walks of the program give. Conditions: each at its place.
-/
import Derived.Test.YtdkkhmjlamkgdaaGreatDoorBq2
namespace Go.Proofs.YtdkkhmjlamkgdaaGreatDoor
open Go.RowKit Mg Go.Shelf Go.Maps
theorem exec_sbuild {P:Program} {o:Oper} {a:Act} {W:World} (t:TypeId) (parts:Array (Nat × Operand)) (ho:o.op=.build t parts) (cells:Array Value) (hf:P.built t (parts.map fun (i,x)=>(i,a.eval x)).toList=some cells):(execOp a.eval o).run P W=.ok (.value (.agg cells)) W:=by
 unfold execOp
 simp only[ho,Sem.run_bind,run_build W t _ cells hf,Result.andThen_ok]
 rfl
theorem built_taken (id n:Int):Tryz.prog.built 34 [(0,.int .i64 id),(4,.int .i64 n),(7,.bool true)]=some #[.int .i64 id,.string .empty,.slice none 0 0,.slice none 0 0,.int .i64 n,.slice none 0 0,.bool false,.bool true]:=by kernel_rfl
theorem ERow.weaken {w:World} {A A':Nat} {v:Value} {eds:List EdnF} (h:ERow w A v eds) (hA:A'<=A):ERow w A' v eds:=by
 obtain⟨cs,h1,h2⟩:=h
 exact⟨cs,h1.weaken hA,h2.mono (memFr_mono (Upd.refl (fun _=>False) w) fun k hk hf=>⟨fun q=>hf (q.imp (fun q=>by omega) id),fun q=>q⟩)⟩
structure StyGood (x:StyF):Prop where
 blks:∀ e∈x.eds,GD e.blocks
 tops:x.topics.length<=1000
 corr:∀ c∈x.corr,c.text.size<=1000
 neds:x.eds.length<=50000
 ncor:x.corr.length<=50000
def StoFin (w:World) (B A:Nat) (id:Int) (g:StG) (e:Ending) (w':World):Prop:=
 ∃ x tv ev cv,e=.returned (.agg (styCells x tv ev cv))/\StyIs id g x/\SFin w' B A w.heap.size x tv ev cv/\Below w.heap.size w w'/\StyGood x
section
variable {own:Own} {mem:Addr->Option Value} {B N:Nat} {w:World} {id:Int} {g:StG} {p:Nat}
set_option maxRecDepth 100000 in
set_option maxHeartbeats 4000000 in
theorem stoFinish_taken (h:StIn own mem B w id N g p) (A:Nat) (ht:g.taken=true):
 Calls Tryz.prog 51 #[.pointer (some ⟨p,0,none⟩)] w (StoFin w B A id g):=by
 obtain⟨tv,cv,em,cm,a1,_⟩:=h.at_
 unfold stoCells at a1
 rw[ht]at a1
 obtain⟨W1,hW1⟩:∃ W1,W1=w.alloc (.cells zeroSty.cells 34):=⟨_,rfl⟩
 have hb1:Below w.heap.size w W1:=by rw[hW1];exact bel1 _ _
 have HB1:=Lib.hid hb1
 have HN1:Hid (W1.heap[w.heap.size]?=some (.cells zeroSty.cells 34 (0,0))):=Lib.hid (by rw[hW1];exact World.alloc_heap_new _ _)
 have hp1:=(hb1.block p (hlt a1)).trans a1
 have k7:W1.cell? ⟨p,7,none⟩=some (.bool true):=rowcell hp1
 have HSS:Hid (W1.drew.cell? ⟨p,0,none⟩=some (.int .i64 id)/\W1.drew.cell? ⟨p,4,none⟩=some (.int .i64 (g.pub.getD 0))):=Lib.hid ⟨rowcell hp1,rowcell hp1⟩
 have HOK:Hid (StyOK ⟨id,str0,[],[],g.pub.getD 0,[],false,true⟩):=Lib.hid ⟨h.sid,str0_ok,h.pub⟩
 have HIS:=Lib.hid (sty_taken (id:=id) ht)
 have HW1:=Lib.hid hW1
 generalize g.pub.getD 0=pn at *
 clear a1 hb1 hp1 hW1 h ht
 go_enter Tryz.func51,Tryz.ntmps51
 go_upto_region 1 with fail
 rw[show (w.alloc (.cells #[.int .i64 0,.string ⟨#[]⟩,.slice none 0 0,.slice none 0 0,.int .i64 0,.slice none 0 0,.bool false,.bool false] 34))=W1 from HW1.out.symm]
 go_upto_region 2 with fail
 refine wp_mix [mT,mT,mT,mT,mT,mT,mT,mT,mT,mT,mT,mL] 11 (fun W2=>W2.cell? ⟨p,0,none⟩=some (.int .i64 id)/\W2.cell? ⟨p,4,none⟩=some (.int .i64 pn)) (by kernel_rfl) (by kernel_rfl) HSS.out ?_
 refine wpMix_take (.pointer (some ⟨p,0,none⟩)) (fun _ _ _ _ h=>h) HSS.out (by rfl) (fun W2 hW=>by go_simp) ?_
 simp only[Act.put,List.setIfInBounds_toArray,List.set_cons_zero,List.set_cons_succ]
 refine wpMix_take (.pointer (some ⟨p,0,none⟩)) (fun _ _ _ _ h=>h) HSS.out (by rfl) (fun W2 hW=>by go_simp) ?_
 simp only[Act.put,List.setIfInBounds_toArray,List.set_cons_zero,List.set_cons_succ]
 refine wpMix_take (.pointer (some ⟨p,0,none⟩)) (fun _ _ _ _ h=>h) HSS.out (by rfl) (fun W2 hW=>by go_simp) ?_
 simp only[Act.put,List.setIfInBounds_toArray,List.set_cons_zero,List.set_cons_succ]
 refine wpMix_take (.pointer (some ⟨p,0,none⟩)) (fun _ _ _ _ h=>h) HSS.out (by rfl) (fun W2 hW=>by go_simp) ?_
 simp only[Act.put,List.setIfInBounds_toArray,List.set_cons_zero,List.set_cons_succ]
 refine wpMix_take (.int .i64 id) (fun _ _ _ _ h=>h) HSS.out (by rfl) (fun W2 hW=>by have q0:=hW.1;go_simp) ?_
 simp only[Act.put,List.setIfInBounds_toArray,List.set_cons_zero,List.set_cons_succ]
 refine wpMix_take (.pointer (some ⟨p,0,none⟩)) (fun _ _ _ _ h=>h) HSS.out (by rfl) (fun W2 hW=>by go_simp) ?_
 simp only[Act.put,List.setIfInBounds_toArray,List.set_cons_zero,List.set_cons_succ]
 refine wpMix_take (.pointer (some ⟨p,0,none⟩)) (fun _ _ _ _ h=>h) HSS.out (by rfl) (fun W2 hW=>by go_simp) ?_
 simp only[Act.put,List.setIfInBounds_toArray,List.set_cons_zero,List.set_cons_succ]
 refine wpMix_take (.pointer (some ⟨p,0,none⟩)) (fun _ _ _ _ h=>h) HSS.out (by rfl) (fun W2 hW=>by go_simp) ?_
 simp only[Act.put,List.setIfInBounds_toArray,List.set_cons_zero,List.set_cons_succ]
 refine wpMix_take (.pointer (some ⟨p,4,none⟩)) (fun _ _ _ _ h=>h) HSS.out (by rfl) (fun W2 hW=>by go_simp) ?_
 simp only[Act.put,List.setIfInBounds_toArray,List.set_cons_zero,List.set_cons_succ]
 refine wpMix_take (.int .i64 pn) (fun _ _ _ _ h=>h) HSS.out (by rfl) (fun W2 hW=>by have q0:=hW.2;go_simp) ?_
 simp only[Act.put,List.setIfInBounds_toArray,List.set_cons_zero,List.set_cons_succ]
 refine wpMix_take (.agg #[.int .i64 id,.string .empty,.slice none 0 0,.slice none 0 0,.int .i64 pn,.slice none 0 0,.bool false,.bool true]) (fun _ _ _ _ h=>h) HSS.out (by rfl) (fun W2 hW=>by exact exec_sbuild _ _ rfl _ (by simp[Act.eval];with_reducible exact built_taken _ _)) ?_
 simp only[Act.put,List.setIfInBounds_toArray,List.set_cons_zero,List.set_cons_succ]
 refine wpMix_last (fun K hK=>?_)
 rw[if_pos (by rfl)]
 refine wp_sstore S_sty _ _ rfl (by simp[Act.eval]) (by simp[Act.eval]) (g:=w.heap.size) (cs:=#[.int .i64 id,.string .empty,.slice none 0 0,.slice none 0 0,.int .i64 pn,.slice none 0 0,.bool false,.bool true]) HN1.out rfl rfl (by simp[Value.oneCell']) ?_
 refine hK _ _ ?_
 clear hK K
 refine wpMix_nil ?_
 go_wp2_with fail
 refine bodyPost_ret (results_cell_row (p:=2) (ty:=34) (by kernel_rfl) _ _ w.heap.size _ _ (0,0) _ (by simp[Act.put]) (setRow_heap _ _ _ _ _ _ HN1.out) Tryz.underlying34 rfl (by kernel_rfl)) rfl ?_
 have hb:Below w.heap.size w (W1.drew.setRow w.heap.size #[.int .i64 id,.string .empty,.slice none 0 0,.slice none 0 0,.int .i64 pn,.slice none 0 0,.bool false,.bool true]):=below_setRow HB1.out.drew (Nat.le_refl _) _
 exact⟨_,_,_,_,rfl,HIS.out,⟨HOK.out,by simp,GRow.nil _ _ _ _,ERow.nil _ _,SlM.nil _ _⟩,hb,⟨(by intro e he;cases he),Nat.zero_le _,(by intro e he;cases he),Nat.zero_le _,Nat.zero_le _⟩⟩
theorem StIn.bel {w':World} (h:StIn own mem B w id N g p) (ho:own.Ok B w) (hb:Below w.heap.size w w'):StIn own mem B w' id N g p:=
 h.keep ho (Own.le_refl _) ((Upd.refl (Wr own (fun _=>False)) w).bel hb) (Nat.le_refl N) (fun _ _ hf=>hf)
theorem EdIn.bel {w':World} {e:EdG} (h:EdIn own mem B w id N e p) (ho:own.Ok B w) (hb:Below w.heap.size w w'):EdIn own mem B w' id N e p:=
 h.keep ho (Own.le_refl _) ((Upd.refl (Wr own (fun _=>False)) w).bel hb) (Nat.le_refl N) (fun hf=>hf) (fun hf=>hf)
theorem ERow.kept {w w':World} {A:Nat} {v:Value} {eds:List EdnF} {F:Nat->Prop} (h:ERow w A v eds) (hu:Upd F w w') (hn:∀ k,F k->k<A):ERow w' A v eds:=by
 obtain⟨cs,h1,h2⟩:=h
 exact⟨cs,h1.upd hu (fun k hk hF=>by have:=(h1.ge k hk).1;have:=hn k hF;omega),h2.mono (memFr_mono hu fun k _ hf=>⟨hf,fun hF=>hf (.inl (hn k hF))⟩)⟩
abbrev finCells (id:Int) (g:StG) (tv ev cv:Value):Array Value:=#[.int .i64 id,.string g.author,tv,ev,.int .i64 (g.pub.getD 0),cv,.bool g.retr,.bool g.taken]
theorem sto_sty {tv cv:Value} {em cm:Nat} (h:w.heap[p]?=some (.cells (stoCells id g tv cv em cm) 107 (0,0))):∀ t,t<8->w.cell? ⟨p,0+t,none⟩=(finCells id g tv (.slice none 0 0) cv)[t]?:=fun t ht=>by
 rw[Nat.zero_add,rowcell h]
 match t,ht with
 |0,_=>rfl
 |1,_=>rfl
 |2,_=>rfl
 |3,_=>rfl
 |4,_=>rfl
 |5,_=>rfl
 |6,_=>rfl
 |7,_=>rfl
theorem flat_strs (l:List ByteArray):(l.map fun x=>(#[.string x]:Array Value)).flatMap Array.toList=l.map Value.string:=by
 induction l with
 |nil=>rfl
 |cons a l ih=>rw[List.map_cons,List.flatMap_cons,ih];rfl
theorem reads_topics {ao:Option Addr} {cap:Nat} {l:List ByteArray} (h:StrsM mem (.slice ao l.length cap) l) (hs:Sees mem w):Reads w w.heap.size 1 ao (l.map fun x=>(#[.string x]:Array Value)).length ((l.map fun x=>(#[.string x]:Array Value)).flatMap Array.toList):=by
 rw[flat_strs,List.length_map]
 obtain⟨ao',cap',b,o,e,_,_,h1,_,h2⟩:=h.open_ hs
 injection e with e1 e2 e3
 subst e1
 refine⟨by simp,fun hn=>?_⟩
 refine⟨_,h1 hn,?_,fun j u hu=>?_⟩
 ·exact World.block_lt_of_cell? w _ (h2 0 hn)
 ·obtain⟨hj,rfl⟩:=List.getElem?_eq_some_iff.1 hu
  rw[List.length_map]at hj
  have:=h2 j hj
  rw[List.getElem_map]
  unfold Addr.add
  by_cases h0:j=0
  ·subst h0;first|(simp;done) | simpa using this
  ·simp[h0,this]
structure StoI (w:World) (id:Int) (g:StG) (langs:List ByteArray) (ge:Value->Option Value) (pv tv cv:Value) (k:Nat) (wr:World):Prop where
 bel:Below w.heap.size w wr
 size:w.heap.size+1<wr.heap.size
 res:wr.heap[w.heap.size]?=some (.cells zeroSty.cells 34 (0,0))
 fin:∃ ev,wr.heap[w.heap.size+1]?=some (.cells (finCells id g tv ev cv) 34 (0,0))/\ERow wr (w.heap.size+2) ev (edsFin g (langs.take k))
 ptr:GRow wr (w.heap.size+2) 135 1 pv (langs.map fun i=>((ge (.string i)).getD (.pointer none)).cells)
 top:LRow wr (w.heap.size+2) tv g.topics
 gd:∀ e∈edsFin g (langs.take k),GD e.blocks
set_option maxRecDepth 100000 in
set_option maxHeartbeats 8000000 in
theorem stoFinish_open (h:StIn own mem B w id N g p) (ho:own.Ok B w) (hlow:∀ a u,mem a=some u->a.block<B) (hs:Sees mem w) {A:Nat} (hA:∀ k t,own k=some t->k<A) (_hAw:A<=w.heap.size)
 (hgb:∀ e∈g.eds,∀ f∈e.revs,GB f.blocks) (hct:∀ c∈g.corr,c.text.size<=1000) (htl:g.topics.length<=1000) (hN:N<=50000) (ht:g.taken=false) (h1:∀ e∈g.eds,e.revs.length<=1):
 Calls Tryz.prog 51 #[.pointer (some ⟨p,0,none⟩)] w (StoFin w B A id g):=by
 have H1:=Lib.hid h1
 clear h1
 obtain⟨tv,cv,em,cm,a1,a2,a3,a4,⟨a5,n,ge,a6,a7,a8,a9⟩,⟨a10,m,gc,a11,a12,a13⟩⟩:=h.at_
 obtain⟨ta,tc,rfl⟩:=a2.slice
 obtain⟨ca,cc,rfl⟩:=a3.shape
 have HA2:=Lib.hid a2
 have HA3:=Lib.hid a3
 have HA4:=Lib.hid a4
 have HA7:=Lib.hid a7
 have HA8:=Lib.hid a8
 have HA9:=Lib.hid a9
 have HA12:=Lib.hid a12
 have HA13:=Lib.hid a13
 have HO:=Lib.hid ho
 have HS:=Lib.hid hs
 have HLOW:=Lib.hid hlow
 have HA:=Lib.hid hA
 have HGB:=Lib.hid hgb
 have HCT:=Lib.hid hct
 have HT:=Lib.hid ht
 have HST:=Lib.hid h
 have hpl:=hlt a1
 obtain⟨W1,hW1⟩:∃ W1,W1=w.alloc (.cells zeroSty.cells 34):=⟨_,rfl⟩
 have hb1:Below w.heap.size w W1:=by rw[hW1];exact bel1 _ _
 have HN1:Hid (W1.heap[w.heap.size]?=some (.cells zeroSty.cells 34 (0,0))):=Lib.hid (by rw[hW1];exact World.alloc_heap_new _ _)
 have hp1:=(hb1.block p hpl).trans a1
 have HP1:=Lib.hid hp1
 have k7:W1.cell? ⟨p,7,none⟩=some (.bool false):=by rw[<-ht];exact rowcell hp1
 have HC1:=Lib.hid (sto_sty hp1)
 have hz1:W1.heap.size=w.heap.size+1:=by rw[hW1];simp
 have HA1:=Lib.hid a1
 have HB1:=Lib.hid hb1
 have HW1:=Lib.hid hW1
 clear a1 a2 a3 a4 a7 a8 a9 a12 a13 ho hs hlow hA hgb hct ht hp1 hb1 hW1 h
 go_enter Tryz.func51,Tryz.ntmps51
 go_upto_region 1 with fail
 rw[show (w.alloc (.cells #[.int .i64 0,.string ⟨#[]⟩,.slice none 0 0,.slice none 0 0,.int .i64 0,.slice none 0 0,.bool false,.bool false] 34))=W1 from HW1.out.symm]
 go_upto_region 4 with (first
  |((with_reducible refine at_sload 34 _ rfl ?_);go_must (refine wpList_smid rfl S_sty _ rfl (by simp[Act.eval]) (finCells id g (.slice ta g.topics.length tc) (.slice none 0 0) (.slice ca (g.corr.map corrCells).length cc)) rfl HC1.out ?_))
  |((with_reducible refine at_sstore 34 _ _ rfl ?_);go_must (refine wpList_snew rfl S_sty _ _ rfl rfl _ _ (finCells id g (.slice ta g.topics.length tc) (.slice none 0 0) (.slice ca (g.corr.map corrCells).length cc)) (by simp[Act.eval]) (by simp[Act.eval]) rfl rfl (by simp[Value.oneCell']) ?_)))
 obtain⟨W2,hW2⟩:∃ W2,W2=W1.alloc (.cells (finCells id g (.slice ta g.topics.length tc) (.slice none 0 0) (.slice ca (g.corr.map corrCells).length cc)) 34):=⟨_,rfl⟩
 rw[<-hW2]
 have hb2:Below W1.heap.size W1 W2:=by rw[hW2];exact bel1 _ _
 have HN2:Hid (W2.heap[W1.heap.size]?=some (.cells (finCells id g (.slice ta g.topics.length tc) (.slice none 0 0) (.slice ca (g.corr.map corrCells).length cc)) 34 (0,0))):=Lib.hid (by rw[hW2];exact World.alloc_heap_new _ _)
 have HZ2:Hid (W2.heap.size=w.heap.size+2):=Lib.hid (by rw[hW2,World.size_alloc,hz1])
 have hp2:=(hb2.block p (hlt HP1.out)).trans HP1.out
 have HP2:=Lib.hid hp2
 have k2:W2.cell? ⟨p,2,none⟩=some (.slice ta g.topics.length tc):=rowcell hp2
 have HB2:Hid (Below w.heap.size w W2):=Lib.hid (HB1.out.trans (hb2.mono HB1.out.size))
 have HR2:Hid (W2.heap[w.heap.size]?=some (.cells zeroSty.cells 34 (0,0))):=Lib.hid ((hb2.block _ (hlt HN1.out)).trans HN1.out)
 have HRT:=Lib.hid (reads_topics HA2.out (HS.out.bel HB2.out))
 have hth:(g.topics.map fun x=>(#[.string x]:Array Value)).length=g.topics.length:=List.length_map _
 rw[hz1]at HN2
 try rw[hz1]
 clear hW2 hb2 hp2 k7
 go_upto_region 5 with ((with_reducible refine at_sappend _ _ _ rfl ?_);go_must (refine wpList_app_row rfl E_str _ _ rfl (by simp[Act.eval]) (GRow.nil W2 W2.heap.size _ _) ta tc (g.topics.map fun x=>(#[.string x]:Array Value)) (by intro c hc;obtain⟨x,_,rfl⟩:=List.mem_map.1 hc;exact⟨rfl,by intro u hu;simp at hu;subst hu;rfl⟩) (by simp[Act.eval]) HRT.out (by rw[hth];show 0+_<=100000;omega) (Nat.le_refl _) ?_);intro v3 w3 hr3 hg3 hob3;have hb3:Below W2.heap.size W2 w3:=(Below.refl _ W2).grown hg3 (Nat.le_refl _) (fun k e=>by cases e);have c7:w3.cell? ⟨w.heap.size+1,2,none⟩=some (.slice ta g.topics.length tc):=rowcell ((hb3.block _ (hlt HN2.out)).trans HN2.out);have z7:w3.frozen? ⟨w.heap.size+1,2,none⟩=false:=rowfree ((hb3.block _ (hlt HN2.out)).trans HN2.out);rw[List.nil_append]at hr3;obtain⟨va,vc,rfl⟩:=hr3.shape;rw[hth]at hr3)
 try simp only[hth]
 have HN3:=Lib.hid (blk_set (j:=2) (u:=.slice va g.topics.length vc) ((hb3.block _ (hlt HN2.out)).trans HN2.out))
 have hne1:w.heap.size≠w.heap.size+1:=by omega
 have hne2:p≠w.heap.size+1:=by omega
 have hsc:∀ k,k≠w.heap.size+1->(w3.setCell ⟨w.heap.size+1,2,none⟩ (.slice va g.topics.length vc)).heap[k]?=w3.heap[k]?:=fun k hk=>Below.heap_setCell _ _ _ _ hk
 have HR3:Hid ((w3.setCell ⟨w.heap.size+1,2,none⟩ (.slice va g.topics.length vc)).heap[w.heap.size]?=some (.cells zeroSty.cells 34 (0,0))):=Lib.hid ((hsc _ hne1).trans ((hb3.block _ (hlt HR2.out)).trans HR2.out))
 have HP3:=Lib.hid ((hsc _ hne2).trans ((hb3.block _ (hlt HP2.out)).trans HP2.out))
 have hb33:Below w.heap.size w (w3.setCell ⟨w.heap.size+1,2,none⟩ (.slice va g.topics.length vc)):=(HB2.out.trans (hb3.mono HB2.out.size)).setCell (by show w.heap.size<=w.heap.size+1;omega) _
 have HT3:Hid (LRow (w3.setCell ⟨w.heap.size+1,2,none⟩ (.slice va g.topics.length vc)) (w.heap.size+2) (.slice va g.topics.length vc) g.topics):=Lib.hid (by
  refine GRow.weaken (B:=W2.heap.size) (GRow.same hr3 fun k hk=>hsc k (by have:=(hr3.ge k hk).1;have:=HZ2.out;omega)) (by rw[HZ2.out];exact Nat.le_refl _))
 have HB3:=Lib.hid hb33
 have hz3:w.heap.size+1<(w3.setCell ⟨w.heap.size+1,2,none⟩ (.slice va g.topics.length vc)).heap.size:=hlt HN3.out
 obtain⟨W3,hW3⟩:∃ W3,W3=w3.setCell ⟨w.heap.size+1,2,none⟩ (.slice va g.topics.length vc):=⟨_,rfl⟩
 rw[<-hW3]at HN3 HR3 HP3 HT3 HB3 hz3 ⊢
 clear hsc hb33 hb3 hr3 hg3 hob3 c7 z7 hW3 k2
 have k9:W3.cell? ⟨p,9,none⟩=some (.map (some em)):=rowcell HP3.out
 have cO:=Lib.hid (orderedEd_any em n ge W3 (HA7.out.bel HB3.out) (by omega) (fun y hy u hu=>by
  by_cases hin:y∈g.eds.map EdG.lang
  ·obtain⟨e,he,rfl⟩:=List.mem_map.1 hin
   obtain⟨q,e1,_⟩:=HA8.out e he
   rw[hu]at e1
   exact⟨_,Option.some.inj e1⟩
  ·rw[HA9.out y hy hin]at hu;cases hu))
 go_wp2_with fail
 refine cO.out.mono ?_
 rintro e W4 ⟨pv,langs,rfl,hpr,hpw,hmem,hb4,hln⟩
 have HLA:Hid (∀ y,y∈langs↔y∈g.eds.map EdG.lang):=Lib.hid (fun y=>by
  constructor
  ·intro hy
   obtain⟨h1,h2⟩:=(hmem y).1 hy
   by_cases hin:y∈g.eds.map EdG.lang
   ·exact hin
   ·rw[HA9.out y h1 hin]at h2;cases h2
  ·intro hy
   obtain⟨e,he,rfl⟩:=List.mem_map.1 hy
   obtain⟨q,e1,e2⟩:=HA8.out e he
   exact(hmem _).2 ⟨e2.2.1.s0,by rw[e1];rfl⟩)
 have HPW:=Lib.hid hpw
 obtain⟨pa,pc,hpv⟩:=hpr.shape
 rw[List.length_map]at hpv
 subst hpv
 have hll:langs.length<=50000:=by omega
 have HI0:Hid (StoI w id g langs ge (.slice pa langs.length pc) (.slice va g.topics.length vc) (.slice ca (g.corr.map corrCells).length cc) 0 W4):=Lib.hid ⟨HB3.out.trans (hb4.mono HB3.out.size),Nat.lt_of_lt_of_le hz3 hb4.size,(hb4.block _ (hlt HR3.out)).trans HR3.out,⟨.slice none 0 0,(hb4.block _ (hlt HN3.out)).trans HN3.out,by rw[List.take_zero];exact ERow.nil _ _⟩,hpr.weaken (by omega),HT3.out.bel hb4,by rw[List.take_zero];intro e he;cases he⟩
 clear hmem hpw hpr hb4 cO k9
 go_wp2_with fail
 go_loopw [39] (fun i wr=>∃ k:Nat,k<=langs.length/\i=.int .i64 k/\Hid (StoI w id g langs ge (.slice pa langs.length pc) (.slice va g.topics.length vc) (.slice ca (g.corr.map corrCells).length cc) k wr)) (fun i _=>langs.length - (intOf i).toNat)
 case atStart=>exact⟨0,Nat.zero_le _,rfl,HI0⟩
 case round=>
  obtain⟨k,hk,rfl,HI⟩:=hrel
  by_cases hlt:k<langs.length
  ·have hkl:k<(langs.map fun i=>((ge (.string i)).getD (.pointer none)).cells).length:=by rw[List.length_map];exact hlt
   obtain⟨pg,pcap,hpv,_,_,hp1,hp2,hpc,_⟩:=HI.out.ptr.at_ k hkl
   rw[List.length_map]at hpv hp1
   injection hpv with e1 e2 e3
   subst e1 e3
   clear e2
   have hin:=(HLA.out _).1 (List.getElem_mem hlt)
   obtain⟨he1,he2⟩:=edAt_in hin
   obtain⟨pe,hge,hed⟩:=HA8.out _ he1
   rw[he2]at hge
   have hpk:wr.cell? ⟨pg,k,none⟩=some (.pointer (some ⟨pe,0,none⟩)):=by
    have:=hpc 0 (by omega)
    rw[List.getElem_map,hge]at this
    have h2:wr.cell? ⟨pg,k,none⟩=(Value.pointer (some ⟨pe,0,none⟩)).cells[0]?:=by simpa using this
    exact h2.trans rfl
   have HED:=Lib.hid (hed.bel HO.out HI.out.bel)
   have HXL:=Lib.hid he2
   have HXI:=Lib.hid he1
   have HTK:Hid (edsFin g (langs.take (k+1))=edsFin g (langs.take k)++[edFin g.corr (edAt g.eds langs[k])]):=Lib.hid (by
    unfold edsFin
    rw[List.take_succ_eq_append_getElem hlt,List.map_append];rfl)
   clear hin he1 he2 hge hed hpc hkl
   go_upto_region 8 with fail
   obtain⟨b1,b2,b3,rv,es,b4,b5,b6,b7,b8⟩:=HED.out
   obtain⟨ev,f1,f2⟩:=HI.out.fin
   obtain⟨ecs,f3,f4⟩:=f2
   obtain⟨ea,ec,hev⟩:=f3.shape
   subst hev
   have hxl:(edAt g.eds langs[k]).lang.size<=maxLen:=b2.s0
   have HGX:=Lib.hid (HGB.out _ HXI.out)
   have hpe:=(HO.out _ _ b1).2
   have hcm:=(HO.out _ _ a10).2
   have HEO:Hid (EdnOK (edFin g.corr (edAt g.eds langs[k]))):=Lib.hid ⟨b2.s0,b2.i1,b2.s2,b2.i4⟩
   obtain⟨lc1,lc2⟩:=HA13.out _ hxl
   obtain⟨la,lc,hlv⟩:=lc1.shape
   rw[List.length_map]at hlv
   have HLC:Hid (GRow w B 69 5 (.slice la (corrLang (edAt g.eds langs[k]).lang g.corr).length lc) ((corrLang (edAt g.eds langs[k]).lang g.corr).map corrCells)):=Lib.hid (by rw[<-hlv];exact lc1)
   have HSR:=Lib.hid (HS.out.bel HI.out.bel)
   have HB4:=Lib.hid b4
   have HB5:=Lib.hid b5
   have HB7:=Lib.hid b7
   have HB8:=Lib.hid b8
   have HF1:=Lib.hid f1
   have HF3:=Lib.hid f3
   have HF4:=Lib.hid f4
   have HKM:=Lib.hid ((HA12.out.bel HI.out.bel).drew)
   have HKL:Hid (∀ W',KMap Tryz.prog 9 W' cm m gc->(Instr.lookup 105 (.map (some cm)) (.string (edAt g.eds langs[k]).lang) false).run Tryz.prog W'=.ok (.slice la (corrLang (edAt g.eds langs[k]).lang g.corr).length lc) W'):=Lib.hid (fun W' hk=>by
    have:=hk.look K_str Tryz.underlying105 (zero_corrs _) (key_str hxl)
    rw[hlv]at this
    exact this)
   have HPR:=Lib.hid ((HI.out.bel.block p hpl).trans HA1.out)
   have HESL:Hid (es.length<=50001):=Lib.hid (by rw[<-b7,List.length_map]at b3;omega)
   have hcln:g.corr.length<=N:=HST.out.clen
   have HCL2:Hid ((corrLang (edAt g.eds langs[k]).lang g.corr).length<=50001):=Lib.hid (by have:(corrLang (edAt g.eds langs[k]).lang g.corr).length<=g.corr.length:=List.length_filter_le _ _;omega)
   have HCO:Hid (∀ c∈corrLang (edAt g.eds langs[k]).lang g.corr,CorrOK c):=Lib.hid (fun c hc=>HST.out.cok c (List.mem_filter.1 hc).1)
   have HCT3:Hid (∀ c∈corrLang (edAt g.eds langs[k]).lang g.corr,c.text.size<=1000):=Lib.hid (fun c hc=>HCT.out c (List.mem_filter.1 hc).1)
   have HSS:Hid (wr.drew.cell? ⟨w.heap.size+1,3,none⟩=some (.slice ea ecs.length ec)/\wr.drew.cell? ⟨p,10,none⟩=some (.map (some cm))/\wr.drew.cell? ⟨pe,0,none⟩=some (.string (edAt g.eds langs[k]).lang)/\KMap Tryz.prog 9 wr.drew cm m gc):=Lib.hid ⟨rowcell HF1.out,rowcell HPR.out,rowcell HB4.out,HKM.out⟩
   clear b1 b2 b3 b4 b5 b6 b7 b8 f1 f3 f4 lc1 lc2 hlv hxl hpk
   generalize edAt g.eds langs[k]=x at *
   refine wp_mix [mT,mT,mT,mT,mT,mT,mT,mT,mT,mT,mT,mT,mT,mF,mF,mF,mT,mL] 17 (fun W'=>W'.cell? ⟨w.heap.size+1,3,none⟩=some (.slice ea ecs.length ec)/\W'.cell? ⟨p,10,none⟩=some (.map (some cm))/\W'.cell? ⟨pe,0,none⟩=some (.string x.lang)/\KMap Tryz.prog 9 W' cm m gc) (by kernel_rfl) (by kernel_rfl) HSS.out ?_
   refine wpMix_take (.pointer (some ⟨w.heap.size+1,3,none⟩)) (fun _ _ _ _ h=>h) HSS.out (by rfl) (fun W2 hW=>by go_simp) ?_
   simp only[Act.put,List.setIfInBounds_toArray,List.set_cons_zero,List.set_cons_succ]
   refine wpMix_take (.slice ea ecs.length ec) (fun _ _ _ _ h=>h) HSS.out (by rfl) (fun W2 hW=>by have q0:=hW.1;go_simp) ?_
   simp only[Act.put,List.setIfInBounds_toArray,List.set_cons_zero,List.set_cons_succ]
   refine wpMix_take (.pointer (some ⟨pe,0,none⟩)) (fun _ _ _ _ h=>h) HSS.out (by rfl) (fun W2 hW=>by go_simp) ?_
   simp only[Act.put,List.setIfInBounds_toArray,List.set_cons_zero,List.set_cons_succ]
   refine wpMix_take (.pointer (some ⟨p,0,none⟩)) (fun _ _ _ _ h=>h) HSS.out (by rfl) (fun W2 hW=>by go_simp) ?_
   simp only[Act.put,List.setIfInBounds_toArray,List.set_cons_zero,List.set_cons_succ]
   refine wpMix_take (.pointer (some ⟨p,0,none⟩)) (fun _ _ _ _ h=>h) HSS.out (by rfl) (fun W2 hW=>by go_simp) ?_
   simp only[Act.put,List.setIfInBounds_toArray,List.set_cons_zero,List.set_cons_succ]
   refine wpMix_take (.pointer (some ⟨p,10,none⟩)) (fun _ _ _ _ h=>h) HSS.out (by rfl) (fun W2 hW=>by go_simp) ?_
   simp only[Act.put,List.setIfInBounds_toArray,List.set_cons_zero,List.set_cons_succ]
   refine wpMix_take (.map (some cm)) (fun _ _ _ _ h=>h) HSS.out (by rfl) (fun W2 hW=>by have q0:=hW.2.1;go_simp) ?_
   simp only[Act.put,List.setIfInBounds_toArray,List.set_cons_zero,List.set_cons_succ]
   refine wpMix_take (.pointer (some ⟨pe,0,none⟩)) (fun _ _ _ _ h=>h) HSS.out (by rfl) (fun W2 hW=>by go_simp) ?_
   simp only[Act.put,List.setIfInBounds_toArray,List.set_cons_zero,List.set_cons_succ]
   refine wpMix_take (.pointer (some ⟨pe,0,none⟩)) (fun _ _ _ _ h=>h) HSS.out (by rfl) (fun W2 hW=>by go_simp) ?_
   simp only[Act.put,List.setIfInBounds_toArray,List.set_cons_zero,List.set_cons_succ]
   refine wpMix_take (.pointer (some ⟨pe,0,none⟩)) (fun _ _ _ _ h=>h) HSS.out (by rfl) (fun W2 hW=>by go_simp) ?_
   simp only[Act.put,List.setIfInBounds_toArray,List.set_cons_zero,List.set_cons_succ]
   refine wpMix_take (.pointer (some ⟨pe,0,none⟩)) (fun _ _ _ _ h=>h) HSS.out (by rfl) (fun W2 hW=>by go_simp) ?_
   simp only[Act.put,List.setIfInBounds_toArray,List.set_cons_zero,List.set_cons_succ]
   refine wpMix_take (.string x.lang) (fun _ _ _ _ h=>h) HSS.out (by rfl) (fun W2 hW=>by have q0:=hW.2.2.1;go_simp) ?_
   simp only[Act.put,List.setIfInBounds_toArray,List.set_cons_zero,List.set_cons_succ]
   refine wpMix_take (.slice la (corrLang x.lang g.corr).length lc) (fun _ _ _ _ h=>h) HSS.out (by rfl) (fun W2 hW=>by have q0:=HKL.out _ hW.2.2.2;go_simp) ?_
   simp only[Act.put,List.setIfInBounds_toArray,List.set_cons_zero,List.set_cons_succ]
   refine wpMix_step (fun K hK=>?_)
   go_simp
   refine(edFinish_any (w:=wr.drew) HB4.out HB5.out HB7.out HB8.out HSR.out ((HLC.out.bel HI.out.bel).same (fun _ _=>rfl)) HCO.out HCT3.out HGX.out HESL.out HCL2.out rfl (by have h9:=H1.out _ HXI.out;rw[<-HB7.out,List.length_map]at h9;exact h9)).mono ?_
   rintro e' w5 ⟨bv,rfl,hbr,hb5,hgd⟩
   dsimp only
   obtain⟨ba,bn,bc,rfl⟩:=hbr.sl
   have HB5:Hid (Below wr.heap.size wr w5):=Lib.hid ((Below.refl _ wr).drew.trans hb5)
   have HBR:=Lib.hid hbr
   have HGD:=Lib.hid hgd
   have hsees:∀ {W W':World},Below W.heap.size W W'->(W.cell? ⟨w.heap.size+1,3,none⟩=some (.slice ea ecs.length ec)/\W.cell? ⟨p,10,none⟩=some (.map (some cm))/\W.cell? ⟨pe,0,none⟩=some (.string x.lang)/\KMap Tryz.prog 9 W cm m gc)->(W'.cell? ⟨w.heap.size+1,3,none⟩=some (.slice ea ecs.length ec)/\W'.cell? ⟨p,10,none⟩=some (.map (some cm))/\W'.cell? ⟨pe,0,none⟩=some (.string x.lang)/\KMap Tryz.prog 9 W' cm m gc):=
    fun hb ⟨q0,q1,q2,q3⟩=>⟨sees_bel hb _ _ q0,sees_bel hb _ _ q1,sees_bel hb _ _ q2,q3.bel hb⟩
   have HSS5:=Lib.hid (hsees hb5 HSS.out)
   have HSS6:=Lib.hid (hsees (bel1 w5 (.cells (ednCells (edFin g.corr x) (.slice ba bn bc)) 39)) HSS5.out)
   clear hsees hbr hb5 hgd
   refine hK _ _ HSS5.out ?_
   clear hK K
   refine wpMix_step (fun K hK=>?_)
   rw[if_pos (by rfl)]
   refine wp_one_slice E_edn _ rfl (.agg (ednCells (edFin g.corr x) (.slice ba bn bc))) rfl (by simp[Act.eval]) ?_
   refine hK _ _ HSS6.out ?_
   clear hK K
   simp only[Act.put,List.setIfInBounds_toArray,List.set_cons_zero,List.set_cons_succ]
   refine wpMix_step (fun K hK=>?_)
   rw[if_pos (by rfl)]
   have HB6:Hid (Below wr.heap.size wr (w5.alloc (.cells (ednCells (edFin g.corr x) (.slice ba bn bc)) 39))):=Lib.hid (HB5.out.trans ((bel1 w5 _).mono HB5.out.size))
   have hel:ecs.length<=50000:=by
    have:=HF4.out.1
    unfold edsFin at this
    rw[List.length_map,List.length_take]at this
    omega
   have hsz6:w.heap.size+2<=w5.heap.size+1:=by have:=HI.out.size;have:=HB5.out.size;omega
   refine wp_app_one E_edn _ _ rfl (by simp[Act.eval]) (HF3.out.bel HB6.out) (ednCells (edFin g.corr x) (.slice ba bn bc)) rfl (by intro u hu;simp at hu;rcases hu with rfl | rfl | rfl | rfl | rfl <;> rfl) w5.heap.size 1 (by simp[Act.eval]) (World.alloc_heap_new w5 _) (by omega) (by rw[World.size_alloc];exact hsz6) ?_
   intro v7 w7 hr7 hg7 hob7
   have hge:∀ j,(Value.slice ea ecs.length ec).ownBlock=some j->w.heap.size+2<=j:=fun j hj=>(HF3.out.ge j hj).1
   have hw5:wr.heap.size<=w5.heap.size:=HB5.out.size
   have hwr:=HI.out.size
   have hkeep7:∀ j,j<wr.heap.size->(Value.slice ea ecs.length ec).ownBlock≠some j->w7.heap[j]?=wr.heap[j]?:=fun j hj hne=>(hg7.block j (by rw[World.size_alloc];omega) (fun e=>hne e.symm)).trans (HB6.out.block j hj)
   have hlow7:∀ j,j<w.heap.size+2->w7.heap[j]?=wr.heap[j]?:=fun j hj=>hkeep7 j (by omega) (fun e=>by have:=hge j e;omega)
   have hsz7:wr.heap.size<=w7.heap.size:=by have:=hg7.size;rw[World.size_alloc]at this;omega
   have hf7:=(hlow7 _ (by omega)).trans HF1.out
   have HSS7:Hid (w7.cell? ⟨w.heap.size+1,3,none⟩=some (.slice ea ecs.length ec)/\w7.cell? ⟨p,10,none⟩=some (.map (some cm))/\w7.cell? ⟨pe,0,none⟩=some (.string x.lang)/\KMap Tryz.prog 9 w7 cm m gc):=Lib.hid ⟨rowcell hf7,rowcell ((hlow7 p (by omega)).trans HPR.out),rowcell ((hlow7 pe (by omega)).trans HB4.out),HKM.out.of_block (hlow7 cm (by omega))⟩
   have HER:Hid (ERow w7 (w.heap.size+2) v7 (edsFin g (langs.take (k+1)))):=Lib.hid (by
    rw[HTK.out]
    refine ERow.snoc (HF4.out.mono (memFr_below HB6.out)) hr7 hg7 (hob7.imp (fun q=>q) fun e=>⟨_,e,Nat.le_refl _⟩) HEO.out ((HBR.out.blks fun y hy=>?_).mono ?_)
    ·have:=HGD.out.2 y hy
     exact⟨by unfold maxLen;omega,this.2.1,this.2.2.1⟩
    ·refine memFr_mono ((Upd.refl (fun _=>False) w5).alloc _) fun j _ hj=>⟨fun q=>?_,fun q=>q⟩
     rcases q with q | q
     ·exact hj (by show j<wr.heap.size;omega)
     ·exact hj (HF3.out.ge j q).2)
   have z3:w7.frozen? ⟨w.heap.size+1,3,none⟩=false:=rowfree hf7
   have q3:=HSS7.out.1
   have HF7:=Lib.hid hf7
   have HK7:=Lib.hid hkeep7
   have HL7:=Lib.hid hlow7
   have HB7:Hid (Below w.heap.size w w7):=Lib.hid ((HI.out.bel.trans (HB6.out.mono HI.out.bel.size)).grown hg7 (by rw[World.size_alloc];omega) (fun j hj=>by have:=hge j hj;omega))
   obtain⟨v7a,v7c,rfl⟩:=hr7.shape
   clear hr7 hg7 hob7 hge hf7 hkeep7 hlow7
   generalize hnl:(ecs++[ednCells (edFin g.corr x) (Value.slice ba bn bc)]).length=nl at *
   refine hK _ _ HSS7.out ?_
   clear hK K
   simp only[Act.put,List.setIfInBounds_toArray,List.set_cons_zero,List.set_cons_succ]
   refine wpMix_take (.pointer (some ⟨w.heap.size+1,3,none⟩)) (fun _ _ _ _ h=>h) HSS7.out (by rfl) (fun W2 hW=>by go_simp) ?_
   simp only[Act.put,List.setIfInBounds_toArray,List.set_cons_zero,List.set_cons_succ]
   refine wpMix_last (fun K hK=>?_)
   go_simp
   refine hK _ _ ?_
   clear hK K q3 z3
   refine wpMix_nil ?_
   have HN8:=Lib.hid (blk_set (j:=3) (u:=.slice v7a nl v7c) HF7.out)
   have hsc:∀ j,j≠w.heap.size+1->(w7.setCell ⟨w.heap.size+1,3,none⟩ (.slice v7a nl v7c)).heap[j]?=w7.heap[j]?:=fun j hj=>Below.heap_setCell _ _ _ _ hj
   have HI8:Hid (StoI w id g langs ge (.slice (some ⟨pg,0,none⟩) langs.length pc) (.slice va g.topics.length vc) (.slice ca (g.corr.map corrCells).length cc) (k+1) (w7.setCell ⟨w.heap.size+1,3,none⟩ (.slice v7a nl v7c))):=Lib.hid ⟨HB7.out.setCell (by show w.heap.size<=w.heap.size+1;omega) _,qh HN8.out,(hsc _ (by omega)).trans ((HL7.out _ (by omega)).trans HI.out.res),⟨_,HN8.out,HER.out.kept (upd_cell w7 (w.heap.size+1) 3 _) (fun j e=>by omega)⟩,
    HI.out.ptr.same fun j hj=>by
     have h1:=HI.out.ptr.ge j hj
     refine(hsc _ (by omega)).trans (HK7.out j h1.2 fun e=>?_)
     obtain⟨c1,q1⟩:=HI.out.ptr.blk j hj
     obtain⟨c2,q2⟩:=HF3.out.blk j e
     exact rows_apart q1 q2 (by decide) rfl,
    GRow.same HI.out.top fun j hj=>by
     obtain⟨h1,h2,c1,q1⟩:=lrow_blk HI.out.top j hj
     refine(hsc _ (by omega)).trans (HK7.out j h2 fun e=>?_)
     obtain⟨c2,q2⟩:=HF3.out.blk j e
     exact rows_apart q1 q2 (by decide) rfl,
    by
     rw[HTK.out]
     intro e he
     rcases List.mem_append.1 he with he | he
     ·exact HI.out.gd e he
     ·rw[List.mem_singleton.1 he];exact HGD.out⟩
   clear hsc
   go_wp2_with fail
   go_roundw
   case rel=>exact⟨k+1,by omega,by go_num,HI8⟩
   case measure=>simp[intOf];omega
  ·have e':k=langs.length:=by omega
   subst e'
   obtain⟨ev,f1,f2⟩:=HI.out.fin
   rw[List.take_length]at f2
   obtain⟨ea,ec,rfl⟩:=f2.shape
   have HF1:=Lib.hid f1
   have HF2:=Lib.hid f2
   clear f1 f2
   generalize hel:(edsFin g langs).length=el at *
   go_wp2_with (first
    |((with_reducible refine at_sload 34 _ rfl ?_);go_must (refine wpList_sload rfl S_sty _ rfl (by simp[Act.eval]) (finCells id g (.slice va g.topics.length vc) (.slice ea el ec) (.slice ca (g.corr.map corrCells).length cc)) rfl HF1.out ?_))
    |((with_reducible refine at_sstore 34 _ _ rfl ?_);go_must (refine wpList_sstore (cs:=finCells id g (.slice va g.topics.length vc) (.slice ea el ec) (.slice ca (g.corr.map corrCells).length cc)) rfl S_sty _ _ rfl (by simp[Act.eval,Act.put]) (by simp[Act.eval,Act.put]) HI.out.res rfl rfl (by simp[Value.oneCell']) ?_)))
   refine bodyPost_ret (results_cell_row (p:=2) (ty:=34) (by kernel_rfl) _ _ w.heap.size _ _ (0,0) _ (by simp[Act.put]) (setRow_heap _ _ _ _ _ _ HI.out.res) Tryz.underlying34 rfl (by kernel_rfl)) rfl ?_
   have hu:=upd_row wr w.heap.size (finCells id g (.slice va g.topics.length vc) (.slice ea el ec) (.slice ca (g.corr.map corrCells).length cc))
   refine⟨⟨id,g.author,g.topics,edsFin g langs,g.pub.getD 0,g.corr,g.retr,g.taken⟩,.slice va g.topics.length vc,.slice ea el ec,.slice ca (g.corr.map corrCells).length cc,rfl,sty_is HST.out.apart HT.out HPW.out HLA.out,⟨⟨HST.out.sid,HST.out.aut,HST.out.pub⟩,?_,?_,?_,?_⟩,below_setRow HI.out.bel (Nat.le_refl _) _,⟨?_,htl,HCT.out,?_,?_⟩⟩
   ·obtain⟨_,_,_,q,_⟩:=HA2.out
    exact q
   ·exact GRow.weaken (B:=w.heap.size+2) (GRow.same HI.out.top fun j hj=>hu.block j (lrow_blk HI.out.top j hj).2.1 (fun e=>by have:=(lrow_blk HI.out.top j hj).1;omega)) (by omega)
   ·exact(HF2.out.kept hu (fun j e=>by omega)).weaken (by omega)
   ·have hb:Below w.heap.size w (wr.setRow w.heap.size (finCells id g (.slice va g.topics.length vc) (.slice ea el ec) (.slice ca (g.corr.map corrCells).length cc))):=below_setRow HI.out.bel (Nat.le_refl _) _
    refine grow_corrs (HA3.out.bel hb) HST.out.cok fun j hj q=>?_
    have h1:=(HA3.out.ge j hj).1
    have h2:=HA.out _ _ (HA4.out j hj)
    rcases q with q | q
    ·omega
    ·have:A<=j:=q
     omega
   ·have:=HI.out.gd
    rw[List.take_length]at this
    exact this
   ·show (edsFin g langs).length<=_
    unfold edsFin
    rw[List.length_map];omega
   ·have:=HST.out.clen
    exact Nat.le_trans this hN
theorem stoFinish_any (h:StIn own mem B w id N g p) (ho:own.Ok B w) (hlow:∀ a u,mem a=some u->a.block<B) (hs:Sees mem w) {A:Nat} (hA:∀ k t,own k=some t->k<A) (hAw:A<=w.heap.size)
 (hg:GGood g) (hN:N<=50000) (h1:∀ e∈g.eds,e.revs.length<=1):Calls Tryz.prog 51 #[.pointer (some ⟨p,0,none⟩)] w (StoFin w B A id g):=by
 cases ht:g.taken with
 |true=>exact stoFinish_taken h A ht
 |false=>exact stoFinish_open h ho hlow hs hA hAw hg.revs hg.corr hg.tops hN ht h1
end
theorem reads_of {mem:Addr->Option Value} {w:World} {b o sz:Nat} {ao:Option Addr} {cs:List (Array Value)} (hsz:∀ c∈cs,c.size=sz) (hpos:0<sz) (hao:0<cs.length->ao=some ⟨b,o,none⟩) (hc:∀ j (h:j<cs.length) t,t<sz->mem ⟨b,o+j * sz+t,none⟩=cs[j][t]?) (hs:Sees mem w):
 Reads w w.heap.size sz ao cs.length (cs.flatMap Array.toList):=by
 refine⟨flat_len hsz,fun hn=>⟨_,hao hn,?_,fun j u hu=>?_⟩⟩
 ·have h0:=hc 0 hn 0 hpos
  have hz:=hsz _ (List.getElem_mem hn)
  rw[Array.getElem?_eq_getElem (by omega)]at h0
  show b<w.heap.size
  exact World.block_lt_of_cell? w ⟨b,o+0 * sz+0,none⟩ (hs _ _ h0)
 ·have hjl:=(List.getElem?_eq_some_iff.1 hu).1
  rw[flat_len hsz]at hjl
  have hd:j / sz<cs.length:=(Nat.div_lt_iff_lt_mul hpos).2 hjl
  have hm:j % sz<sz:=Nat.mod_lt _ hpos
  have hj:j / sz * sz+j % sz=j:=by rw[Nat.mul_comm];exact Nat.div_add_mod j sz
  have e1:=flat_cells hsz (j / sz) (j % sz) hd hm
  rw[hj,hu]at e1
  have h2:=hc (j / sz) hd (j % sz) hm
  rw[<-e1]at h2
  have h3:=hs _ _ h2
  unfold Addr.add
  rw[Nat.add_assoc,hj]at h3
  by_cases h0:j=0
  ·subst h0;simpa using h3
  ·simp[h0];simpa using h3
theorem edns_cells {mem:Addr->Option Value} {v:Value} {eds:List EdnF} (h:EdnsM mem v eds):∃ ao cap cs,v=.slice ao eds.length cap/\EVals mem eds cs/\(∀ c∈cs,c.size=5/\OneC c)/\∀ w,Sees mem w->Reads w w.heap.size 5 ao cs.length (cs.flatMap Array.toList):=by
 obtain⟨ao,cap,b,o,rfl,_,_,h1,h2⟩:=SlM.open_ h
 have hlen:(List.ofFn fun j:Fin eds.length=>ednCells eds[j] (Classical.choose (h2 j j.2).2)).length=eds.length:=by simp
 have hval:EVals mem eds (List.ofFn fun j:Fin eds.length=>ednCells eds[j] (Classical.choose (h2 j j.2).2)):=by
  refine⟨hlen,fun j hj hj2=>?_⟩
  refine⟨(h2 j hj).1,Classical.choose (h2 j hj).2,by simp,(Classical.choose_spec (h2 j hj).2).2⟩
 have hsz:∀ c∈(List.ofFn fun j:Fin eds.length=>ednCells eds[j] (Classical.choose (h2 j j.2).2)),c.size=5/\OneC c:=fun c hc=>by
  obtain⟨j,hj,rfl⟩:=List.getElem_of_mem hc
  obtain⟨_,bv,e,hb⟩:=hval.2 j (by rw[hlen]at hj;exact hj) hj
  obtain⟨b1,b2,rfl⟩:=hb.slice
  rw[e]
  exact⟨rfl,by intro u hu;simp at hu;rcases hu with rfl | rfl | rfl | rfl | rfl <;> rfl⟩
 refine⟨ao,cap,_,rfl,hval,hsz,fun w hs=>reads_of (b:=b) (o:=o) (fun c hc=>(hsz c hc).1) (by omega) (fun hn=>h1 (by rw[hlen]at hn;exact hn)) (fun j hj t ht=>?_) hs⟩
 rw[hlen]at hj
 have:=(Classical.choose_spec (h2 j hj).2).1 t ht
 rw[this]
 simp
theorem corrs_cells {mem:Addr->Option Value} {ao:Option Addr} {cap:Nat} {l:List Corr} (h:CorrsM mem (.slice ao l.length cap) l) {w:World} (hs:Sees mem w):Reads w w.heap.size 5 ao (l.map corrCells).length ((l.map corrCells).flatMap Array.toList):=by
 obtain⟨ao',cap',b,o,e,_,_,h1,h2⟩:=SlM.open_ h
 injection e with e1 e2 e3
 subst e1
 refine reads_of (b:=b) (o:=o) (fun c hc=>?_) (by omega) (fun hn=>h1 (by rw[List.length_map]at hn;exact hn)) (fun j hj t ht=>?_) hs
 ·obtain⟨x,_,rfl⟩:=List.mem_map.1 hc;rfl
 ·rw[List.length_map]at hj
  rw[(h2 j hj).2 t ht,List.getElem_map]
theorem corrs_one (l:List Corr):∀ c∈l.map corrCells,c.size=5/\OneC c:=fun c hc=>by
 obtain⟨x,_,rfl⟩:=List.mem_map.1 hc
 exact⟨rfl,by intro u hu;simp at hu;rcases hu with rfl | rfl | rfl | rfl | rfl <;> rfl⟩
theorem strs_one (l:List ByteArray):∀ c∈(l.map fun x=>(#[.string x]:Array Value)),c.size=1/\OneC c:=fun c hc=>by
 obtain⟨x,_,rfl⟩:=List.mem_map.1 hc
 exact⟨rfl,by intro u hu;simp at hu;subst hu;rfl⟩
structure GSty (x:StyF):Prop where
 blks:∀ e∈x.eds,GL e.blocks
 tops:x.topics.length<=50000
 neds:x.eds.length<=50000
 ncor:x.corr.length<=50000
theorem StyGood.gsty {x:StyF} (h:StyGood x):GSty x:=⟨fun e he=>(h.blks e he).gl,by have:=h.tops;omega,h.neds,h.ncor⟩
theorem gsty0:GSty sty0:=⟨(by intro e he;cases he),Nat.zero_le _,Nat.zero_le _,Nat.zero_le _⟩
theorem gsty_of {s:StF} (h:∀ x∈s.stories,GSty x) (id:Int):GSty (styOf s id):=by
 unfold styOf
 cases hf:findS s id with
 |none=>exact gsty0
 |some x=>exact h x (List.mem_of_find?_eq_some hf)
def CopyE (mem:Addr->Option Value) (w:World) (B:Nat) (eds:List EdnF) (k:Nat) (v:Value):Prop:=
 ∃ cs:List (Array Value),GRow w B 39 5 v cs/\cs.length=eds.length/\∀ j (h:j<eds.length) (h2:j<cs.length),EVal (if j<k then memFr w (fun b=>b<B\/v.ownBlock=some b) else mem) eds[j] cs[j]
theorem CopyE.done {mem:Addr->Option Value} {w:World} {B:Nat} {eds:List EdnF} {v:Value} (h:CopyE mem w B eds eds.length v):ERow w B v eds:=by
 obtain⟨cs,h1,h2,h3⟩:=h
 refine⟨cs,h1,h2,fun j hj hj2=>?_⟩
 have:=h3 j hj hj2
 rwa [if_pos hj]at this
def FindPost (s:StF) (id:Int) (w:World) (e:Ending) (w':World):Prop:=
 ∃ tv ev cv,e=.returned (.tuple #[.agg (styCells (styOf s id) tv ev cv),.bool (findS s id).isSome])/\StyOK (styOf s id)/\(∀ t∈(styOf s id).topics,t.size<=maxLen)/\(∀ c∈(styOf s id).corr,CorrOK c)/\LRow w' w.heap.size tv (styOf s id).topics/\ERow w' w.heap.size ev (styOf s id).eds/\GRow w' w.heap.size 69 5 cv ((styOf s id).corr.map corrCells)/\Below w.heap.size w w'
set_option maxRecDepth 100000 in
set_option maxHeartbeats 8000000 in
theorem Find_any {mem:Addr->Option Value} {v:Value} {s:StF} (h:StateM mem v s) (hg:∀ x∈s.stories,GSty x) (id:Int) (w:World) (hs:Sees mem w):
 Calls Tryz.prog 19 #[v,.int .i64 id] w (FindPost s id w):=by
 have HST:=Lib.hid h
 obtain⟨sv,tv,rfl,h1,h2⟩:=h
 obtain⟨sa,sc,rfl⟩:=SlM.slice h1
 obtain⟨ta,tc,rfl⟩:=SlM.slice h2
 have HS:=Lib.hid hs
 have hgx:=gsty_of hg id
 have HG:=Lib.hid hgx
 have hg1:=hgx.tops
 have hg2:=hgx.neds
 have hg3:=hgx.ncor
 clear hgx hg
 obtain⟨W1,hW1⟩:∃ W1,W1=(w.alloc (.cells #[.slice sa s.stories.length sc,.slice ta s.tpls.length tc] 27)).alloc (.cells zStyC 34):=⟨_,rfl⟩
 have hb1:Below w.heap.size w W1:=by rw[hW1];exact(bel1 w _).alloc (by simp) _
 have HN0:Hid (W1.heap[w.heap.size]?=some (.cells #[.slice sa s.stories.length sc,.slice ta s.tpls.length tc] 27 (0,0))):=Lib.hid (by rw[hW1];exact heap_new1 w _ _)
 have HN1:Hid (W1.heap[w.heap.size+1]?=some (.cells zStyC 34 (0,0))):=Lib.hid (by
  rw[hW1]
  have:=World.alloc_heap_new (w.alloc (.cells #[.slice sa s.stories.length sc,.slice ta s.tpls.length tc] 27)) (.cells zStyC 34)
  simpa using this)
 have HB1:=Lib.hid hb1
 have HW1:=Lib.hid hW1
 have cS:=Lib.hid (storyAt_any HST.out id W1 (hs.bel hb1))
 clear h1 h2 hs hb1 hW1
 go_enter Tryz.func19,Tryz.ntmps19
 go_upto_region 1 with fail
 rw[<-HW1.out]
 go_wp2_with ((with_reducible refine at_sload 27 _ rfl ?_);go_must (refine wpList_sload rfl S_state _ rfl (by simp[Act.eval]) #[.slice sa s.stories.length sc,.slice ta s.tpls.length tc] rfl HN0.out ?_))
 refine cS.out.mono ?_
 rintro e W2 ⟨u,rfl,hu,hb2⟩
 generalize hX:styOf s id=X at *
 obtain⟨hok,t0,e0,c0,rfl,hP1,hP2,hP3⟩:=hu
 have HOK:=Lib.hid hok
 have HTZ:Hid (∀ t∈X.topics,t.size<=maxLen):=Lib.hid (by obtain⟨_,_,_,q,_⟩:=hP1;exact q)
 have HCO:Hid (∀ c∈X.corr,CorrOK c):=Lib.hid (SlM.all hP3 fun _ _ _ h=>h.1)
 obtain⟨t1,t2,rfl⟩:=hP1.slice
 obtain⟨c1,c2,rfl⟩:=SlM.slice hP3
 obtain⟨e1,e2,ecs,rfl,hev,hone,herd⟩:=edns_cells hP2
 have HP1:=Lib.hid hP1
 have HP3:=Lib.hid hP3
 have HEV:=Lib.hid hev
 have HONE:=Lib.hid hone
 have HERD:=Lib.hid herd
 have HB2:=Lib.hid hb2
 clear hok hP1 hP2 hP3 hb2 cS hev hone herd
 go_upto_region 2 with ((with_reducible refine at_sstore 34 _ _ rfl ?_);go_must (refine wpList_snew rfl S_sty _ _ rfl rfl _ _ (styCells X (.slice t1 X.topics.length t2) (.slice e1 X.eds.length e2) (.slice c1 X.corr.length c2)) (by simp[Act.eval]) (by simp[Act.eval]) rfl rfl (by simp[Value.oneCell']) ?_))
 obtain⟨W3,hW3⟩:∃ W3,W3=W2.alloc (.cells (styCells X (.slice t1 X.topics.length t2) (.slice e1 X.eds.length e2) (.slice c1 X.corr.length c2)) 34):=⟨_,rfl⟩
 rw[<-hW3]
 have hb3:Below W2.heap.size W2 W3:=by rw[hW3];exact bel1 _ _
 have HN3:Hid (W3.heap[W2.heap.size]?=some (.cells (styCells X (.slice t1 X.topics.length t2) (.slice e1 X.eds.length e2) (.slice c1 X.corr.length c2)) 34 (0,0))):=Lib.hid (by rw[hW3];exact World.alloc_heap_new _ _)
 have HB3:Hid (Below W1.heap.size W1 W3):=Lib.hid (HB2.out.trans (hb3.mono HB2.out.size))
 have HS3:=Lib.hid (HS.out.bel (HB1.out.trans (HB3.out.mono HB1.out.size)))
 have HRT:=Lib.hid (reads_topics HP1.out HS3.out)
 have hth:(X.topics.map fun x=>(#[.string x]:Array Value)).length=X.topics.length:=List.length_map _
 have hz3:W3.heap.size=W2.heap.size+1:=by rw[hW3];simp
 have hw12:W1.heap.size<=W2.heap.size:=HB2.out.size
 have k2:W3.cell? ⟨W2.heap.size,2,none⟩=some (.slice t1 X.topics.length t2):=rowcell HN3.out
 clear hW3 hb3
 generalize hT:W2.heap.size=T at *
 go_upto_region 3 with ((with_reducible refine at_sappend _ _ _ rfl ?_);go_must (refine wpList_app_row rfl E_str _ _ rfl (by simp[Act.eval]) (GRow.nil W3 W3.heap.size _ _) t1 t2 _ (strs_one _) (by simp[Act.eval]) HRT.out (by rw[hth];show 0+_<=100000;omega) (Nat.le_refl _) ?_);intro v4 w4 hr4 hg4 hob4;have hb4:Below W3.heap.size W3 w4:=(Below.refl _ W3).grown hg4 (Nat.le_refl _) (fun k e=>by cases e);have c7:w4.cell? ⟨T,2,none⟩=some (.slice t1 X.topics.length t2):=rowcell ((hb4.block _ (hlt HN3.out)).trans HN3.out);have z7:w4.frozen? ⟨T,2,none⟩=false:=rowfree ((hb4.block _ (hlt HN3.out)).trans HN3.out);rw[List.nil_append]at hr4;obtain⟨va,vc,rfl⟩:=hr4.shape;rw[hth]at hr4)
 try simp only[hth]
 have HN4:=Lib.hid (blk_set (j:=2) (u:=.slice va X.topics.length vc) ((hb4.block _ (hlt HN3.out)).trans HN3.out))
 have hu4:=upd_cell w4 T 2 (.slice va X.topics.length vc)
 have HB4:Hid (Below W1.heap.size W1 (w4.setCell ⟨T,2,none⟩ (.slice va X.topics.length vc))):=Lib.hid ((HB3.out.trans (hb4.mono HB3.out.size)).setCell hw12 _)
 have HTR:Hid (LRow (w4.setCell ⟨T,2,none⟩ (.slice va X.topics.length vc)) (T+1) (.slice va X.topics.length vc) X.topics):=Lib.hid (by
  rw[hz3]at hr4
  exact GRow.upd hr4 hu4 (fun k hk e=>by have:=(hr4.ge k hk).1;omega))
 have hs4:T+1<=(w4.setCell ⟨T,2,none⟩ (.slice va X.topics.length vc)).heap.size:=by have:=hb4.size;have:=hu4.size;omega
 obtain⟨W4,hW4⟩:∃ W4,W4=w4.setCell ⟨T,2,none⟩ (.slice va X.topics.length vc):=⟨_,rfl⟩
 rw[<-hW4]at HN4 HB4 HTR hs4 ⊢
 clear hW4 hu4 hb4 hr4 hg4 hob4 c7 z7 k2
 have HEL:Hid (ecs.length=X.eds.length):=Lib.hid HEV.out.1
 have k3:W4.cell? ⟨T,3,none⟩=some (.slice e1 ecs.length e2):=by rw[HEL.out];exact rowcell HN4.out
 have HRE:=Lib.hid (HERD.out W4 (HS.out.bel (HB1.out.trans (HB4.out.mono HB1.out.size))))
 have hel2:ecs.length<=50000:=by have:=HEL.out;omega
 go_upto_region 4 with ((with_reducible refine at_sappend _ _ _ rfl ?_);go_must (refine wpList_app_row rfl E_edn _ _ rfl (by simp[Act.eval]) (GRow.nil W4 W4.heap.size _ _) e1 e2 ecs HONE.out (by simp[Act.eval]) HRE.out (by show 0+_<=100000;omega) (Nat.le_refl _) ?_);intro v5 w5 hr5 hg5 hob5;have hb5:Below W4.heap.size W4 w5:=(Below.refl _ W4).grown hg5 (Nat.le_refl _) (fun k e=>by cases e);have c7:w5.cell? ⟨T,3,none⟩=some (.slice e1 ecs.length e2):=(by rw[HEL.out];exact rowcell ((hb5.block _ (hlt HN4.out)).trans HN4.out));have z7:w5.frozen? ⟨T,3,none⟩=false:=rowfree ((hb5.block _ (hlt HN4.out)).trans HN4.out);rw[List.nil_append]at hr5;obtain⟨ya,yc,rfl⟩:=hr5.shape)
 have HN5:=Lib.hid (blk_set (j:=3) (u:=.slice ya ecs.length yc) ((hb5.block _ (hlt HN4.out)).trans HN4.out))
 have hu5:=upd_cell w5 T 3 (.slice ya ecs.length yc)
 have HB5:Hid (Below W1.heap.size W1 (w5.setCell ⟨T,3,none⟩ (.slice ya ecs.length yc))):=Lib.hid ((HB4.out.trans (hb5.mono HB4.out.size)).setCell hw12 _)
 have HTR5:Hid (LRow (w5.setCell ⟨T,3,none⟩ (.slice ya ecs.length yc)) (T+1) (.slice va X.topics.length vc) X.topics):=Lib.hid (GRow.upd (GRow.bel HTR.out hb5) hu5 (fun k hk e=>by have:=(lrow_blk HTR.out k hk).1;omega))
 have HCE:Hid (CopyE mem (w5.setCell ⟨T,3,none⟩ (.slice ya ecs.length yc)) (T+1) X.eds 0 (.slice ya ecs.length yc)):=Lib.hid ⟨ecs,(hr5.upd hu5 (fun k hk e=>by have:=(hr5.ge k hk).1;omega)).weaken hs4,HEL.out,fun j hj hj2=>by rw[if_neg (by omega)];exact HEV.out.2 j hj hj2⟩
 obtain⟨W5,hW5⟩:∃ W5,W5=w5.setCell ⟨T,3,none⟩ (.slice ya ecs.length yc):=⟨_,rfl⟩
 rw[<-hW5]at HN5 HB5 HTR5 HCE ⊢
 clear hW5 hu5 hb5 hr5 hg5 hob5 c7 z7 k3
 have k3:W5.cell? ⟨T,3,none⟩=some (.slice ya ecs.length yc):=rowcell HN5.out
 have hel3:ecs.length<=9223372036854775807:=by omega
 go_wp2_with fail
 clear k3
 go_loopw [26] (fun i wr=>∃ k:Nat,k<=ecs.length/\i=.int .i64 k/\Hid (CopyE mem wr (T+1) X.eds k (.slice ya ecs.length yc))/\Hid (wr.heap[T]?=some (.cells (styCells X (.slice va X.topics.length vc) (.slice ya ecs.length yc) (.slice c1 X.corr.length c2)) 34 (0,0)))/\Hid (Below W1.heap.size W1 wr)/\Hid (LRow wr (T+1) (.slice va X.topics.length vc) X.topics)) (fun i _=>ecs.length - (intOf i).toNat)
 case atStart=>exact⟨0,Nat.zero_le _,rfl,HCE,HN5,HB5,HTR5⟩
 case round=>
  obtain⟨k,hk,rfl,HC,HN,HB,HL⟩:=hrel
  by_cases hlt:k<ecs.length
  ·obtain⟨cs,d1,d2,d3⟩:=HC.out
   have hke:k<X.eds.length:=by have:=HEL.out;omega
   have hkc:k<cs.length:=by rw[d2];exact hke
   have hck:=d3 k hke hkc
   rw[if_neg (by omega)]at hck
   obtain⟨hok,bv,hce,hbm⟩:=hck
   obtain⟨g,gcap,hgv,hgB,hgl,hg1',hg2',hgc,hgf⟩:=d1.at_ k hkc
   injection hgv with hgv1 hgv2 hgv3
   subst hgv1 hgv3
   clear hgv2
   have c3:=hgc 3 (by omega)
   rw[hce]at c3
   have z3:=hgf (k * 5+3)
   obtain⟨b1,b2,rfl⟩:=hbm.slice
   have HBM:=Lib.hid hbm
   have HGL:=Lib.hid (HG.out.blks _ (List.getElem_mem hke))
   have HCE2:=Lib.hid hce
   have HOKE:=Lib.hid hok
   have HD:=Lib.hid (And.intro d1 (And.intro d2 d3))
   have HZ3:=Lib.hid z3
   have HSS:Hid (wr.drew.cell? ⟨T,3,none⟩=some (.slice (some ⟨g,0,none⟩) ecs.length yc)/\wr.drew.cell? ⟨g,k * 5+3,none⟩=some (.slice b1 X.eds[k].blocks.length b2)):=Lib.hid ⟨rowcell HN.out,c3⟩
   have cC:=Lib.hid (copyBlocks_any HBM.out HGL.out.1 HGL.out.2 wr.drew (HS.out.bel (HB1.out.trans (HB.out.drew.mono HB1.out.size))))
   clear d1 d2 d3 hok hce hbm hgc hgf c3 z3
   generalize hx:X.eds[k]=x at *
   go_upto_region 7 with fail
   refine wp_mix [mT,mT,mT,mT,mT,mT,mT,mT,mT,mF,mF,mF,mL] 12 (fun W'=>W'.cell? ⟨T,3,none⟩=some (.slice (some ⟨g,0,none⟩) ecs.length yc)/\W'.cell? ⟨g,k * 5+3,none⟩=some (.slice b1 x.blocks.length b2)) (by kernel_rfl) (by kernel_rfl) HSS.out ?_
   refine wpMix_take (.pointer (some ⟨T,3,none⟩)) (fun _ _ _ _ h=>h) HSS.out (by rfl) (fun W2 hW=>by go_simp) ?_
   simp only[Act.put,List.setIfInBounds_toArray,List.set_cons_zero,List.set_cons_succ]
   refine wpMix_take (.slice (some ⟨g,0,none⟩) ecs.length yc) (fun _ _ _ _ h=>h) HSS.out (by rfl) (fun W2 hW=>by have q0:=hW.1;go_simp) ?_
   simp only[Act.put,List.setIfInBounds_toArray,List.set_cons_zero,List.set_cons_succ]
   refine wpMix_take (.int .i64 k) (fun _ _ _ _ h=>h) HSS.out (by rfl) (fun W2 hW=>by go_simp) ?_
   simp only[Act.put,List.setIfInBounds_toArray,List.set_cons_zero,List.set_cons_succ]
   refine wpMix_take (.pointer (some ⟨T,3,none⟩)) (fun _ _ _ _ h=>h) HSS.out (by rfl) (fun W2 hW=>by go_simp) ?_
   simp only[Act.put,List.setIfInBounds_toArray,List.set_cons_zero,List.set_cons_succ]
   refine wpMix_take (.slice (some ⟨g,0,none⟩) ecs.length yc) (fun _ _ _ _ h=>h) HSS.out (by rfl) (fun W2 hW=>by have q0:=hW.1;go_simp) ?_
   simp only[Act.put,List.setIfInBounds_toArray,List.set_cons_zero,List.set_cons_succ]
   refine wpMix_take (.int .i64 k) (fun _ _ _ _ h=>h) HSS.out (by rfl) (fun W2 hW=>by go_simp) ?_
   simp only[Act.put,List.setIfInBounds_toArray,List.set_cons_zero,List.set_cons_succ]
   refine wpMix_take (.pointer (some ⟨g,k * 5,none⟩)) (fun _ _ _ _ h=>h) HSS.out (by rfl) (fun W2 hW=>by go_simp) ?_
   simp only[Act.put,List.setIfInBounds_toArray,List.set_cons_zero,List.set_cons_succ]
   refine wpMix_take (.pointer (some ⟨g,k * 5+3,none⟩)) (fun _ _ _ _ h=>h) HSS.out (by rfl) (fun W2 hW=>by go_simp) ?_
   simp only[Act.put,List.setIfInBounds_toArray,List.set_cons_zero,List.set_cons_succ]
   refine wpMix_take (.slice b1 x.blocks.length b2) (fun _ _ _ _ h=>h) HSS.out (by rfl) (fun W2 hW=>by have q0:=hW.2;go_simp) ?_
   simp only[Act.put,List.setIfInBounds_toArray,List.set_cons_zero,List.set_cons_succ]
   refine wpMix_step (fun K hK=>?_)
   go_simp
   refine cC.out.mono ?_
   rintro e' w6 ⟨u,rfl,hr6,hb6⟩
   dsimp only
   obtain⟨ua,un,uc,rfl⟩:=hr6.sl
   have HSS6:=Lib.hid (And.intro (sees_bel hb6 _ _ HSS.out.1) (sees_bel hb6 _ _ HSS.out.2))
   have HR6:=Lib.hid hr6
   have HB6:Hid (Below wr.heap.size wr w6):=Lib.hid ((Below.refl _ wr).drew.trans hb6)
   have z6:w6.frozen? ⟨g,k * 5+3,none⟩=false:=(HB6.out.frozen (p:=⟨g,k * 5+3,none⟩) hgl).trans HZ3.out
   clear hr6 hb6 cC
   refine hK _ _ HSS6.out ?_
   clear hK K
   refine wpMix_step (fun K hK=>?_);go_simp;refine hK _ _ HSS6.out ?_;clear hK K
   refine wpMix_step (fun K hK=>?_);go_simp;refine hK _ _ HSS6.out ?_;clear hK K
   refine wpMix_last (fun K hK=>?_)
   have q6:=HSS6.out.2
   go_simp
   refine hK _ _ ?_
   clear hK K q6 z6
   refine wpMix_nil ?_
   have hw6:=HB6.out.size
   have hT6:T<w6.heap.size:=by have:=qh HN.out;omega
   have hu8:=upd_cell w6 g (k * 5+3) (.slice ua un uc)
   have HC8:Hid (CopyE mem (w6.setCell ⟨g,k * 5+3,none⟩ (.slice ua un uc)) (T+1) X.eds (k+1) (.slice (some ⟨g,0,none⟩) ecs.length yc)):=Lib.hid (by
    obtain⟨d1,d2,d3⟩:=HD.out
    have hset:=(d1.bel HB6.out).set_ k 3 hkc (by omega) (u:=.slice ua un uc) rfl
    have hu3:Upd (fun b=>b=g) wr (w6.setCell ⟨g,k * 5+3,none⟩ (.slice ua un uc)):=((Upd.refl (fun b=>b=g) wr).bel HB6.out).trans hu8 (fun _ h=>.inl h)
    refine⟨_,hset,by rw[List.length_set];exact d2,fun j hj hj2=>?_⟩
    have hmm:∀ p u,memFr wr (fun b=>b<T+1\/(Value.slice (some ⟨g,0,none⟩) ecs.length yc).ownBlock=some b) p=some u->memFr (w6.setCell ⟨g,k * 5+3,none⟩ (.slice ua un uc)) (fun b=>b<T+1\/(Value.slice (some ⟨g,0,none⟩) ecs.length yc).ownBlock=some b) p=some u:=
     memFr_mono hu3 fun b hb hF=>⟨hF,fun e=>hF (.inr (by rw[e];rfl))⟩
    by_cases e:j=k
    ·subst e
     rw[if_pos (by omega),List.getElem_set_self,hx,HCE2.out]
     refine⟨HOKE.out,.slice ua un uc,rfl,?_⟩
     have hbo:=blks_ok HBM.out
     refine(HR6.out.blks hbo).mono (memFr_mono hu8 fun b hb hf=>⟨fun q=>?_,fun q=>?_⟩)
     ·rcases q with q | q
      ·exact hf (by show b<wr.heap.size;have:=qh HN.out;omega)
      ·injection q with q
       subst q
       exact hf hgl
     ·subst q;exact hf hgl
    ·have h4:=d3 j hj (by rw[List.length_set]at hj2;exact hj2)
     rw[List.getElem_set_ne (Ne.symm e)]
     by_cases hjk:j<k
     ·rw[if_pos hjk]at h4
      rw[if_pos (by omega)]
      exact h4.mono hmm
     ·rw[if_neg hjk]at h4
      rw[if_neg (by omega)]
      exact h4)
   have hgT:T<g:=by omega
   have hlow:∀ j,j<wr.heap.size->j≠g->(w6.setCell ⟨g,k * 5+3,none⟩ (.slice ua un uc)).heap[j]?=wr.heap[j]?:=fun j hj hne=>(Below.heap_setCell _ _ _ _ hne).trans (HB6.out.block j hj)
   have HN8:=Lib.hid ((hlow T (qh HN.out) (by omega)).trans HN.out)
   have HB8:Hid (Below W1.heap.size W1 (w6.setCell ⟨g,k * 5+3,none⟩ (.slice ua un uc))):=Lib.hid ((HB.out.trans (HB6.out.mono HB.out.size)).setCell (by show W1.heap.size<=g;omega) _)
   have HL8:Hid (LRow (w6.setCell ⟨g,k * 5+3,none⟩ (.slice ua un uc)) (T+1) (.slice va X.topics.length vc) X.topics):=Lib.hid (GRow.same HL.out fun j hj=>by
    obtain⟨h1,h2,c1,q1⟩:=lrow_blk HL.out j hj
    refine hlow j h2 fun e=>?_
    subst e
    obtain⟨d1,_⟩:=HD.out
    obtain⟨c2,q2⟩:=d1.blk _ rfl
    exact rows_apart q1 q2 (by decide) rfl)
   clear hu8 hlow
   go_wp2_with fail
   go_roundw
   case rel=>exact⟨k+1,by omega,by go_num,HC8,HN8,HB8,HL8⟩
   case measure=>simp[intOf];omega
  ·have e':k=ecs.length:=by omega
   subst e'
   have HER:Hid (ERow wr (T+1) (.slice ya ecs.length yc) X.eds):=Lib.hid (by
    have:=HC.out
    rw[HEL.out]at this ⊢
    exact this.done)
   have hcl:(X.corr.map corrCells).length=X.corr.length:=List.length_map _
   have HRC:=Lib.hid (corrs_cells HP3.out (HS.out.bel (HB1.out.trans (HB.out.mono HB1.out.size))))
   have k5:wr.cell? ⟨T,5,none⟩=some (.slice c1 (X.corr.map corrCells).length c2):=by rw[hcl];exact rowcell HN.out
   have hTr:T+1<=wr.heap.size:=qh HN.out
   go_upto_region 10 with ((with_reducible refine at_sappend _ _ _ rfl ?_);go_must (refine wpList_app_row rfl E_corr _ _ rfl (by simp[Act.eval]) (GRow.nil wr wr.heap.size _ _) c1 c2 (X.corr.map corrCells) (corrs_one _) (by simp[Act.eval]) HRC.out (by rw[hcl];show 0+_<=100000;omega) (Nat.le_refl _) ?_);intro v9 w9 hr9 hg9 hob9;have hb9:Below wr.heap.size wr w9:=(Below.refl _ wr).grown hg9 (Nat.le_refl _) (fun k e=>by cases e);have c7:w9.cell? ⟨T,5,none⟩=some (.slice c1 X.corr.length c2):=rowcell ((hb9.block _ hTr).trans HN.out);have z7:w9.frozen? ⟨T,5,none⟩=false:=rowfree ((hb9.block _ hTr).trans HN.out);rw[List.nil_append]at hr9;obtain⟨za,zc,hv9⟩:=hr9.shape;rw[hcl]at hv9;subst hv9)
   try simp only[hcl]
   have hu9:=upd_cell w9 T 5 (.slice za X.corr.length zc)
   have hN9:=blk_set (j:=5) (u:=.slice za X.corr.length zc) ((hb9.block _ hTr).trans HN.out)
   have hB9:Below W1.heap.size W1 (w9.setCell ⟨T,5,none⟩ (.slice za X.corr.length zc)):=(HB.out.trans (hb9.mono HB.out.size)).setCell hw12 _
   have hT9:LRow (w9.setCell ⟨T,5,none⟩ (.slice za X.corr.length zc)) (T+1) (.slice va X.topics.length vc) X.topics:=GRow.upd (GRow.bel HL.out hb9) hu9 (fun k hk e=>by have:=(lrow_blk HL.out k hk).1;omega)
   have hE9:ERow (w9.setCell ⟨T,5,none⟩ (.slice za X.corr.length zc)) (T+1) (.slice ya ecs.length yc) X.eds:=(HER.out.bel hb9).kept hu9 (fun k e=>by omega)
   have hC9:GRow (w9.setCell ⟨T,5,none⟩ (.slice za X.corr.length zc)) (T+1) 69 5 (.slice za X.corr.length zc) (X.corr.map corrCells):=(hr9.upd hu9 (fun k hk e=>by have:=(hr9.ge k hk).1;omega)).weaken hTr
   obtain⟨W9,hW9⟩:∃ W9,W9=w9.setCell ⟨T,5,none⟩ (.slice za X.corr.length zc):=⟨_,rfl⟩
   rw[<-hW9]at hN9 hB9 hT9 hE9 hC9 ⊢
   have HN9:=Lib.hid hN9
   have HB9:=Lib.hid hB9
   have HT9:=Lib.hid hT9
   have HE9:=Lib.hid hE9
   have HC9:=Lib.hid hC9
   have hw1:w.heap.size+1<W1.heap.size:=qh HN1.out
   have HZ9:Hid (W9.heap[w.heap.size+1]?=some (.cells zStyC 34 (0,0))):=Lib.hid ((hB9.block _ hw1).trans HN1.out)
   clear hW9 hu9 hN9 hB9 hT9 hE9 hC9 hb9 hr9 hg9 hob9 c7 z7 k5
   go_wp2_with (first
    |((with_reducible refine at_sload 34 _ rfl ?_);go_must (refine wpList_sload rfl S_sty _ rfl (by simp[Act.eval]) (styCells X (.slice va X.topics.length vc) (.slice ya ecs.length yc) (.slice za X.corr.length zc)) rfl HN9.out ?_))
    |((with_reducible refine at_sstore 34 _ _ rfl ?_);go_must (refine wpList_sstore (cs:=styCells X (.slice va X.topics.length vc) (.slice ya ecs.length yc) (.slice za X.corr.length zc)) rfl S_sty _ _ rfl (by simp[Act.eval]) (by simp[Act.eval]) HZ9.out rfl rfl (by simp[Value.oneCell']) ?_)))
   refine bodyPost_ret (results_cell_row2 (p:=4) (u:=5) (ty:=34) (by kernel_rfl) _ _ (w.heap.size+1) _ _ (0,0) _ (by simp) (setRow_heap _ _ _ _ _ _ HZ9.out) Tryz.underlying34 rfl (by kernel_rfl)) rfl ?_
   have hu10:=upd_row W9 (w.heap.size+1) (styCells X (.slice va X.topics.length vc) (.slice ya ecs.length yc) (.slice za X.corr.length zc))
   unfold FindPost
   rw[hX]
   refine⟨.slice va X.topics.length vc,.slice ya ecs.length yc,.slice za X.corr.length zc,rfl,HOK.out,HTZ.out,HCO.out,?_,?_,?_,below_setRow (HB1.out.trans (HB9.out.mono HB1.out.size)) (by omega) _⟩
   ·exact GRow.weaken (B:=T+1) (GRow.upd HT9.out hu10 (fun k hk e=>by have:=(lrow_blk HT9.out k hk).1;omega)) (by omega)
   ·exact(HE9.out.kept hu10 (fun k e=>by omega)).weaken (by omega)
   ·exact(HC9.out.upd hu10 (fun k hk e=>by have:=(HC9.out.ge k hk).1;omega)).weaken (by omega)
set_option maxHeartbeats 1000000 in
theorem eqStrs_any {mem:Addr->Option Value} {v u:Value} {l m:List ByteArray} (h1:StrsM mem v l) (h2:StrsM mem u m) (w:World) (hs:Sees mem w):
 Calls Tryz.prog 87 #[v,u] w fun e w'=>e=.returned (.bool (decide (l=m)))/\Below w.heap.size w w':=by
 obtain⟨ao,cap,b,o,rfl,hcap,hm,hao,_,hcells⟩:=h1.open_ hs
 obtain⟨ao2,cap2,b2,o2,rfl,hcap2,hm2,hao2,_,hcells2⟩:=h2.open_ hs
 have HA:=Lib.hid hao
 have HA2:=Lib.hid hao2
 have HC:=Lib.hid hcells
 have HC2:=Lib.hid hcells2
 have hlen:(l.length:Int)<=9223372036854775807:=by unfold maxLen at hm;omega
 have hlen2:(m.length:Int)<=9223372036854775807:=by unfold maxLen at hm2;omega
 clear hao hao2 hcells hcells2 hs h1 h2 hcap hcap2 hm hm2
 by_cases hl:l.length=m.length
 ·have HL:=Lib.hid hl
  rw[<-hl]
  clear hl
  go_enter Tryz.func87,Tryz.ntmps87
  go_wp2_with fail
  go_loopw [13] (fun i wr=>∃ k:Nat,k<=l.length/\i=.int .i64 k/\Below w.heap.size w wr/\Hid (l.take k=m.take k)) (fun i _=>l.length - (intOf i).toNat)
  case atStart=>exact⟨0,Nat.zero_le _,rfl,Below.refl _ _,Lib.hid rfl⟩
  case round=>
   obtain⟨k,hk,rfl,hb,ht⟩:=hrel
   by_cases hlt:k<l.length
   ·have hlt2:k<m.length:=by rw[<-HL.out];exact hlt
    have c1:=HC.out k hlt
    have c2:=HC2.out k hlt2
    obtain rfl:=HA.out (by omega)
    obtain rfl:=HA2.out (by omega)
    replace c1:=(hb.cell (p:=⟨b,o+k,none⟩) (World.block_lt_of_cell? w _ c1)).trans c1
    replace c2:=(hb.cell (p:=⟨b2,o2+k,none⟩) (World.block_lt_of_cell? w _ c2)).trans c2
    have HE:Hid (l[k]=m[k]->l.take (k+1)=m.take (k+1)):=Lib.hid (take_step hlt hlt2 ht.out)
    have HN:Hid (l[k]≠m[k]->l≠m):=Lib.hid (ne_of_get hlt hlt2)
    generalize l[k]=x at *
    generalize m[k]=y at *
    have hk0:(0:Int)<=k:=by omega
    have hk1:(k:Int)<l.length:=by omega
    clear ht hlt2
    by_cases hxy:x=y
    ·subst hxy
     have HE2:=Lib.hid (HE.out rfl)
     clear HE
     go_wp2_with fail
     go_quiet (fail)
     go_wp2_with fail
     go_roundw
     case rel=>exact⟨k+1,by omega,by go_num,below_drewN hb _,HE2⟩
     case measure=>simp[intOf];omega
    ·have hne:(x.toList != y.toList)=true:=by
      rw[bne_iff_ne]
      intro e
      exact hxy (str_ext (by simpa [ByteArray.toList_eq] using e))
     have hne2:(x.toList == y.toList)=false:=by
      rw[beq_eq_false_iff_ne]
      intro e
      exact hxy (str_ext (by simpa [ByteArray.toList_eq] using e))
     have HNE:=Lib.hid hxy
     clear hxy
     go_wp2_with fail
     go_quiet (fail)
     go_wp2_with fail
     go_ret
     exact⟨ret_bool (by symm;exact decide_eq_false (HN.out HNE.out)),below_drewN hb _⟩
   ·have e:k=l.length:=by omega
    subst e
    have HF:Hid (l=m):=Lib.hid (eq_full HL.out ht.out)
    go_wp2_with fail
    go_ret
    exact⟨ret_bool (by symm;exact decide_eq_true HF.out),hb⟩
 ·have hne:decide (l.length=m.length)=false:=decide_eq_false hl
  have HNE:Hid (l≠m):=Lib.hid (fun e=>hl (by rw[e]))
  go_enter Tryz.func87,Tryz.ntmps87
  go_wp2_with fail
  all_goals first
   |(go_ret
     exact⟨ret_bool (by symm;exact decide_eq_false HNE.out),Below.refl _ _⟩)
   |(exfalso;simp_all;done)
theorem cells_in {w w':World} {b o sz:Nat} {cs:Array Value} (h:∀ t,t<sz->w.cell? ⟨b,o+t,none⟩=cs[t]?) (hb:Below w.heap.size w w') (hz:cs.size=sz:=by rfl):∀ t,t<sz->w'.cell? ⟨b,o+t,none⟩=cs[t]?:=fun t ht=>by
 have h1:=h t ht
 rw[Array.getElem?_eq_getElem (by omega)]at h1 ⊢
 exact sees_bel hb _ _ h1
theorem edn_dec (lang:ByteArray) (rev:Int) (title:ByteArray) (blocks:List Blk) (changed:Int) (lang2:ByteArray) (rev2:Int) (title2:ByteArray) (blocks2:List Blk) (changed2:Int):decide ((⟨lang,rev,title,blocks,changed⟩:EdnF)=⟨lang2,rev2,title2,blocks2,changed2⟩) =
 (decide (lang=lang2) && (decide (rev=rev2) && (decide (title=title2) && (decide (blocks=blocks2) && decide (changed=changed2))))):=by
 simp only[EdnF.mk.injEq,Bool.decide_and]
theorem sty_dec (id:Int) (author:ByteArray) (topics:List ByteArray) (eds:List EdnF) (pub:Int) (corr:List Corr) (retr taken:Bool) (id2:Int) (author2:ByteArray) (topics2:List ByteArray) (eds2:List EdnF) (pub2:Int) (corr2:List Corr) (retr2 taken2:Bool):decide ((⟨id,author,topics,eds,pub,corr,retr,taken⟩:StyF)=⟨id2,author2,topics2,eds2,pub2,corr2,retr2,taken2⟩) =
 (decide (id=id2) && (decide (author=author2) && (decide (topics=topics2) && (decide (eds=eds2) && (decide (pub=pub2) && (decide (corr=corr2) && (decide (retr=retr2) && decide (taken=taken2)))))))):=by
 simp only[StyF.mk.injEq,Bool.decide_and]
theorem str_ne {a b:ByteArray} (h:a≠b):(a.toList == b.toList)=false:=by
 simp only[beq_eq_false_iff_ne,ne_eq,ByteArray.toList_eq]
 intro e
 exact h (str_ext e)
set_option maxRecDepth 10000 in
set_option maxHeartbeats 4000000 in
theorem sameEdition_any {mem:Addr->Option Value} {v u:Value} {x y:EdnF} (h1:EdnV mem v x) (h2:EdnV mem u y) (w:World) (hs:Sees mem w):
 Calls Tryz.prog 89 #[v,u] w fun e w'=>e=.returned (.bool (decide (x=y)))/\Below w.heap.size w w':=by
 obtain⟨_,bv,rfl,hb1⟩:=h1
 obtain⟨_,bv2,rfl,hb2⟩:=h2
 obtain⟨lang,rev,title,blocks,changed⟩:=x
 obtain⟨lang2,rev2,title2,blocks2,changed2⟩:=y
 have HL:=Lib.hid (fun W hW=>sameList_any hb1 hb2 W hW)
 obtain⟨ao,cap,rfl⟩:=hb1.slice
 obtain⟨ao2,cap2,rfl⟩:=hb2.slice
 have HR:=Lib.hid (edn_dec lang rev title blocks changed lang2 rev2 title2 blocks2 changed2)
 have HS:=Lib.hid hs
 dsimp only at HL ⊢
 clear hb1 hb2 hs
 generalize hn1:blocks.length=n1 at *
 generalize hn2:blocks2.length=n2 at *
 clear hn1 hn2
 obtain⟨W2,hW2⟩:∃ W2,W2=(w.alloc (.cells #[.string lang,.int .i64 rev,.string title,.slice ao n1 cap,.int .i64 changed] 39)).alloc (.cells #[.string lang2,.int .i64 rev2,.string title2,.slice ao2 n2 cap2,.int .i64 changed2] 39):=⟨_,rfl⟩
 have hB2:Below w.heap.size w W2:=by rw[hW2];exact(bel1 w _).alloc (by simp) _
 have HN1:Hid (W2.heap[w.heap.size]?=some (.cells #[.string lang,.int .i64 rev,.string title,.slice ao n1 cap,.int .i64 changed] 39 (0,0))):=Lib.hid (by rw[hW2];exact heap_new1 w _ _)
 have HN2:Hid (W2.heap[w.heap.size+1]?=some (.cells #[.string lang2,.int .i64 rev2,.string title2,.slice ao2 n2 cap2,.int .i64 changed2] 39 (0,0))):=Lib.hid (by
  rw[hW2]
  have:=World.alloc_heap_new (w.alloc (.cells #[.string lang,.int .i64 rev,.string title,.slice ao n1 cap,.int .i64 changed] 39)) (.cells #[.string lang2,.int .i64 rev2,.string title2,.slice ao2 n2 cap2,.int .i64 changed2] 39)
  simpa using this)
 have HB2:=Lib.hid hB2
 have HW2:=Lib.hid hW2
 have HS2:=Lib.hid (HS.out.bel hB2)
 clear hB2 hW2
 go_enter Tryz.func89,Tryz.ntmps89
 go_upto_region 1 with fail
 rw[<-HW2.out]
 have HB:=HB2
 have HSW:=HS2
 have HH1:=HN1
 have HH2:=HN2
 clear HB2 HS2 HN1 HN2 HW2
 have p0:W2.cell? ⟨w.heap.size,0,none⟩=some (.string lang):=rowcell HH1.out
 have q0:W2.cell? ⟨w.heap.size+1,0,none⟩=some (.string lang2):=rowcell HH2.out
 have p1:W2.cell? ⟨w.heap.size,1,none⟩=some (.int .i64 rev):=rowcell HH1.out
 have q1:W2.cell? ⟨w.heap.size+1,1,none⟩=some (.int .i64 rev2):=rowcell HH2.out
 have p2:W2.cell? ⟨w.heap.size,2,none⟩=some (.string title):=rowcell HH1.out
 have q2:W2.cell? ⟨w.heap.size+1,2,none⟩=some (.string title2):=rowcell HH2.out
 have p3:W2.cell? ⟨w.heap.size,3,none⟩=some (.slice ao n1 cap):=rowcell HH1.out
 have q3:W2.cell? ⟨w.heap.size+1,3,none⟩=some (.slice ao2 n2 cap2):=rowcell HH2.out
 have p4:W2.cell? ⟨w.heap.size,4,none⟩=some (.int .i64 changed):=rowcell HH1.out
 have q4:W2.cell? ⟨w.heap.size+1,4,none⟩=some (.int .i64 changed2):=rowcell HH2.out
 by_cases e0:lang=lang2
 ·subst e0
  by_cases e1:rev=rev2
  ·subst e1
   by_cases e2:title=title2
   ·subst e2
    go_wp2_with fail
    refine(HL.out _ HSW.out).mono ?_
    rintro e w13 ⟨rfl,hb⟩
    have HB:=Lib.hid (HB.out.trans (hb.mono HB.out.size))
    have HSW:=Lib.hid (HSW.out.bel hb)
    have HH1:=Lib.hid ((hb.block _ (hlt HH1.out)).trans HH1.out)
    have HH2:=Lib.hid ((hb.block _ (hlt HH2.out)).trans HH2.out)
    clear hb p0 q0 p1 q1 p2 q2 p3 q3 p4 q4
    have p0:w13.cell? ⟨w.heap.size,0,none⟩=some (.string lang):=rowcell HH1.out
    have q0:w13.cell? ⟨w.heap.size+1,0,none⟩=some (.string lang):=rowcell HH2.out
    have p1:w13.cell? ⟨w.heap.size,1,none⟩=some (.int .i64 rev):=rowcell HH1.out
    have q1:w13.cell? ⟨w.heap.size+1,1,none⟩=some (.int .i64 rev):=rowcell HH2.out
    have p2:w13.cell? ⟨w.heap.size,2,none⟩=some (.string title):=rowcell HH1.out
    have q2:w13.cell? ⟨w.heap.size+1,2,none⟩=some (.string title):=rowcell HH2.out
    have p3:w13.cell? ⟨w.heap.size,3,none⟩=some (.slice ao n1 cap):=rowcell HH1.out
    have q3:w13.cell? ⟨w.heap.size+1,3,none⟩=some (.slice ao2 n2 cap2):=rowcell HH2.out
    have p4:w13.cell? ⟨w.heap.size,4,none⟩=some (.int .i64 changed):=rowcell HH1.out
    have q4:w13.cell? ⟨w.heap.size+1,4,none⟩=some (.int .i64 changed2):=rowcell HH2.out
    have EN:Hid (decide (blocks=blocks2)=false->decide (blocks=blocks2)=false):=Lib.hid (fun h=>h)
    have EY:Hid (decide (blocks=blocks2)=true->blocks=blocks2):=Lib.hid of_decide_eq_true
    generalize hq:decide (blocks=blocks2)=q at *
    cases q with
    |false=>
     clear hq EY EN
     have EN:=Lib.hid (Eq.refl false)
     go_wp2_with fail
     go_ret
     exact⟨ret_false (by first|(rw[HR.out];simp;done) | (simp[EN.out];done)),HB.out⟩
    |true=>
     clear hq EY EN
     by_cases e4:changed=changed2
     ·subst e4
      go_wp2_with fail
      go_ret
      exact⟨ret_true (by first|(rw[HR.out];simp;done) | (simp;done)),HB.out⟩
     ·have ne:(changed == changed2)=false:=by simpa using e4
      have EN:=Lib.hid (decide_eq_false e4)
      clear e4
      go_wp2_with fail
      go_ret
      exact⟨ret_false (by first|(rw[HR.out];simp[EN.out];done) | (simp[EN.out];done)),HB.out⟩
   ·have ne:(title.toList == title2.toList)=false:=str_ne e2
    have EN:=Lib.hid (decide_eq_false e2)
    clear e2
    go_wp2_with fail
    go_ret
    exact⟨ret_false (by first|(rw[HR.out];simp[EN.out];done) | (simp[EN.out];done)),HB.out⟩
  ·have ne:(rev == rev2)=false:=by simpa using e1
   have EN:=Lib.hid (decide_eq_false e1)
   clear e1
   go_wp2_with fail
   go_ret
   exact⟨ret_false (by first|(rw[HR.out];simp[EN.out];done) | (simp[EN.out];done)),HB.out⟩
 ·have ne:(lang.toList == lang2.toList)=false:=str_ne e0
  have EN:=Lib.hid (decide_eq_false e0)
  clear e0
  go_wp2_with fail
  go_ret
  exact⟨ret_false (by first|(rw[HR.out];simp[EN.out];done) | (simp[EN.out];done)),HB.out⟩
set_option maxRecDepth 10000 in
set_option maxHeartbeats 4000000 in
theorem eqEdns_any {mem:Addr->Option Value} {v u:Value} {l m:List EdnF} (h1:EdnsM mem v l) (h2:EdnsM mem u m) (w:World) (hs:Sees mem w):
 Calls Tryz.prog 88 #[v,u,.func (.func 89) #[] #[]] w fun e w'=>e=.returned (.bool (decide (l=m)))/\Below w.heap.size w w':=by
 obtain⟨ao,cap,b,o,rfl,hcap,hm,hao,hblks⟩:=SlM.open_ h1
 obtain⟨ao2,cap2,b2,o2,rfl,hcap2,hm2,hao2,hblks2⟩:=SlM.open_ h2
 have HA:=Lib.hid hao
 have HA2:=Lib.hid hao2
 have HB:=Lib.hid hblks
 have HB2:=Lib.hid hblks2
 have HS:=Lib.hid hs
 have hlen:(l.length:Int)<=9223372036854775807:=by unfold maxLen at hm;omega
 have hlen2:(m.length:Int)<=9223372036854775807:=by unfold maxLen at hm2;omega
 clear h1 h2 hao hao2 hblks hblks2 hs hcap hcap2 hm hm2
 by_cases hl:l.length=m.length
 ·have HL:=Lib.hid hl
  rw[<-hl]
  clear hl
  go_enter Tryz.func88,Tryz.ntmps88
  go_wp2_with fail
  go_loopw [17] (fun i wr=>∃ k:Nat,k<=l.length/\i=.int .i64 k/\Below w.heap.size w wr/\Hid (l.take k=m.take k)) (fun i _=>l.length - (intOf i).toNat)
  case atStart=>exact⟨0,Nat.zero_le _,rfl,Below.refl _ _,Lib.hid rfl⟩
  case round=>
   obtain⟨k,hk,rfl,hb,ht⟩:=hrel
   by_cases hlt:k<l.length
   ·have hlt2:k<m.length:=by rw[<-HL.out];exact hlt
    obtain rfl:=HA.out (by omega)
    obtain rfl:=HA2.out (by omega)
    obtain⟨hok,bv,hcells,hP⟩:=HB.out k hlt
    obtain⟨hok2,bv2,hcells2,hP2⟩:=HB2.out k hlt2
    have HV1:Hid (EdnV mem (.agg (ednCells l[k] bv)) l[k]):=Lib.hid ⟨hok,_,rfl,hP⟩
    have HV2:Hid (EdnV mem (.agg (ednCells m[k] bv2)) m[k]):=Lib.hid ⟨hok2,_,rfl,hP2⟩
    have HD1:=Lib.hid (cells_see (sz:=5) (HS.out.bel hb) hcells rfl)
    have HD2:=Lib.hid (cells_see (sz:=5) (HS.out.bel hb) hcells2 rfl)
    obtain⟨a1,q1,rfl⟩:=hP.slice
    obtain⟨a2,q2,rfl⟩:=hP2.slice
    generalize l[k].blocks.length=n1 at *
    generalize m[k].blocks.length=n2 at *
    clear hok hok2 hcells hcells2 hP hP2
    have HE:Hid (l[k]=m[k]->l.take (k+1)=m.take (k+1)):=Lib.hid (take_step hlt hlt2 ht.out)
    have HN:Hid (l[k]≠m[k]->decide (l=m)=false):=Lib.hid (fun e=>decide_eq_false (ne_of_get hlt hlt2 e))
    have hk0:(0:Int)<=k:=by omega
    have hk1:(k:Int)<l.length:=by omega
    generalize l[k]=x at *
    generalize m[k]=y at *
    have HC:Hid (∀ W,Sees mem W->Calls Tryz.prog 89 #[.agg (ednCells x (.slice a1 n1 q1)),.agg (ednCells y (.slice a2 n2 q2))] W fun e w'=>e=.returned (.bool (decide (x=y)))/\Below W.heap.size W w'):=
     Lib.hid (fun W hW=>sameEdition_any HV1.out HV2.out W hW)
    have HC9:Hid (decide (x=y)=true->x=y):=Lib.hid of_decide_eq_true
    have HC8:Hid (decide (x=y)=false->x≠y):=Lib.hid of_decide_eq_false
    generalize hq:decide (x=y)=q at *
    have HB0:=Lib.hid hb
    clear hq ht hb
    go_upto_region 6 with (first
     |((with_reducible refine at_sload 39 _ rfl ?_);go_must (refine wpList_smid rfl S_edn _ rfl (by simp[Act.eval]) (ednCells x (.slice a1 n1 q1)) rfl HD1.out ?_))
     |((with_reducible refine at_sstore 39 _ _ rfl ?_);go_must (refine wpList_snew rfl S_edn _ _ rfl rfl _ _ (ednCells x (.slice a1 n1 q1)) (by simp[Act.eval]) (by simp[Act.eval]) rfl rfl (by simp[Value.oneCell']) ?_)))
    obtain⟨W4,hW4⟩:∃ W4,W4=wr.alloc (.cells (ednCells x (.slice a1 n1 q1)) 39):=⟨_,rfl⟩
    rw[<-hW4]
    have hb4:Below wr.heap.size wr W4:=by rw[hW4];exact bel1 _ _
    have HN4:Hid (W4.heap[wr.heap.size]?=some (.cells (ednCells x (.slice a1 n1 q1)) 39 (0,0))):=Lib.hid (by rw[hW4];exact World.alloc_heap_new _ _)
    have HD3:=Lib.hid (cells_in HD2.out hb4)
    have HB4:=Lib.hid hb4
    clear hW4 hb4
    go_upto_region 7 with (first
     |((with_reducible refine at_sload 39 _ rfl ?_);go_must (refine wpList_smid rfl S_edn _ rfl (by simp[Act.eval]) (ednCells y (.slice a2 n2 q2)) rfl HD3.out ?_))
     |((with_reducible refine at_sstore 39 _ _ rfl ?_);go_must (refine wpList_snew rfl S_edn _ _ rfl rfl _ _ (ednCells y (.slice a2 n2 q2)) (by simp[Act.eval]) (by simp[Act.eval]) rfl rfl (by simp[Value.oneCell']) ?_)))
    obtain⟨W5,hW5⟩:∃ W5,W5=W4.alloc (.cells (ednCells y (.slice a2 n2 q2)) 39):=⟨_,rfl⟩
    rw[<-hW5]
    have hb5:Below W4.heap.size W4 W5:=by rw[hW5];exact bel1 _ _
    have HN6:Hid (W5.heap[W4.heap.size]?=some (.cells (ednCells y (.slice a2 n2 q2)) 39 (0,0))):=Lib.hid (by rw[hW5];exact World.alloc_heap_new _ _)
    have HN5:=Lib.hid ((hb5.block _ (qh HN4.out)).trans HN4.out)
    have HB5:Hid (Below w.heap.size w W5):=Lib.hid ((HB0.out.trans (HB4.out.mono HB0.out.size)).trans (hb5.mono (Nat.le_trans HB0.out.size HB4.out.size)))
    have HS5:=Lib.hid (HS.out.bel HB5.out)
    clear hW5 hb5
    go_wp2_with (first
     |((with_reducible refine at_sload 39 (.tmp 8) rfl ?_);go_must (refine wpList_sload rfl S_edn _ rfl (by simp[Act.eval]) (ednCells x (.slice a1 n1 q1)) rfl HN5.out ?_))
     |((with_reducible refine at_sload 39 (.tmp 9) rfl ?_);go_must (refine wpList_sload rfl S_edn _ rfl (by simp[Act.eval,Act.put]) (ednCells y (.slice a2 n2 q2)) rfl HN6.out ?_)))
    refine(HC.out _ HS5.out).mono ?_
    rintro e w3 ⟨rfl,hb3⟩
    have hB3:Below w.heap.size w w3:=HB5.out.trans (hb3.mono HB5.out.size)
    clear hb3 HB0
    cases q with
    |true=>
     have HE2:=Lib.hid (HE.out (HC9.out rfl))
     clear HE HN HC9 HC8
     go_wp2_with fail
     go_roundw
     case rel=>exact⟨k+1,by omega,by go_num,hB3,HE2⟩
     case measure=>simp[intOf];omega
    |false=>
     have HN2:=Lib.hid (HN.out (HC8.out rfl))
     clear HE HN HC9 HC8
     go_wp2_with fail
     go_ret
     exact⟨ret_false HN2.out,hB3⟩
   ·have e:k=l.length:=by omega
    subst e
    have HF:Hid (decide (l=m)=true):=Lib.hid (decide_eq_true (eq_full HL.out ht.out))
    go_wp2_with fail
    go_ret
    exact⟨ret_true HF.out,hb⟩
 ·have HNE:Hid (decide (l=m)=false):=Lib.hid (decide_eq_false (fun e=>hl (by rw[e])))
  have hne:decide (l.length=m.length)=false:=decide_eq_false hl
  go_enter Tryz.func88,Tryz.ntmps88
  go_wp2_with fail
  all_goals first
   |(go_ret
     exact⟨ret_false HNE.out,Below.refl _ _⟩)
   |(exfalso;simp_all;done)
theorem str_dec (a b:ByteArray):(a.toList == b.toList)=decide (a=b):=by
 by_cases h:a=b
 ·subst h;simp
 ·rw[decide_eq_false h,beq_eq_false_iff_ne]
  intro e
  exact h (str_ext (by rw[ByteArray.toList_eq,ByteArray.toList_eq]at e;exact e))
set_option maxRecDepth 100000 in
set_option maxHeartbeats 4000000 in
theorem sameStrs_any {mem:Addr->Option Value} {v u:Value} {l m:List ByteArray} (h1:StrsM mem v l) (h2:StrsM mem u m) (w:World) (hs:Sees mem w):
 Calls Tryz.prog 47 #[v,u] w fun e w'=>e=.returned (.bool (decide (l=m)))/\Below w.heap.size w w':=by
 obtain⟨ao,cap,b,o,rfl,hcap,hm,hao,_,hat⟩:=h1.open_ hs
 obtain⟨ao2,cap2,b2,o2,rfl,hcap2,hm2,hao2,_,hat2⟩:=h2.open_ hs
 have HA:=Lib.hid hao
 have HA2:=Lib.hid hao2
 have HAT:=Lib.hid hat
 have HAT2:=Lib.hid hat2
 have hlen:(l.length:Int)<=9223372036854775807:=by unfold maxLen at hm;omega
 have hlen2:(m.length:Int)<=9223372036854775807:=by unfold maxLen at hm2;omega
 clear h1 h2 hao hao2 hat hat2 hs hcap hcap2 hm hm2
 by_cases hl:l.length=m.length
 ·have HL:=Lib.hid hl
  rw[<-hl]
  clear hl
  go_enter Tryz.func47,Tryz.ntmps47
  go_wp2_with fail
  go_loopw [5] (fun i wr=>∃ k:Nat,k<=l.length/\i=.int .i64 k/\Below w.heap.size w wr/\Hid (l.take k=m.take k)) (fun i _=>l.length - (intOf i).toNat)
  case atStart=>exact⟨0,Nat.zero_le _,rfl,Below.refl _ _,Lib.hid rfl⟩
  case round=>
   obtain⟨k,hk,rfl,hb,ht⟩:=hrel
   by_cases hlt:k<l.length
   ·have hlt2:k<m.length:=by rw[<-HL.out];exact hlt
    obtain rfl:=HA.out (by omega)
    obtain rfl:=HA2.out (by omega)
    have c0:wr.cell? ⟨b,o+k,none⟩=some (.string l[k]):=sees_bel hb _ _ (HAT.out k hlt)
    have d0:wr.cell? ⟨b2,o2+k,none⟩=some (.string m[k]):=sees_bel hb _ _ (HAT2.out k hlt2)
    have HE:Hid (l[k]=m[k]->l.take (k+1)=m.take (k+1)):=Lib.hid (take_step hlt hlt2 ht.out)
    have HN:Hid (l[k]≠m[k]->decide (l=m)=false):=Lib.hid (fun e=>decide_eq_false (ne_of_get hlt hlt2 e))
    have HQ:=Lib.hid (str_dec l[k] m[k])
    clear ht
    generalize l[k]=x at *
    generalize m[k]=y at *
    have HB1:Hid (Below w.heap.size w wr):=Lib.hid hb
    clear hb
    by_cases hxy:x=y
    ·have hq:(x.toList == y.toList)=true:=HQ.out.trans (decide_eq_true hxy)
     have hq2:(x.toList != y.toList)=false:=by rw[bne,hq];rfl
     have HE2:=Lib.hid (HE.out hxy)
     clear hxy HE HN HQ
     go_upto_region 6 with fail
     go_quiet (fail)
     go_wp2_with fail
     go_roundw
     case rel=>exact⟨k+1,by omega,by go_num,below_drewN HB1.out _,HE2⟩
     case measure=>simp[intOf];omega
    ·have hq:(x.toList == y.toList)=false:=HQ.out.trans (decide_eq_false hxy)
     have hq2:(x.toList != y.toList)=true:=by rw[bne,hq];rfl
     have HN2:=Lib.hid (HN.out hxy)
     clear hxy HE HN HQ
     go_upto_region 6 with fail
     go_quiet (fail)
     go_wp2_with fail
     go_ret
     exact⟨ret_false HN2.out,below_drewN HB1.out _⟩
   ·have e:k=l.length:=by omega
    subst e
    have HF:Hid (decide (l=m)=true):=Lib.hid (decide_eq_true (eq_full HL.out ht.out))
    go_wp2_with fail
    go_ret
    exact⟨ret_true HF.out,hb⟩
 ·have HNE:Hid (decide (l=m)=false):=Lib.hid (decide_eq_false (fun e=>hl (by rw[e])))
  have hne:decide (l.length=m.length)=false:=decide_eq_false hl
  go_enter Tryz.func47,Tryz.ntmps47
  go_wp2_with fail
  all_goals first
   |(go_ret
     exact⟨ret_false HNE.out,Below.refl _ _⟩)
set_option maxRecDepth 100000 in
set_option maxHeartbeats 8000000 in
theorem sameEdns_any {mem:Addr->Option Value} {v u:Value} {l m:List EdnF} (h1:EdnsM mem v l) (h2:EdnsM mem u m) (w:World) (hs:Sees mem w):
 Calls Tryz.prog 48 #[v,u] w fun e w'=>e=.returned (.bool (decide (l=m)))/\Below w.heap.size w w':=by
 obtain⟨ao,cap,b,o,rfl,hcap,hm,hao,hat⟩:=SlM.open_ h1
 obtain⟨ao2,cap2,b2,o2,rfl,hcap2,hm2,hao2,hat2⟩:=SlM.open_ h2
 have HA:=Lib.hid hao
 have HA2:=Lib.hid hao2
 have HAT:=Lib.hid hat
 have HAT2:=Lib.hid hat2
 have HS:=Lib.hid hs
 have hlen:(l.length:Int)<=9223372036854775807:=by unfold maxLen at hm;omega
 have hlen2:(m.length:Int)<=9223372036854775807:=by unfold maxLen at hm2;omega
 clear h1 h2 hao hao2 hat hat2 hs hcap hcap2 hm hm2
 by_cases hl:l.length=m.length
 ·have HL:=Lib.hid hl
  rw[<-hl]
  clear hl
  go_enter Tryz.func48,Tryz.ntmps48
  go_wp2_with fail
  go_loopw [5] (fun i wr=>∃ k:Nat,k<=l.length/\i=.int .i64 k/\Hid (Below w.heap.size w wr)/\Hid (l.take k=m.take k)) (fun i _=>l.length - (intOf i).toNat)
  case atStart=>exact⟨0,Nat.zero_le _,rfl,Lib.hid (Below.refl _ _),Lib.hid rfl⟩
  case round=>
   obtain⟨k,hk,rfl,HB1,ht⟩:=hrel
   by_cases hlt:k<l.length
   ·have hlt2:k<m.length:=by rw[<-HL.out];exact hlt
    obtain rfl:=HA.out (by omega)
    obtain rfl:=HA2.out (by omega)
    obtain⟨_,bv,hc,hbm⟩:=HAT.out k hlt
    obtain⟨_,bv2,hc2,hbm2⟩:=HAT2.out k hlt2
    have HC:=Lib.hid (cells_see (sz:=5) (HS.out.bel HB1.out) hc rfl)
    have HD:=Lib.hid (cells_see (sz:=5) (HS.out.bel HB1.out) hc2 rfl)
    have HBM:=Lib.hid (And.intro hbm hbm2)
    have HE:Hid (l[k]=m[k]->l.take (k+1)=m.take (k+1)):=Lib.hid (take_step hlt hlt2 ht.out)
    have HN:Hid (l[k]≠m[k]->decide (l=m)=false):=Lib.hid (fun e=>decide_eq_false (ne_of_get hlt hlt2 e))
    obtain⟨b1,bc1,rfl⟩:=hbm.slice
    obtain⟨b3,bc3,rfl⟩:=hbm2.slice
    have hk0:(0:Int)<=k:=by omega
    have hk1:(k:Int)<l.length:=by omega
    clear ht hc hc2 hbm hbm2
    generalize l[k]=x at *
    generalize m[k]=y at *
    obtain⟨lang,rev,title,blocks,changed⟩:=x
    obtain⟨lang2,rev2,title2,blocks2,changed2⟩:=y
    dsimp only at *
    have c3:wr.cell? ⟨b,o+k * 5+3,none⟩=some (.slice b1 blocks.length bc1):=HC.out 3 (by omega)
    have d3:wr.cell? ⟨b2,o2+k * 5+3,none⟩=some (.slice b3 blocks2.length bc3):=HD.out 3 (by omega)
    have cS:=Lib.hid (sameListR_any HBM.out.1 HBM.out.2 wr.drew (HS.out.bel HB1.out.drew))
    have HE1:Hid (lang=lang2->rev=rev2->title=title2->blocks=blocks2->changed=changed2->l.take (k+1)=m.take (k+1)):=Lib.hid (fun e1 e2 e3 e4 e5=>HE.out (by subst e1 e2 e3 e4 e5;rfl))
    have HN1:Hid (lang≠lang2\/rev≠rev2\/title≠title2\/blocks≠blocks2\/changed≠changed2->decide (l=m)=false):=Lib.hid (fun e=>HN.out (fun q=>by
     injection q with q1 q2 q3 q4 q5
     rcases e with e | e | e | e | e
     ·exact e q1
     ·exact e q2
     ·exact e q3
     ·exact e q4
     ·exact e q5))
    have HQB:Hid (∀ q,decide (blocks=blocks2)=q->(q=true->blocks=blocks2)/\(q=false->blocks≠blocks2)):=Lib.hid (fun q e=>⟨fun h=>of_decide_eq_true (e.trans h),fun h=>of_decide_eq_false (e.trans h)⟩)
    clear HE HN HBM
    generalize hq:decide (blocks=blocks2)=q at *
    have HQ2:=Lib.hid (HQB.out q rfl)
    clear hq HQB
    go_upto_region 6 with fail
    refine wp_tail 10 (by kernel_rfl) (by kernel_rfl) ?_
    simp only[List.take_succ_cons,List.take_zero,List.drop_succ_cons,List.drop_zero]
    repeat still_step
    refine wpStill_nil ?_
    go_wp2_with fail
    refine cS.out.mono ?_
    rintro e w3 ⟨rfl,hb3⟩
    have HB3:Hid (Below w.heap.size w w3):=Lib.hid (HB1.out.drew.trans (hb3.mono HB1.out.size))
    have HC3:Hid (∀ t,t<5->w3.cell? ⟨b,o+k * 5+t,none⟩=(ednCells ⟨lang,rev,title,blocks,changed⟩ (.slice b1 blocks.length bc1))[t]?):=Lib.hid (fun t ht=>by
     have h:=HC.out t ht
     rw[Array.getElem?_eq_getElem (by exact ht)]at h ⊢
     exact sees_bel hb3 _ _ h)
    have HD3:Hid (∀ t,t<5->w3.cell? ⟨b2,o2+k * 5+t,none⟩=(ednCells ⟨lang2,rev2,title2,blocks2,changed2⟩ (.slice b3 blocks2.length bc3))[t]?):=Lib.hid (fun t ht=>by
     have h:=HD.out t ht
     rw[Array.getElem?_eq_getElem (by exact ht)]at h ⊢
     exact sees_bel hb3 _ _ h)
    clear hb3 cS c3 d3
    have c0:w3.cell? ⟨b,o+k * 5,none⟩=some (.string lang):=HC3.out 0 (by omega)
    have c1:w3.cell? ⟨b,o+k * 5+1,none⟩=some (.int .i64 rev):=HC3.out 1 (by omega)
    have c2:w3.cell? ⟨b,o+k * 5+2,none⟩=some (.string title):=HC3.out 2 (by omega)
    have c4:w3.cell? ⟨b,o+k * 5+4,none⟩=some (.int .i64 changed):=HC3.out 4 (by omega)
    have d0:w3.cell? ⟨b2,o2+k * 5,none⟩=some (.string lang2):=HD3.out 0 (by omega)
    have d1:w3.cell? ⟨b2,o2+k * 5+1,none⟩=some (.int .i64 rev2):=HD3.out 1 (by omega)
    have d2:w3.cell? ⟨b2,o2+k * 5+2,none⟩=some (.string title2):=HD3.out 2 (by omega)
    have d4:w3.cell? ⟨b2,o2+k * 5+4,none⟩=some (.int .i64 changed2):=HD3.out 4 (by omega)
    clear HC HD HC3 HD3
    cases q with
    |false=>
     have HN2:=Lib.hid (HN1.out (.inr (.inr (.inr (.inl (HQ2.out.2 rfl))))))
     clear HN1 HE1 HQ2 c0 c1 c2 c4 d0 d1 d2 d4
     go_upto_region 7 with fail
     go_quiet (fail)
     go_wp2_with fail
     go_ret
     exact⟨ret_false HN2.out,below_drewN HB3.out _⟩
    |true=>
     have HBL:=Lib.hid (HQ2.out.1 rfl)
     have s1:=str_dec lang lang2
     have s2:=str_dec title title2
     by_cases e1:lang=lang2
     case' neg=>
      rw[decide_eq_false e1]at s1
      have HN2:=Lib.hid (HN1.out (.inl e1))
      clear HN1 HE1 HQ2 HBL e1 s2 c1 c2 c4 d1 d2 d4
      go_upto_region 7 with fail
      go_quiet (fail)
      go_wp2_with fail
      go_ret
      exact⟨ret_false HN2.out,below_drewN HB3.out _⟩
     rw[decide_eq_true e1]at s1
     by_cases e2:rev=rev2
     case' neg=>
      have n2:(rev == rev2)=false:=by simpa using e2
      have n2':(rev != rev2)=true:=by simpa using e2
      have HN2:=Lib.hid (HN1.out (.inr (.inl e2)))
      clear HN1 HE1 HQ2 HBL e1 e2 s2 c2 c4 d2 d4
      go_upto_region 7 with fail
      go_quiet (fail)
      go_wp2_with fail
      go_ret
      exact⟨ret_false HN2.out,below_drewN HB3.out _⟩
     have n2:(rev == rev2)=true:=by simpa using e2
     have n2':(rev != rev2)=false:=by simpa using e2
     by_cases e3:title=title2
     case' neg=>
      rw[decide_eq_false e3]at s2
      have HN2:=Lib.hid (HN1.out (.inr (.inr (.inl e3))))
      clear HN1 HE1 HQ2 HBL e1 e2 e3 c4 d4
      go_upto_region 7 with fail
      go_quiet (fail)
      go_wp2_with fail
      go_ret
      exact⟨ret_false HN2.out,below_drewN HB3.out _⟩
     rw[decide_eq_true e3]at s2
     by_cases e5:changed=changed2
     case' neg=>
      have n4:(changed == changed2)=false:=by simpa using e5
      have n4':(changed != changed2)=true:=by simpa using e5
      have HN2:=Lib.hid (HN1.out (.inr (.inr (.inr (.inr e5)))))
      clear HN1 HE1 HQ2 HBL e1 e2 e3 e5
      go_upto_region 7 with fail
      go_quiet (fail)
      go_wp2_with fail
      go_ret
      exact⟨ret_false HN2.out,below_drewN HB3.out _⟩
     have n4:(changed == changed2)=true:=by simpa using e5
     have n4':(changed != changed2)=false:=by simpa using e5
     have HE2:=Lib.hid (HE1.out e1 e2 e3 HBL.out e5)
     clear HN1 HE1 HQ2 HBL e1 e2 e3 e5
     go_upto_region 7 with fail
     go_quiet (fail)
     go_wp2_with fail
     go_roundw
     case rel=>exact⟨k+1,by omega,by go_num,Lib.hid (below_drewN HB3.out _),HE2⟩
     case measure=>simp[intOf];omega
   ·have e:k=l.length:=by omega
    subst e
    have HF:Hid (decide (l=m)=true):=Lib.hid (decide_eq_true (eq_full HL.out ht.out))
    go_wp2_with fail
    go_ret
    exact⟨ret_true HF.out,HB1.out⟩
 ·have HNE:Hid (decide (l=m)=false):=Lib.hid (decide_eq_false (fun e=>hl (by rw[e])))
  have hne:decide (l.length=m.length)=false:=decide_eq_false hl
  go_enter Tryz.func48,Tryz.ntmps48
  go_wp2_with fail
  all_goals first
   |(go_ret
     exact⟨ret_false HNE.out,Below.refl _ _⟩)
namespace Mg
theorem mem_upEd {f:Fct}:∀ {l:List EdG},(l.map EdG.lang).Nodup->∀ e,e∈upEd f l↔(e∈l/\e.lang≠f.lang)\/(∃ x∈l,x.lang=f.lang/\e=reEd f x)\/(f.lang∉l.map EdG.lang/\e=newEd f)
 |[],_,e=>by simp[upEd]
 |a::r,hn,e=>by
  rw[List.map_cons]at hn
  obtain⟨h1,h2⟩:=List.nodup_cons.1 hn
  unfold upEd
  by_cases h:a.lang=f.lang
  ·rw[if_pos h]
   have hr:∀ x∈r,x.lang≠f.lang:=fun x hx q=>h1 (by rw[h,<-q];exact List.mem_map_of_mem hx)
   constructor
   ·intro he
    rcases List.mem_cons.1 he with he | he
    ·exact .inr (.inl ⟨a,List.mem_cons_self,h,he⟩)
    ·exact .inl ⟨List.mem_cons_of_mem _ he,hr e he⟩
   ·rintro (⟨he,q⟩ | ⟨x,hx,q,rfl⟩ | ⟨q,_⟩)
    ·rcases List.mem_cons.1 he with he | he
     ·exact absurd (he ▸ h) q
     ·exact List.mem_cons_of_mem _ he
    ·rcases List.mem_cons.1 hx with hx | hx
     ·rw[hx];exact List.mem_cons_self
     ·exact absurd q (hr x hx)
    ·exact absurd (by rw[List.map_cons,h];exact List.mem_cons_self) q
  ·rw[if_neg h,List.mem_cons,mem_upEd h2]
   have hm:f.lang∉(a::r).map EdG.lang↔f.lang∉r.map EdG.lang:=by
    rw[List.map_cons,List.mem_cons]
    exact⟨fun q hq=>q (.inr hq),fun q hq=>hq.elim (fun e=>h e.symm) q⟩
   constructor
   ·rintro (rfl | ⟨he,q⟩ | ⟨x,hx,q⟩ | ⟨q,he⟩)
    ·exact .inl ⟨List.mem_cons_self,h⟩
    ·exact .inl ⟨List.mem_cons_of_mem _ he,q⟩
    ·exact .inr (.inl ⟨x,List.mem_cons_of_mem _ hx,q⟩)
    ·exact .inr (.inr ⟨hm.2 q,he⟩)
   ·rintro (⟨he,q⟩ | ⟨x,hx,q,he⟩ | ⟨q,he⟩)
    ·rcases List.mem_cons.1 he with he | he
     ·exact .inl he
     ·exact .inr (.inl ⟨he,q⟩)
    ·rcases List.mem_cons.1 hx with hx | hx
     ·exact absurd (hx ▸ q) h
     ·exact .inr (.inr (.inl ⟨x,hx,q,he⟩))
    ·exact .inr (.inr (.inr ⟨hm.1 q,he⟩))
end Mg
def RevX (id:Int) (lang:ByteArray) (t:Tag):Prop:=t=.story id\/t=.emap id\/t=.edn id lang\/t=.rrow id lang
theorem RevX.of {id:Int} {lang:ByteArray} {t:Tag} (h:RevX id lang t):t.of=some id:=by rcases h with rfl | rfl | rfl | rfl <;> rfl
section
variable {own own':Own} {mem:Addr->Option Value} {B N N':Nat} {w w':World} {id:Int} {g:StG} {f:Fct}
theorem em_re (ho:own.Ok B w) (hl:own.Le own') (hu:Upd (Wr own (RevX id f.lang)) w w') (hN:N<=N') {b n:Nat} {ge:Value->Option Value} (b1:own b=some (.emap id)) (hn:n<=N) (hk:KMap Tryz.prog 9 w' b n ge)
 (b4:∀ e∈g.eds,∃ p,ge (.string e.lang)=some (.pointer (some ⟨p,0,none⟩))/\EdIn own mem B w id N e p) (b5:∀ lang:ByteArray,lang.size<=maxLen->lang∉g.eds.map EdG.lang->ge (.string lang)=none)
 (ha:Apart g) {x:EdG} (hx:x∈g.eds) (hxl:x.lang=f.lang) {p:Nat} (hp:ge (.string f.lang)=some (.pointer (some ⟨p,0,none⟩))) (hnew:EdIn own' mem B w' id N' (reEd f x) p):EmIn own' mem B w' id N' (upEd f g.eds) b:=by
 have hin:f.lang∈g.eds.map EdG.lang:=by rw[<-hxl];exact List.mem_map_of_mem hx
 refine⟨hl _ _ b1,n,ge,by omega,hk,fun e he=>?_,fun lang hlang hne=>b5 lang hlang (by rwa [upEd_in f _ hin]at hne)⟩
 rcases (mem_upEd ha e).1 he with ⟨h1,h2⟩ | ⟨y,h1,h2,rfl⟩ | ⟨h1,_⟩
 ·obtain⟨q,c1,c2⟩:=b4 e h1
  refine⟨q,c1,c2.keep ho hl hu hN (fun hX=>?_) (fun hX=>?_)⟩
  ·rcases hX with hX | hX | hX | hX <;> first|cases hX | (injection hX with _ q;exact h2 q)
  ·rcases hX with hX | hX | hX | hX <;> first|cases hX | (injection hX with _ q;exact h2 q)
 ·have:y=x:=by
   obtain⟨i,hi,rfl⟩:=List.getElem_of_mem h1
   obtain⟨j,hj,rfl⟩:=List.getElem_of_mem hx
   have hp:=List.pairwise_iff_getElem.1 ha
   rcases Nat.lt_trichotomy i j with q | q | q
   ·exact absurd (h2.trans hxl.symm) (by have:=hp i j (by simpa using hi) (by simpa using hj) q;simpa using this)
   ·subst q;rfl
   ·exact absurd (hxl.trans h2.symm) (by have:=hp j i (by simpa using hj) (by simpa using hi) q;simpa using this)
  subst this
  exact⟨p,by show ge (.string y.lang)=_;rw[h2];exact hp,hnew⟩
 ·exact absurd hin h1
open Classical in
theorem em_new (ho:own.Ok B w) (hl:own.Le own') (hu:Upd (Wr own (RevX id f.lang)) w w') (hN:N+1<=N') {b n:Nat} {ge:Value->Option Value} (b1:own b=some (.emap id)) (hn:n<=N) {p:Nat} (hk:KMap Tryz.prog 9 w' b (n+1) (fun x=>if x=.string f.lang then some (.pointer (some ⟨p,0,none⟩)) else ge x))
 (b4:∀ e∈g.eds,∃ p,ge (.string e.lang)=some (.pointer (some ⟨p,0,none⟩))/\EdIn own mem B w id N e p) (b5:∀ lang:ByteArray,lang.size<=maxLen->lang∉g.eds.map EdG.lang->ge (.string lang)=none)
 (ha:Apart g) (hx:f.lang∉g.eds.map EdG.lang) (hnew:EdIn own' mem B w' id N' (newEd f) p):EmIn own' mem B w' id N' (upEd f g.eds) b:=by
 refine⟨hl _ _ b1,n+1,_,by omega,hk,fun e he=>?_,fun lang hlang hne=>?_⟩
 ·rcases (mem_upEd ha e).1 he with ⟨h1,h2⟩ | ⟨y,h1,h2,rfl⟩ | ⟨_,rfl⟩
  ·obtain⟨q,c1,c2⟩:=b4 e h1
   refine⟨q,by rw[if_neg (by intro q;injection q with q;exact h2 q)];exact c1,c2.keep ho hl hu (by omega) (fun hX=>?_) (fun hX=>?_)⟩
   ·rcases hX with hX | hX | hX | hX <;> first|cases hX | (injection hX with _ q;exact h2 q)
   ·rcases hX with hX | hX | hX | hX <;> first|cases hX | (injection hX with _ q;exact h2 q)
  ·exact absurd (by rw[<-h2];exact List.mem_map_of_mem h1) hx
  ·exact⟨p,if_pos rfl,hnew⟩
 ·rw[upEd_out f _ hx]at hne
  have h1:lang∉g.eds.map EdG.lang:=fun q=>hne (List.mem_append.2 (.inl q))
  have h2:lang≠f.lang:=fun q=>hne (List.mem_append.2 (.inr (List.mem_singleton.2 q)))
  rw[if_neg (by intro q;injection q with q;exact h2 q)]
  exact b5 lang hlang h1
theorem step_rev (hk:f.kind=1):Mg.stepG g f={ g with author:=f.author,topics:=f.topics,eds:=upEd f g.eds }:=by unfold Mg.stepG;rw[if_pos hk]
theorem st_rev (hf:FOK f) (hk:f.kind=1) (ho:own.Ok B w) (hl:own.Le own') (hu:Upd (Wr own (RevX id f.lang)) w w') (hN:N<=N') {p:Nat} (h:StIn own mem B w id N g p)
 {tv cv:Value} {em cm:Nat} (a1:w'.heap[p]?=some (.cells (stoCells id (Mg.stepG g f) tv cv em cm) 107 (0,0))) (a2:StrsM mem tv f.topics) (a3:GRow w B 69 5 cv (g.corr.map corrCells)) (a4:∀ k,cv.ownBlock=some k->own k=some (.crow id))
 (a5:EmIn own' mem B w' id N' (upEd f g.eds) em) (a6:CmIn own B w id N g.corr cm):StIn own' mem B w' id N' (Mg.stepG g f) p:=by
 have hap:=stepG_apart h.apart f
 rw[step_rev hk]at a1 hap ⊢
 exact⟨hl _ _ h.tag,h.sid,hf.s8,h.pub,h.cok,Nat.le_trans h.clen hN,hap,tv,cv,em,cm,a1,a2,a3.same fun k hk=>keep_blk ho hu (a4 k hk) (by rintro (q | q | q | q) <;> cases q),fun k hk=>hl _ _ (a4 k hk),a5,a6.keep ho hl hu hN (by rintro (q | q | q | q) <;> cases q) (by rintro lang (q | q | q | q) <;> cases q)⟩
end
end Go.Proofs.YtdkkhmjlamkgdaaGreatDoor
namespace Go.Proofs.YtdkkhmjlamkgdaaGreatDoor
open Go.RowKit Mg Go.Shelf Go.Maps
theorem max_ite (a b:Int):max a b=if a<b then b else a:=by
 split <;> omega
def EffPost (own:Own) (mem:Addr->Option Value) (B:Nat) (w:World) (sb N:Nat) (T:Int->Prop) (G:Int->StG) (L:ByteArray->Option ByteArray) (f:Fct) (e:Ending) (w':World):Prop:=
 e=.returned (.tuple #[])/\∃ own' ps',own.Le own'/\own.New own' w/\FoldIn own' mem B w' sb (N+2) ps' (fun i=>T i\/i=f.story) (fun i=>if i=f.story then Mg.stepG (G i) f else G i) L/\Upd (Wr own (fun _=>True)) w w'
theorem upd_two {own own1:Own} {w w1 w2:World} {X:Tag->Prop} {F:Nat->Prop} (h:Upd F w w1) (hF:∀ k,F k->Wr own (fun _=>True) k\/w.heap.size<=k) (hn:own.New own1 w) (k:Upd (Wr own1 X) w1 w2):Upd (Wr own (fun _=>True)) w w2:=
 (h.mono hF).trans k (fun i hi=>by
   by_cases hlt:i<w.heap.size
   ·left
    cases ho:own i with
    |none=>have:=hn i hlt ho;rw[hi.choose_spec.1]at this;cases this
    |some t=>exact⟨t,ho,trivial⟩
   ·exact .inr (by omega))
theorem wr_of {own1 own2:Own} {W2:World} {X:Tag->Prop} {k:Nat} {t:Tag} (hle:own1.Le own2) (hnw:own1.New own2 W2) (h:own2 k=some t) (hX:X t):Wr own1 X k\/W2.heap.size<=k:=by
 by_cases hlt:k<W2.heap.size
 ·cases ho:own1 k with
  |none=>have:=hnw _ hlt ho;rw[h]at this;cases this
  |some u=>exact .inl ⟨u,ho,by have:=hle _ _ ho;rw[h]at this;rw[<-Option.some.inj this];exact hX⟩
 ·exact .inr (by omega)
theorem max_if (a b:Int):(if a<b then b else a)=max a b:=by split <;> omega
theorem put_row {own2:Own} {B:Nat} {wc:World} {g:Nat} {t:Tag} (hok:own2.Ok B wc) (h:own2 g=some t\/wc.heap.size<=g):own2.Le (own2.put g t):=
 h.elim Own.put_le_same fun h=>Own.put_le hok h t
theorem put_row_new {own1 own2:Own} {W2 wc:World} {g:Nat} {t:Tag} (hnw:own1.New own2 W2) (hs:W2.heap.size<=wc.heap.size) (h:own2 g=some t\/wc.heap.size<=g):own1.New (own2.put g t) W2:=fun j hj e=>by
 have h1:=hnw j hj e
 unfold Own.put
 by_cases hjg:j=g
 ·subst hjg
  rcases h with h | h
  ·rw[h]at h1;cases h1
  ·omega
 ·rw[if_neg hjg];exact h1
structure RevB (W:World) (p fb:Nat) (P:Array Value) (f:FctE):Prop where
 sto:W.heap[p]?=some (.cells P 107 (0,0))
 fct:W.heap[fb]?=some (.cells f.cells 50 (0,0))
theorem RevB.set {W:World} {p fb:Nat} {P:Array Value} {f:FctE} (h:RevB W p fb P f) (hne:fb≠p) (j:Nat) (u:Value):RevB (W.setCell ⟨p,j,none⟩ u) p fb (P.setIfInBounds j u) f:=
 ⟨blk_set h.sto,(Below.heap_setCell _ _ _ _ hne).trans h.fct⟩
def RevCut (own1:Own) (mem:Addr->Option Value) (B N:Nat) (W2:World) (f:FctE) (g:StG) (p fb em:Nat) (P:Array Value) (e:Value) (wc:World):Prop:=
 ∃ (pe:Nat) (own2:Own) (e0:EdG) (rv:Value) (es:List FctE),e=.pointer (some ⟨pe,0,none⟩)/\own1.Le own2/\own1.New own2 W2/\own2.Ok B wc/\Upd (Wr own1 (RevX f.f.story f.f.lang)) W2 wc/\RevB wc p fb P f ∧
  wc.heap[pe]?=some (.cells (edgCells e0 rv) 138 (0,0))/\FRow wc B rv es/\own2 pe=some (.edn f.f.story f.f.lang)/\(∀ k,rv.ownBlock=some k->own2 k=some (.rrow f.f.story f.f.lang))/\es.map FctE.f=e0.revs/\(∀ x∈es,x.ok mem)/\e0.lang=f.f.lang/\okI e0.rev/\e0.revs.length<=N+1 ∧
  ∀ (own3:Own) (We:World),own2.Le own3->Upd (Wr own1 (RevX f.f.story f.f.lang)) W2 We->We.heap[em]?=wc.heap[em]?->EdIn own3 mem B We f.f.story (N+2) (reEd f.f e0) pe->EmIn own3 mem B We f.f.story (N+2) (upEd f.f g.eds) em
section
variable {own:Own} {mem:Addr->Option Value} {B N:Nat} {w:World} {sb:Nat} {ps:Int->Nat} {T:Int->Prop} {G:Int->StG} {L:ByteArray->Option ByteArray}
set_option maxRecDepth 100000 in
set_option maxHeartbeats 8000000 in
theorem revise_any (h:FoldIn own mem B w sb N ps T G L) (f:FctE) (hf:f.ok mem) (hk:f.f.kind=1) (hN:N<=50000):
 Calls Tryz.prog 70 #[.pointer (some ⟨sb,0,none⟩),.agg f.cells] w (EffPost own mem B w sb N T G L f.f):=by
 obtain⟨W1,hW1⟩:∃ W1,W1=w.alloc (.cells f.cells 50):=⟨_,rfl⟩
 have hb1:Below w.heap.size w W1:=by rw[hW1];exact bel1 w _
 have h1:=h.keep hb1 (Nat.le_refl N)
 have hF1:W1.heap[w.heap.size]?=some (.cells f.cells 50 (0,0)):=by rw[hW1];exact World.alloc_heap_new w _
 have cOf:=Lib.hid (of_any h1 f hf.fok.i3 (by omega))
 have HW1:=Lib.hid hW1
 have HF1:=Lib.hid hF1
 have HB1:=Lib.hid hb1
 have H:=Lib.hid h
 have HK:=Lib.hid hk
 have HFO:=Lib.hid hf
 have hsz:Hid (f.cells.size=23):=Lib.hid rfl
 clear hW1 hF1 hb1 h1 h hk hf
 rw[FctE.cells_eq]
 rw[FctE.cells_eq]at HW1 HF1 cOf
 go_enter Tryz.func70,Tryz.ntmps70
 go_upto_region 1 with fail
 rw[<-HW1.out]
 go_wp2_with (first|((with_reducible refine at_fload _ rfl ?_);refine wpList_fct_load rfl _ rfl w.heap.size rfl _ HF1.out rfl ?_))
 refine cOf.out.mono ?_
 rintro e W2 ⟨own1,ps1,rfl,hle1,hnw1,h2,hu2⟩
 have hnf:own w.heap.size=none:=by
  cases ho:own w.heap.size with
  |none=>rfl
  |some t=>have:=(H.out.ok _ _ ho).2;omega
 have hfb:W2.heap[w.heap.size]?=some (.cells (fctCells f.f f.tv f.bv f.av) 50 (0,0)):=(hu2.block _ (hlt HF1.out) (fun ⟨t,ht,_⟩=>by rw[hnf]at ht;cases ht)).trans HF1.out
 have hS:=h2.st HFO.out.fok.i3 (.inr rfl)
 generalize hp:ps1 f.f.story=p at *
 obtain⟨tv,cv,em,cm,a1,a2,a3,a4,⟨a5,n,ge,a6,a7,a8,a9⟩,a10⟩:=hS.at_
 have hnf1:own1 w.heap.size=none:=hnw1 _ (hlt HF1.out) hnf
 have hpf:w.heap.size≠p:=fun e=>by rw[e,hS.tag]at hnf1;cases hnf1
 have hB0:RevB W2 p w.heap.size _ f:=⟨a1,hfb⟩
 have HB2:=Lib.hid hB0
 have H2:=Lib.hid h2
 have HS:=Lib.hid hS
 have HU2:=Lib.hid hu2
 have HNW:=Lib.hid hnw1
 have HLE:=Lib.hid hle1
 have HA2:=Lib.hid a2
 have HA3:=Lib.hid a3
 have HA4:=Lib.hid a4
 have HA7:=Lib.hid a7
 have HA8:=Lib.hid a8
 have HA9:=Lib.hid a9
 have HA10:=Lib.hid a10
 have HP:=Lib.hid hp
 have HPF:=Lib.hid hpf
 have HNF:=Lib.hid hnf1
 have z1:W2.frozen? ⟨p,1,none⟩=false:=rowfree a1
 have c1:W2.cell? ⟨p,1,none⟩=some (.string (G f.f.story).author):=rowcell a1
 have f8:W2.cell? ⟨w.heap.size,8,none⟩=some (.string f.f.author):=rowcell hfb
 clear hnf hfb hS a1 a2 a3 a4 a7 a8 a9 a10 hB0 h2 hu2 hnw1 hle1 hp hpf hnf1 cOf HF1
 generalize hfbn:w.heap.size=fb at *
 go_upto_region 3 with fail
 obtain⟨W3,hW3⟩:∃ W3,W3=W2.setCell ⟨p,1,none⟩ (.string f.f.author):=⟨_,rfl⟩
 rw[<-hW3]
 have hB3:=HB2.out.set HPF.out 1 (.string f.f.author)
 rw[<-hW3]at hB3
 have HU3:Hid (Upd (Wr own1 (RevX f.f.story f.f.lang)) W2 W3):=Lib.hid (by rw[hW3];exact(Upd.refl _ _).setCell (.inl ⟨_,HS.out.tag,.inl rfl⟩) _)
 have HB3:=Lib.hid hB3
 have hemp:em≠p:=Own.ne a5 HS.out.tag (by simp)
 have HEP:=Lib.hid hemp
 have HE3:Hid (∀ k,k≠p->W3.heap[k]?=W2.heap[k]?):=Lib.hid (fun k hk=>by rw[hW3];exact Below.heap_setCell _ _ _ _ hk)
 have z2:W3.frozen? ⟨p,2,none⟩=false:=rowfree hB3.sto
 have c2:W3.cell? ⟨p,2,none⟩=some tv:=rowcell hB3.sto
 have f9:W3.cell? ⟨fb,9,none⟩=some f.tv:=rowcell hB3.fct
 clear hW3 hB3 z1 c1 f8 hemp
 go_upto_region 4 with fail
 obtain⟨W4,hW4⟩:∃ W4,W4=W3.setCell ⟨p,2,none⟩ f.tv:=⟨_,rfl⟩
 rw[<-hW4]
 have hB4:=HB3.out.set HPF.out 2 f.tv
 rw[<-hW4]at hB4
 have HU4:Hid (Upd (Wr own1 (RevX f.f.story f.f.lang)) W2 W4):=Lib.hid (by rw[hW4];exact HU3.out.setCell (.inl ⟨_,HS.out.tag,.inl rfl⟩) _)
 have HB4:=Lib.hid hB4
 have HE4:Hid (∀ k,k≠p->W4.heap[k]?=W2.heap[k]?):=Lib.hid (fun k hk=>by rw[hW4];exact(Below.heap_setCell _ _ _ _ hk).trans (HE3.out k hk))
 have c10:W4.cell? ⟨p,9,none⟩=some (.map (some em)):=rowcell hB4.sto
 have f4:W4.cell? ⟨fb,4,none⟩=some (.string f.f.lang):=rowcell hB4.fct
 have hkm:∀ m,(Instr.lookup 104 (.map (some em)) (.string f.f.lang) false).run Tryz.prog (W4.drewN m)=.ok ((ge (.string f.f.lang)).getD (.pointer none)) (W4.drewN m):=fun m=>
  KMap.look (w:=W4.drewN m) (HA7.out.of_block (HE4.out em HEP.out)) K_str Tryz.underlying104 (zero_ped _) (key_str HFO.out.fok.s4)
 have hcase:∃ q:Bool,(∀ w,(binOp .eql 135 ((ge (.string f.f.lang)).getD (.pointer none)) (.pointer none)).run Tryz.prog w=.ok (.bool q) w)/\(∀ w,(eqGuard .eql 135 (.tmp 28) (.const (.pointer none)) ((ge (.string f.f.lang)).getD (.pointer none)) (.pointer none)).run Tryz.prog w=.ok () w) ∧
  ((q=true/\ge (.string f.f.lang)=none/\f.f.lang∉(G f.f.story).eds.map EdG.lang)\/(q=false/\∃ pe,∃ x∈(G f.f.story).eds,x.lang=f.f.lang/\ge (.string f.f.lang)=some (.pointer (some ⟨pe,0,none⟩))/\EdIn own1 mem B W2 f.f.story (N+1) x pe)):=by
  by_cases hin:f.f.lang∈(G f.f.story).eds.map EdG.lang
  ·obtain⟨x,hx,hxl⟩:=List.mem_map.1 hin
   obtain⟨pe,q1,q2⟩:=HA8.out x hx
   rw[hxl]at q1
   refine⟨false,fun w=>?_,fun w=>?_,.inr ⟨rfl,pe,x,hx,hxl,q1,q2⟩⟩
   ·rw[q1];go_simp
   ·rw[q1];go_simp
  ·have q1:=HA9.out _ HFO.out.fok.s4 hin
   refine⟨true,fun w=>?_,fun w=>?_,.inl ⟨rfl,q1,hin⟩⟩
   ·rw[q1];go_simp
   ·rw[q1];go_simp
 obtain⟨q,hq,hqg,hcs⟩:=hcase
 have HCS:=Lib.hid hcs
 generalize hr:(ge (.string f.f.lang)).getD (.pointer none)=r at *
 have HR:=Lib.hid hr
 clear hW4 hB4 z2 c2 f9 hr hcs
 go_quiet (fail)
 go_upto_if 29 with fail
 obtain⟨W5,hW5⟩:∃ W5,W5=W4.drewN nq:=⟨_,rfl⟩
 rw[<-hW5]
 have HB5:Hid (RevB W5 p fb _ f):=Lib.hid (by rw[hW5];exact⟨HB4.out.sto,HB4.out.fct⟩)
 have HU5:Hid (Upd (Wr own1 (RevX f.f.story f.f.lang)) W2 W5):=Lib.hid (by rw[hW5];exact upd_dN HU4.out nq)
 have HE5:Hid (∀ k,k≠p->W5.heap[k]?=W2.heap[k]?):=Lib.hid (fun k hk=>by rw[hW5];exact HE4.out k hk)
 have HZ5:Hid (W2.heap.size<=W5.heap.size):=Lib.hid HU5.out.size
 clear hW5 hkm hq hqg c10 f4
 obtain⟨PP,hPP⟩:∃ PP:Array Value,PP=stoCells f.f.story { G f.f.story with author:=f.f.author,topics:=f.f.topics,eds:=upEd f.f (G f.f.story).eds } f.tv cv em cm:=⟨_,rfl⟩
 replace HB5:Hid (RevB W5 p fb PP f):=Lib.hid (by rw[hPP];exact HB5.out)
 have HPP:=Lib.hid hPP
 clear hPP
 go_cut [5] from 28 (fun e wc=>RevCut own1 mem B N W2 f (G f.f.story) p fb em PP e wc)
 case rest=>
  obtain⟨pe,own2,e0,rv,es,rfl,hle2,hnw2,hok2,hu,hB,hE,hrow,ht1,ht2,hes,hok,hlang,hrev,hlen,hfin⟩:=hcut
  have hnf2:own2 fb=none:=hnw2 _ (by have:=HU2.out.size;have:=hlt HB2.out.fct;omega) HNF.out
  have hpe1:fb≠pe:=fun e=>by rw[e,ht1]at hnf2;cases hnf2
  have hpe2:p≠pe:=Own.ne (hle2 _ _ HS.out.tag) ht1 (by simp)
  have HC:=Lib.hid hB
  have HE:=Lib.hid hE
  have HR2:=Lib.hid hrow
  have HN1:=Lib.hid hpe1
  have HN2:=Lib.hid hpe2
  have HU:=Lib.hid hu
  have HLE2:=Lib.hid hle2
  have HNW2:=Lib.hid hnw2
  have HOK2:=Lib.hid hok2
  have HT1:=Lib.hid ht1
  have HT2:=Lib.hid ht2
  have HES:=Lib.hid hes
  have HOKS:=Lib.hid hok
  have HLANG:=Lib.hid hlang
  have HREV:=Lib.hid hrev
  have HLEN:=Lib.hid hlen
  have HFIN:=Lib.hid hfin
  have hz0:wc.frozen? ⟨pe,2,none⟩=false:=rowfree hE
  have hc0:wc.cell? ⟨pe,2,none⟩=some (.string e0.title):=rowcell hE
  have hc7:wc.cell? ⟨fb,7,none⟩=some (.string f.f.title):=rowcell hB.fct
  clear hnf2 hpe1 hpe2 hle2 hnw2 hok2 hu hB hE hrow ht1 ht2 hes hok hlang hrev hlen hfin
  go_upto_region 11 with fail
  obtain⟨W6,hW6⟩:∃ W6,W6=wc.setCell ⟨pe,2,none⟩ (.string f.f.title):=⟨_,rfl⟩
  rw[<-hW6]
  have HC6:Hid (RevB W6 p fb PP f):=Lib.hid (by rw[hW6];exact⟨(Below.heap_setCell _ _ _ _ HN2.out).trans HC.out.sto,(Below.heap_setCell _ _ _ _ HN1.out).trans HC.out.fct⟩)
  have HE6:Hid (W6.heap[pe]?=some (.cells #[.string e0.lang,.int .i64 e0.rev,.string f.f.title,.slice none 0 0,.int .i64 e0.changed,rv] 138 (0,0))):=Lib.hid (by rw[hW6];exact blk_set HE.out)
  have hz1:W6.frozen? ⟨pe,1,none⟩=false:=rowfree HE6.out
  have hc1:W6.cell? ⟨pe,1,none⟩=some (.int .i64 e0.rev):=rowcell HE6.out
  have hc5:W6.cell? ⟨fb,5,none⟩=some (.int .i64 f.f.rev):=rowcell HC6.out.fct
  have HW6:=Lib.hid hW6
  clear hz0 hc0 hc7 hW6
  go_still_tail 12,(by kernel_rfl)
  go_upto_region 12 with fail
  obtain⟨W7,hW7⟩:∃ W7,W7=(W6.setCell ⟨pe,1,none⟩ (.int .i64 (if e0.rev<f.f.rev then f.f.rev else e0.rev))).drew:=⟨_,rfl⟩
  first
   |rw[<-hW7]
   |(rw[max_ite e0.rev f.f.rev];rw[<-hW7])
  have HC7:Hid (RevB W7 p fb PP f):=Lib.hid (by rw[hW7];exact⟨(Below.heap_setCell _ _ _ _ HN2.out).trans HC6.out.sto,(Below.heap_setCell _ _ _ _ HN1.out).trans HC6.out.fct⟩)
  have HE7:Hid (W7.heap[pe]?=some (.cells #[.string e0.lang,.int .i64 (if e0.rev<f.f.rev then f.f.rev else e0.rev),.string f.f.title,.slice none 0 0,.int .i64 e0.changed,rv] 138 (0,0))):=Lib.hid (by rw[hW7];exact blk_set HE6.out)
  have hz4:W7.frozen? ⟨pe,4,none⟩=false:=rowfree HE7.out
  have hc4:W7.cell? ⟨pe,4,none⟩=some (.int .i64 e0.changed):=rowcell HE7.out
  have hcn:W7.cell? ⟨fb,0,none⟩=some (.int .i64 f.f.n):=rowcell HC7.out.fct
  have HW7:=Lib.hid hW7
  clear hz1 hc1 hc5 hW7
  go_upto_region 13 with fail
  obtain⟨W8,hW8⟩:∃ W8,W8=W7.setCell ⟨pe,4,none⟩ (.int .i64 f.f.n):=⟨_,rfl⟩
  rw[<-hW8]
  have HC8:Hid (RevB W8 p fb PP f):=Lib.hid (by rw[hW8];exact⟨(Below.heap_setCell _ _ _ _ HN2.out).trans HC7.out.sto,(Below.heap_setCell _ _ _ _ HN1.out).trans HC7.out.fct⟩)
  have HE8:Hid (W8.heap[pe]?=some (.cells #[.string e0.lang,.int .i64 (if e0.rev<f.f.rev then f.f.rev else e0.rev),.string f.f.title,.slice none 0 0,.int .i64 f.f.n,rv] 138 (0,0))):=Lib.hid (by rw[hW8];exact blk_set HE7.out)
  have HK8:Hid (∀ k,k≠pe->W8.heap[k]?=wc.heap[k]?):=Lib.hid (fun k hk=>by rw[hW8,HW7.out];exact(Below.heap_setCell _ _ _ _ hk).trans ((Below.heap_setCell _ _ _ _ hk).trans (by rw[HW6.out];exact Below.heap_setCell _ _ _ _ hk)))
  have HU8:Hid (Upd (Wr own1 (RevX f.f.story f.f.lang)) W2 W8):=Lib.hid (by
   have hw:Wr own1 (RevX f.f.story f.f.lang) pe\/W2.heap.size<=pe:=by
    by_cases hlt2:pe<W2.heap.size
    ·cases ho:own1 pe with
     |none=>have:=HNW2.out _ hlt2 ho;rw[HT1.out]at this;cases this
     |some t=>exact .inl ⟨t,ho,by have:=HLE2.out _ _ ho;rw[HT1.out]at this;rw[<-Option.some.inj this];exact .inr (.inr (.inl rfl))⟩
    ·exact .inr (by omega)
   rw[hW8,HW7.out,HW6.out]
   exact(((HU.out.setCell hw _).setCell hw _).drew).setCell hw _)
  obtain⟨ra,rc,hrv⟩:=HR2.out.shape
  subst hrv
  have HS8:Hid (W8.drew.cell? ⟨pe,5,none⟩=some (.slice ra es.length rc)/\W8.drew.heap[fb]?=some (.cells f.cells 50 (0,0))):=Lib.hid ⟨rowcell HE8.out,HC8.out.fct⟩
  have hsz8:W8.heap.size=wc.heap.size:=by rw[hW8,HW7.out,HW6.out];simp[World.setCell]
  have HZ8:=Lib.hid hsz8
  clear hz4 hc4 hcn hW8 hsz8
  refine wp_mix [mT,mT,mT,mT,mT,mT,mF,mF,mF,mF,mL] 10 (fun W'=>W'.cell? ⟨pe,5,none⟩=some (.slice ra es.length rc)/\W'.heap[fb]?=some (.cells f.cells 50 (0,0))) (by kernel_rfl) (by kernel_rfl) HS8.out ?_
  refine wpMix_take (.pointer (some ⟨pe,0,none⟩)) (fun _ _ _ _ h=>h) HS8.out (by rfl) (fun W2 hW=>by go_simp) ?_
  simp only[Act.put,List.setIfInBounds_toArray,List.set_cons_zero,List.set_cons_succ]
  refine wpMix_take (.pointer (some ⟨pe,0,none⟩)) (fun _ _ _ _ h=>h) HS8.out (by rfl) (fun W2 hW=>by go_simp) ?_
  simp only[Act.put,List.setIfInBounds_toArray,List.set_cons_zero,List.set_cons_succ]
  refine wpMix_take (.pointer (some ⟨pe,0,none⟩)) (fun _ _ _ _ h=>h) HS8.out (by rfl) (fun W2 hW=>by go_simp) ?_
  simp only[Act.put,List.setIfInBounds_toArray,List.set_cons_zero,List.set_cons_succ]
  refine wpMix_take (.pointer (some ⟨pe,5,none⟩)) (fun _ _ _ _ h=>h) HS8.out (by rfl) (fun W2 hW=>by go_simp) ?_
  simp only[Act.put,List.setIfInBounds_toArray,List.set_cons_zero,List.set_cons_succ]
  refine wpMix_take (.slice ra es.length rc) (fun _ _ _ _ h=>h) HS8.out (by rfl) (fun W2 hW=>by have q0:=hW.1;go_simp) ?_
  simp only[Act.put,List.setIfInBounds_toArray,List.set_cons_zero,List.set_cons_succ]
  refine wpMix_take (.agg f.cells) (fun _ _ _ _ h=>h) HS8.out (by rfl) (fun W2 hW=>by exact exec_fct_load _ rfl (by simp[Act.eval]) hW.2 hsz.out) ?_
  simp only[Act.put,List.setIfInBounds_toArray,List.set_cons_zero,List.set_cons_succ]
  refine wpMix_step (fun K hK=>?_)
  rw[if_pos (by rfl)]
  refine wp_fct_slice _ rfl f (by simp[Act.eval]) ?_
  have hS9:Hid ((W8.drew.alloc (.cells f.cells 50)).cell? ⟨pe,5,none⟩=some (.slice ra es.length rc)/\(W8.drew.alloc (.cells f.cells 50)).heap[fb]?=some (.cells f.cells 50 (0,0))):=
   Lib.hid ⟨(World.cell?_alloc_lt W8.drew _ _ (by show pe<W8.heap.size;exact hlt HE8.out)).trans HS8.out.1,(Below.heap_alloc W8.drew _ _ (by show fb<W8.heap.size;exact hlt HC8.out.fct)).trans HS8.out.2⟩
  refine hK _ _ hS9.out ?_
  clear hK K
  simp only[Act.put,List.setIfInBounds_toArray,List.set_cons_zero,List.set_cons_succ]
  refine wpMix_step (fun K hK=>?_)
  rw[if_pos (by rfl)]
  have hrow9:FRow (W8.drew.alloc (.cells f.cells 50)) B (.slice ra es.length rc) es:=HR2.out.same (fun k hk=>(Below.heap_alloc W8.drew _ k (by show k<W8.heap.size;rw[HZ8.out];exact(HR2.out.ge k hk).2)).trans (HK8.out k (fun e=>by
   have:=HT2.out k hk
   rw[e,HT1.out]at this
   cases this)))
  have hel:es.length<=100000:=by
   have h1:=HLEN.out
   rw[<-HES.out,List.length_map]at h1
   omega
  have hBs:B<=W8.heap.size:=by have:=(HOK2.out _ _ HT1.out).1;have:=hlt HE8.out;omega
  refine wp_app_fct _ _ rfl B (.slice ra es.length rc) es (by simp[Act.eval]) hrow9 f W8.drew.heap.size 1 (by simp[Act.eval]) (World.alloc_heap_new W8.drew _) hel (by rw[World.size_alloc];show B<=W8.heap.size+1;omega) ?_
  intro v' w' hr' hg hob
  have HG:=Lib.hid hg
  have HR':=Lib.hid hr'
  have HOB:=Lib.hid hob
  have hkeep:∀ k,k<W8.heap.size->(Value.slice ra es.length rc).ownBlock≠some k->w'.heap[k]?=W8.heap[k]?:=fun k hk hne=>(hg.block k (by rw[World.size_alloc];show k<W8.heap.size+1;omega) (fun e=>hne e.symm)).trans (Below.heap_alloc W8.drew _ k hk)
  have hne1:(Value.slice ra es.length rc).ownBlock≠some pe:=fun e=>by have:=HT2.out _ e;rw[HT1.out]at this;cases this
  have hne2:(Value.slice ra es.length rc).ownBlock≠some fb:=fun e=>by
   have h1:=HT2.out _ e
   have h2:=HNW2.out _ (by have:=HU2.out.size;have:=hlt HB2.out.fct;omega) HNF.out
   rw[h2]at h1;cases h1
  have hne3:(Value.slice ra es.length rc).ownBlock≠some p:=fun e=>by have:=HT2.out _ e;rw[HLE2.out _ _ HS.out.tag]at this;cases this
  have HKE:=Lib.hid hkeep
  have hE9:w'.heap[pe]?=_:=(hkeep pe (hlt HE8.out) hne1).trans HE8.out
  have HE9:=Lib.hid hE9
  have hS10:Hid (w'.cell? ⟨pe,5,none⟩=some (.slice ra es.length rc)/\w'.heap[fb]?=some (.cells f.cells 50 (0,0))):=Lib.hid ⟨rowcell hE9,(hkeep fb (hlt HC8.out.fct) hne2).trans HC8.out.fct⟩
  have HST9:Hid (w'.heap[p]?=some (.cells PP 107 (0,0))):=Lib.hid ((hkeep p (hlt HC8.out.sto) hne3).trans HC8.out.sto)
  refine hK _ _ hS10.out ?_
  clear hK K hrow9 hg hr' hob hkeep hne1 hne2 hne3 hE9
  obtain⟨va,vc,rfl⟩:=HR'.out.shape
  simp only[Act.put,List.setIfInBounds_toArray,List.set_cons_zero,List.set_cons_succ]
  refine wpMix_step (fun K hK=>?_);go_simp;refine hK _ _ hS10.out ?_;clear hK K
  refine wpMix_step (fun K hK=>?_);go_simp;refine hK _ _ hS10.out ?_;clear hK K
  have hc2:=hS10.out.1
  have hf2:w'.frozen? ⟨pe,5,none⟩=false:=rowfree HE9.out
  refine wpMix_last (fun K hK=>?_)
  go_simp
  refine hK _ _ ?_
  clear hK K hc2 hf2
  refine wpMix_nil ?_
  generalize hW9:World.setCell w' _ _=W9
  refine bodyPost_end (results_none rfl _ _ _) rfl ?_
  have hne:es++[f]≠[]:=by simp
  obtain⟨hrow1,hrow2⟩:=HR'.out
  rcases hrow2 with ⟨_,hz⟩ | ⟨g,cap,cur,hv,hBg,hgg,hrest⟩
  ·simp at hz
  injection hv with hv1 hv2 hv3
  subst hv1 hv3
  have hgs:own2 g=some (.rrow f.f.story f.f.lang)\/wc.heap.size<=g:=by
   rcases HOB.out with e | e
   ·exact .inl (HT2.out g e.symm)
   ·right
    injection e with e
    rw[World.size_alloc]at e
    have h8:=HZ8.out
    change g=W8.heap.size+1 at e
    omega
  have hl3:=put_row HOK2.out hgs
  have hs2:W2.heap.size<=wc.heap.size:=HU.out.size
  have hn3:=put_row_new HNW2.out hs2 hgs
  have hgp:g≠pe:=fun e=>by
   rcases hgs with h | h
   ·rw[e,HT1.out]at h;cases h
   ·have:=(HOK2.out _ _ HT1.out).2;omega
  have hgl:g<w'.heap.size:=hlt hgg
  have hl1:(es++[f]).length=es.length+1:=by simp
  have HR3:FRow w' B (.slice (some ⟨g,0,none⟩) (es.length+1) vc) (es++[f]):=by have:=HR'.out;rwa [hl1]at this
  have HBw:Below w.heap.size w W1:=by rw[hfbn];exact HB1.out
  have hsz9:W9.heap.size=w'.heap.size:=by rw[<-hW9];simp[World.setCell]
  have hsw:wc.heap.size<=w'.heap.size:=by
   have h1:=HG.out.size
   rw[World.size_alloc]at h1
   change W8.heap.size+1<=_ at h1
   have:=HZ8.out
   omega
  have hok3:(own2.put g (.rrow f.f.story f.f.lang)).Ok B W9:=(HOK2.out.mono (by rw[hsz9];exact hsw)).put hBg (by rw[hsz9];exact hgl) _
  have hu9:Upd (Wr own1 (RevX f.f.story f.f.lang)) W2 W9:=by
   rw[<-hW9]
   refine Upd.setCell (((HU8.out.drew).alloc _).grown HG.out (fun k hk=>wr_of HLE2.out HNW2.out (HT2.out k hk) (.inr (.inr (.inr rfl))))) (p:=⟨pe,5,none⟩) ?_ _
   exact wr_of HLE2.out HNW2.out HT1.out (.inr (.inr (.inl rfl)))
  have hse:∀ k,k≠pe->W9.heap[k]?=w'.heap[k]?:=fun k hk=>by rw[<-hW9];exact Below.heap_setCell _ _ _ _ hk
  have hemt:=HLE2.out _ _ a5
  have hem1:em≠pe:=Own.ne hemt HT1.out (by simp)
  have heml:=(HOK2.out _ _ hemt).2
  have hem9:W9.heap[em]?=wc.heap[em]?:=(hse em hem1).trans ((HKE.out em (by rw[HZ8.out];exact heml) (fun e=>by have:=HT2.out _ e;rw[hemt]at this;cases this)).trans (HK8.out em hem1))
  have hed:EdIn (own2.put g (.rrow f.f.story f.f.lang)) mem B W9 f.f.story (N+2) (reEd f.f e0) pe:=by
   refine⟨by show _=some (Tag.edn f.f.story e0.lang);rw[HLANG.out];exact hl3 _ _ HT1.out,⟨?_,?_,HFO.out.fok.s7,HFO.out.fok.i0⟩,?_,.slice (some ⟨g,0,none⟩) (es.length+1) vc,es++[f],?_,?_,?_,?_,?_⟩
   ·show e0.lang.size<=maxLen;rw[HLANG.out];exact HFO.out.fok.s4
   ·show okI (max e0.rev f.f.rev)
    have h1:=HREV.out
    have h2:=HFO.out.fok.i5
    unfold okI at *
    omega
   ·show (e0.revs++[f.f]).length<=N+2
    rw[List.length_append,List.length_singleton]
    have:=HLEN.out
    omega
   ·have:=blk_set (j:=5) (u:=.slice (some ⟨g,0,none⟩) (es.length+1) vc) HE9.out
    rw[hW9]at this
    rw[this]
    show some (Obj.cells #[.string e0.lang,.int .i64 (if e0.rev<f.f.rev then f.f.rev else e0.rev),.string f.f.title,.slice none 0 0,.int .i64 f.f.n,_] _ (0,0))=some (Obj.cells #[.string e0.lang,.int .i64 (max e0.rev f.f.rev),.string f.f.title,.slice none 0 0,.int .i64 f.f.n,_] _ (0,0))
    rw[max_if]
   ·exact HR3.same fun k hk=>by
     injection hk with hk
     subst hk
     exact hse _ hgp
   ·intro k hk
    injection hk with hk
    subst hk
    show _=some (Tag.rrow f.f.story e0.lang)
    rw[HLANG.out]
    exact Own.put_same _ _ _
   ·rw[List.map_append,HES.out];rfl
   ·intro x hx
    rcases List.mem_append.1 hx with hx | hx
    ·exact HOKS.out x hx
    ·rw[List.mem_singleton.1 hx];exact HFO.out
  have hem:=HFIN.out _ W9 hl3 hu9 hem9 hed
  have hle3:=HLE2.out.trans hl3
  have hstp:W9.heap[p]?=some (.cells (stoCells f.f.story (Mg.stepG (G f.f.story) f.f) f.tv cv em cm) 107 (0,0)):=by
   rw[hse p HN2.out,HST9.out,HPP.out,step_rev HK.out]
  have hst:=st_rev HFO.out.fok HK.out H2.out.ok hle3 hu9 (Nat.le_succ (N+1)) HS.out hstp HFO.out.parts.1 HA3.out HA4.out hem HA10.out
  rw[<-HP.out]at hst
  refine⟨rfl,_,ps1,HLE.out.trans hle3,?_,(H2.out.story hle3 hok3 (fun t ht=>ht.of) hu9 (Nat.le_succ (N+1)) HFO.out.fok.i3 (.inr rfl) hst).congr (fun _=>Iff.rfl) (fun i=>?_) (fun _=>rfl),?_⟩
  ·exact Own.New.trans (w:=w) (w':=W2) (fun j hj e=>HNW.out j (Nat.lt_of_lt_of_le hj HBw.size) e) hn3 (Nat.le_trans HBw.size HU2.out.size)
  ·by_cases e:i=f.f.story
   ·rw[if_pos e,if_pos e,e]
   ·rw[if_neg e,if_neg e]
  ·exact upd_two (own1:=own1) (w1:=W2) (((Upd.refl _ w).bel HBw).trans HU2.out (fun k hk=>.inl (Wr.mono (fun _ h=>h) hk))) (fun k hk=>.inl (Wr.mono (fun _ _=>trivial) hk)) (fun j hj e=>HNW.out j (Nat.lt_of_lt_of_le hj HBw.size) e) hu9
 case first=>
  rcases HCS.out with ⟨rfl,hg0,hin⟩ | ⟨rfl,pe,x,hx,hxl,hge,hed⟩
  ·have hrv:r=.pointer none:=by rw[<-HR.out,hg0];rfl
   subst hrv
   have HIN:=Lib.hid hin
   clear hg0 hin
   go_upto_region 7 with fail
   obtain⟨W6,hW6⟩:∃ W6,W6=W5.alloc (.cells #[.string ⟨#[]⟩,.int .i64 0,.string ⟨#[]⟩,.slice none 0 0,.int .i64 0,.slice none 0 0] 138):=⟨_,rfl⟩
   rw[<-hW6]
   have hb6:Below W5.heap.size W5 W6:=by rw[hW6];exact bel1 _ _
   have hE6:W6.heap[W5.heap.size]?=some (.cells #[.string ⟨#[]⟩,.int .i64 0,.string ⟨#[]⟩,.slice none 0 0,.int .i64 0,.slice none 0 0] 138 (0,0)):=by rw[hW6];exact World.alloc_heap_new _ _
   have HC6:Hid (RevB W6 p fb PP f):=Lib.hid ⟨(hb6.block _ (hlt HB5.out.sto)).trans HB5.out.sto,(hb6.block _ (hlt HB5.out.fct)).trans HB5.out.fct⟩
   have HU6:Hid (Upd (Wr own1 (RevX f.f.story f.f.lang)) W2 W6):=Lib.hid (HU5.out.bel hb6)
   have HZ6:Hid (W6.heap.size=W5.heap.size+1):=Lib.hid (by rw[hW6];simp)
   have hpp:p≠W5.heap.size:=by have:=hlt HB5.out.sto;omega
   have hfp:fb≠W5.heap.size:=by have:=hlt HB5.out.fct;omega
   have HPP2:=Lib.hid hpp
   have HFP:=Lib.hid hfp
   have HE6:=Lib.hid hE6
   have HK6:Hid (∀ k,k<W5.heap.size->W6.heap[k]?=W5.heap[k]?):=Lib.hid (fun k hk=>hb6.block k hk)
   have z0:W6.frozen? ⟨W5.heap.size,0,none⟩=false:=rowfree hE6
   have c0:W6.cell? ⟨W5.heap.size,0,none⟩=some (.string ⟨#[]⟩):=rowcell hE6
   have c4:W6.cell? ⟨fb,4,none⟩=some (.string f.f.lang):=rowcell HC6.out.fct
   generalize hcur:W5.heap.size=pe at *
   clear hW6 hb6 hE6 hpp hfp
   go_upto_region 8 with fail
   obtain⟨W7,hW7⟩:∃ W7,W7=W6.setCell ⟨pe,0,none⟩ (.string f.f.lang):=⟨_,rfl⟩
   first
   |rw[<-hW7]
   |(rw[max_ite e0.rev f.f.rev];rw[<-hW7])
   have HC7:Hid (RevB W7 p fb PP f):=Lib.hid (by rw[hW7];exact⟨(Below.heap_setCell _ _ _ _ HPP2.out).trans HC6.out.sto,(Below.heap_setCell _ _ _ _ HFP.out).trans HC6.out.fct⟩)
   have HE7:Hid (W7.heap[pe]?=some (.cells #[.string f.f.lang,.int .i64 0,.string ⟨#[]⟩,.slice none 0 0,.int .i64 0,.slice none 0 0] 138 (0,0))):=Lib.hid (by rw[hW7];exact blk_set HE6.out)
   have z1:W7.frozen? ⟨pe,1,none⟩=false:=rowfree HE7.out
   have c1:W7.cell? ⟨pe,1,none⟩=some (.int .i64 0):=rowcell HE7.out
   have c5:W7.cell? ⟨fb,5,none⟩=some (.int .i64 f.f.rev):=rowcell HC7.out.fct
   have HW7:=Lib.hid hW7
   clear z0 c0 c4 hW7
   go_upto_region 9 with fail
   obtain⟨W8,hW8⟩:∃ W8,W8=W7.setCell ⟨pe,1,none⟩ (.int .i64 f.f.rev):=⟨_,rfl⟩
   rw[<-hW8]
   have HC8:Hid (RevB W8 p fb PP f):=Lib.hid (by rw[hW8];exact⟨(Below.heap_setCell _ _ _ _ HPP2.out).trans HC7.out.sto,(Below.heap_setCell _ _ _ _ HFP.out).trans HC7.out.fct⟩)
   have HE8:Hid (W8.heap[pe]?=some (.cells #[.string f.f.lang,.int .i64 f.f.rev,.string ⟨#[]⟩,.slice none 0 0,.int .i64 0,.slice none 0 0] 138 (0,0))):=Lib.hid (by rw[hW8];exact blk_set HE7.out)
   have HK8:Hid (∀ k,k≠pe->W8.heap[k]?=W6.heap[k]?):=Lib.hid (fun k hk=>by rw[hW8,HW7.out];exact(Below.heap_setCell _ _ _ _ hk).trans (Below.heap_setCell _ _ _ _ hk))
   have hsz8:W8.heap.size=W6.heap.size:=by rw[hW8,HW7.out];simp[World.setCell]
   have HZ8:=Lib.hid hsz8
   have HU8:Hid (Upd (Wr own1 (RevX f.f.story f.f.lang)) W2 W8):=Lib.hid (by
    rw[hW8,HW7.out]
    exact(HU6.out.setCell (.inr HZ5.out) _).setCell (.inr HZ5.out) _)
   have heml:=(H2.out.ok _ _ a5).2
   have hem8:W8.heap[em]?=W2.heap[em]?:=by
    have h5:em<pe:=by have h9:=HZ5.out;omega
    exact(HK8.out em (by omega)).trans ((HK6.out em h5).trans (HE5.out em HEP.out))
   have hk8:KMap Tryz.prog 9 W8.drew em n ge:=(HA7.out.of_block hem8).drew
   obtain⟨W9,hr9,hk9,hg9⟩:=hk8.store K_str Tryz.underlying104 (by unfold maxLen;omega) (key_str HFO.out.fok.s4) (.pointer (some ⟨pe,0,none⟩))
   have HK9:=Lib.hid hk9
   have HG9:=Lib.hid hg9
   have c9:W8.cell? ⟨p,9,none⟩=some (.map (some em)):=by have:=rowcell (j:=9) HC8.out.sto;rw[HPP.out]at this;exact this
   have c4:W8.cell? ⟨fb,4,none⟩=some (.string f.f.lang):=rowcell HC8.out.fct
   clear hW8 z1 c1 c5 hsz8 heml hem8 hk8 hk9 hg9
   go_still_tail 7,(by kernel_rfl)
   go_wp2_with fail
   go_meet
   case rel=>
    have hpe2:W2.heap.size<=pe:=HZ5.out
    have hl:=Own.put_le H2.out.ok hpe2 (.edn f.f.story f.f.lang)
    have hsz:W8.heap.size<=W9.heap.size:=HG9.out.size
    have hpl:pe<W9.heap.size:=Nat.lt_of_lt_of_le (hlt HE8.out) hsz
    have hBp:B<=pe:=by have:=(H2.out.ok _ _ a5).1;have:=(H2.out.ok _ _ a5).2;omega
    have hk:∀ k,k<W8.heap.size->k≠em->W9.heap[k]?=W8.heap[k]?:=fun k hk hne=>HG9.out.block k hk (fun e=>hne (by injection e))
    have heml:=(H2.out.ok _ _ a5).2
    have hfe:fb≠em:=fun e=>by have:=HNF.out;rw[e,a5]at this;cases this
    refine⟨pe,own1.put pe (.edn f.f.story f.f.lang),⟨f.f.lang,f.f.rev,str0,0,[]⟩,.slice none 0 0,[],rfl,hl,Own.put_new hpe2 _,(H2.out.ok.mono (Nat.le_trans HU8.out.size hsz)).put hBp hpl _,(HU8.out.drew).grown HG9.out (fun k e=>.inl (by cases e;exact⟨_,a5,.inr (.inl rfl)⟩)),⟨(hk p (hlt HC8.out.sto) (Ne.symm HEP.out)).trans HC8.out.sto,(hk fb (hlt HC8.out.fct) hfe).trans HC8.out.fct⟩,(hk pe (hlt HE8.out) (by omega)).trans HE8.out,FRow.nil _ _,Own.put_same _ _ _,(by intro k hk;cases hk),rfl,(by intro x hx;cases hx),rfl,HFO.out.fok.i5,Nat.zero_le _,fun own3 We hl3 hu hem hnew=>?_⟩
    have hre:reEd f.f ⟨f.f.lang,f.f.rev,str0,0,[]⟩=newEd f.f:=by
     unfold reEd newEd
     simp
    rw[hre]at hnew
    exact em_new H2.out.ok (hl.trans hl3) hu (Nat.le_refl _) a5 a6 (HK9.out.of_block hem) HA8.out HA9.out HS.out.apart HIN.out hnew
  ·have hrv:r=.pointer (some ⟨pe,0,none⟩):=by rw[<-HR.out,hge];rfl
   subst hrv
   obtain⟨t1,ok,ln,rv,es,q1,q2,q3,q4,q5⟩:=hed
   have hpe:pe≠p:=Own.ne t1 HS.out.tag (by simp)
   have HREL:Hid (RevCut own1 mem B N W2 f (G f.f.story) p fb em PP (.pointer (some ⟨pe,0,none⟩)) W5):=Lib.hid (by
    refine⟨pe,own1,x,rv,es,rfl,Own.le_refl _,Own.new_refl _ _,H2.out.ok.mono HZ5.out,HU5.out,HB5.out,(HE5.out pe hpe).trans q1,q2.same (fun k hk=>HE5.out k (Own.ne (q3 k hk) HS.out.tag (by simp))),by rw[<-hxl];exact t1,fun k hk=>by rw[<-hxl];exact q3 k hk,q4,q5,hxl,ok.i1,ln,fun own3 We hl hu hem hnew=>?_⟩
    exact em_re H2.out.ok hl hu (Nat.le_succ (N+1)) a5 a6 (HA7.out.of_block (hem.trans (HE5.out em HEP.out))) HA8.out HA9.out HS.out.apart hx hxl hge hnew)
   clear hx hxl hge t1 ok ln q1 q2 q3 q4 q5 hpe
   go_wp2_with fail
   go_meet
   case rel=>exact HREL.out
end
def StoX (id:Int) (t:Tag):Prop:=t=.story id
theorem StoX.of {id:Int} {t:Tag} (h:StoX id t):t.of=some id:=by rw[h];rfl
section
variable {own own1:Own} {mem:Addr->Option Value} {B N:Nat} {w W1 W2 W3:World} {sb:Nat} {ps1:Int->Nat} {T:Int->Prop} {G:Int->StG} {L:ByteArray->Option ByteArray} {f:Fct}
theorem st_simple (ho:own1.Ok B W2) (hu:Upd (Wr own1 (StoX f.story)) W2 W3) {g g':StG} {p:Nat} (h:StIn own1 mem B W2 f.story (N+1) g p) {tv cv:Value} {em cm:Nat} (a1:W2.heap[p]?=some (.cells (stoCells f.story g tv cv em cm) 107 (0,0)))
 (a3:W3.heap[p]?=some (.cells (stoCells f.story g' tv cv em cm) 107 (0,0))) (e1:g'.topics=g.topics) (e2:g'.corr=g.corr) (e3:g'.eds=g.eds) (h1:g'.author.size<=maxLen) (h2:okI (g'.pub.getD 0)):StIn own1 mem B W3 f.story (N+2) g' p:=by
 obtain⟨tv',cv',em',cm',b1,b2,b3,b4,b5,b6⟩:=h.at_
 rw[a1]at b1
 have q:=b1
 simp only[Option.some.injEq,Obj.cells.injEq,Array.mk.injEq,List.cons.injEq,Value.map.injEq]at q
 obtain⟨⟨_,_,q2,_,_,q5,_,_,_,q9,q10,_⟩,_⟩:=q
 subst q2 q5 q9 q10
 refine⟨h.tag,h.sid,h1,h2,by rw[e2];exact h.cok,by rw[e2];exact Nat.le_succ_of_le h.clen,by unfold Apart;rw[e3];exact h.apart,tv,cv,em,cm,a3,by rw[e1];exact b2,by rw[e2];exact b3.same fun k hk=>keep_blk ho hu (b4 k hk) (by intro q;cases q),b4,by rw[e3];exact b5.keep ho (Own.le_refl _) hu (Nat.le_succ _) (by intro q;cases q) (by intro _ q;cases q) (by intro _ q;cases q),by rw[e2];exact b6.keep ho (Own.le_refl _) hu (Nat.le_succ _) (by intro q;cases q) (by intro _ q;cases q)⟩
theorem eff_simple (hB1:Below w.heap.size w W1) (hle:own.Le own1) (hnw:own.New own1 W1) (h2:FoldIn own1 mem B W2 sb (N+1) ps1 (fun i=>T i\/i=f.story) G L) (hu2:Upd (Wr own (fun t=>t=.smap)) W1 W2) (hid:okI f.story)
 (hu:Upd (Wr own1 (StoX f.story)) W2 W3) (hst:StIn own1 mem B W3 f.story (N+2) (Mg.stepG (G f.story) f) (ps1 f.story)):EffPost own mem B w sb N T G L f (.returned (.tuple #[])) W3:=by
 have hnw':own.New own1 w:=fun j hj e=>hnw j (Nat.lt_of_lt_of_le hj hB1.size) e
 refine⟨rfl,own1,ps1,hle,hnw',(h2.story (Own.le_refl _) (h2.ok.mono hu.size) (fun t ht=>ht.of) hu (Nat.le_succ (N+1)) hid (.inr rfl) hst).congr (fun _=>Iff.rfl) (fun i=>?_) (fun _=>rfl),?_⟩
 ·by_cases e:i=f.story
  ·rw[if_pos e,if_pos e,e]
  ·rw[if_neg e,if_neg e]
 ·exact upd_two (own1:=own1) (w1:=W2) (((Upd.refl _ w).bel hB1).trans hu2 (fun k hk=>.inl (Wr.mono (fun _ h=>h) hk))) (fun k hk=>.inl (Wr.mono (fun _ _=>trivial) hk)) hnw' hu
end
section
variable {own:Own} {mem:Addr->Option Value} {B N:Nat} {w:World} {sb:Nat} {ps:Int->Nat} {T:Int->Prop} {G:Int->StG} {L:ByteArray->Option ByteArray}
set_option maxRecDepth 100000 in
set_option maxHeartbeats 4000000 in
theorem retract_any (h:FoldIn own mem B w sb N ps T G L) (f:FctE) (hf:f.ok mem) (hk:f.f.kind=5) (hN:N<=50000):
 Calls Tryz.prog 73 #[.pointer (some ⟨sb,0,none⟩),.agg f.cells] w (EffPost own mem B w sb N T G L f.f):=by
 obtain⟨W1,hW1⟩:∃ W1,W1=w.alloc (.cells f.cells 50):=⟨_,rfl⟩
 have hb1:Below w.heap.size w W1:=by rw[hW1];exact bel1 w _
 have h1:=h.keep hb1 (Nat.le_refl N)
 have hF1:W1.heap[w.heap.size]?=some (.cells f.cells 50 (0,0)):=by rw[hW1];exact World.alloc_heap_new w _
 have cOf:=Lib.hid (of_any h1 f hf.fok.i3 (by omega))
 have HW1:=Lib.hid hW1
 have HF1:=Lib.hid hF1
 have HB1:=Lib.hid hb1
 have H:=Lib.hid h
 have HK:=Lib.hid hk
 have HFO:=Lib.hid hf
 clear hW1 hF1 hb1 h1 h hk hf
 rw[FctE.cells_eq]
 rw[FctE.cells_eq]at HW1 HF1 cOf
 go_enter Tryz.func73,Tryz.ntmps73
 go_upto_region 1 with fail
 rw[<-HW1.out]
 go_wp2_with (first|((with_reducible refine at_fload _ rfl ?_);refine wpList_fct_load rfl _ rfl w.heap.size rfl _ HF1.out rfl ?_))
 refine cOf.out.mono ?_
 rintro e W2 ⟨own1,ps1,rfl,hle1,hnw1,h2,hu2⟩
 have hnf:own w.heap.size=none:=by
  cases ho:own w.heap.size with
  |none=>rfl
  |some t=>have:=(H.out.ok _ _ ho).2;omega
 have hfb:W2.heap[w.heap.size]?=some (.cells (fctCells f.f f.tv f.bv f.av) 50 (0,0)):=(hu2.block _ (hlt HF1.out) (fun ⟨t,ht,_⟩=>by rw[hnf]at ht;cases ht)).trans HF1.out
 have hnf1:own1 w.heap.size=none:=hnw1 _ (hlt HF1.out) hnf
 have hS:=h2.st HFO.out.fok.i3 (.inr rfl)
 generalize hp:ps1 f.f.story=p at *
 have hpf:w.heap.size≠p:=fun e=>by rw[e,hS.tag]at hnf1;cases hnf1
 obtain⟨tv,cv,em,cm,a1,_⟩:=hS.at_
 have HP:=Lib.hid hp
 have HS:=Lib.hid hS
 have H2:=Lib.hid h2
 have HU2:=Lib.hid hu2
 have HNW:=Lib.hid hnw1
 have HLE:=Lib.hid hle1
 have HA1:=Lib.hid a1
 have HFB:=Lib.hid hfb
 have HPF:=Lib.hid hpf
 have HE:Hid (∀ W3,Upd (Wr own1 (StoX f.f.story)) W2 W3->StIn own1 mem B W3 f.f.story (N+2) (Mg.stepG (G f.f.story) f.f) p->EffPost own mem B w sb N T G L f.f (.returned (.tuple #[])) W3):=Lib.hid (fun W3 hu hst=>eff_simple HB1.out HLE.out HNW.out H2.out HU2.out HFO.out.fok.i3 hu (by rw[HP.out];exact hst))
 have c0:W2.cell? ⟨p,6,none⟩=some (.bool (G f.f.story).retr):=rowcell a1
 have z0:W2.frozen? ⟨p,6,none⟩=false:=rowfree a1
 clear hnf hfb hnf1 hS hp hpf a1 h2 hu2 hnw1 hle1 cOf HF1
 go_wp2_with fail
 refine bodyPost_end (results_none rfl _ _ _) rfl ?_
 have hu3:Upd (Wr own1 (StoX f.f.story)) W2 (W2.setCell ⟨p,6,none⟩ (.bool true)):=(Upd.refl _ _).setCell (.inl ⟨_,HS.out.tag,rfl⟩) _
 have hs3:Mg.stepG (G f.f.story) f.f={ G f.f.story with retr:=true }:=by
  unfold Mg.stepG
  rw[if_neg (by rw[HK.out];decide),if_neg (by rw[HK.out];decide),if_neg (by rw[HK.out];decide),if_pos HK.out]
 refine HE.out _ hu3 ?_
 rw[hs3]
 exact st_simple H2.out.ok hu3 HS.out HA1.out (blk_set HA1.out) rfl rfl rfl HS.out.aut HS.out.pub
set_option maxRecDepth 100000 in
set_option maxHeartbeats 4000000 in
theorem takeDown_any (h:FoldIn own mem B w sb N ps T G L) (f:FctE) (hf:f.ok mem) (hk:f.f.kind=6) (hN:N<=50000):
 Calls Tryz.prog 74 #[.pointer (some ⟨sb,0,none⟩),.agg f.cells] w (EffPost own mem B w sb N T G L f.f):=by
 obtain⟨W1,hW1⟩:∃ W1,W1=w.alloc (.cells f.cells 50):=⟨_,rfl⟩
 have hb1:Below w.heap.size w W1:=by rw[hW1];exact bel1 w _
 have h1:=h.keep hb1 (Nat.le_refl N)
 have hF1:W1.heap[w.heap.size]?=some (.cells f.cells 50 (0,0)):=by rw[hW1];exact World.alloc_heap_new w _
 have cOf:=Lib.hid (of_any h1 f hf.fok.i3 (by omega))
 have HW1:=Lib.hid hW1
 have HF1:=Lib.hid hF1
 have HB1:=Lib.hid hb1
 have H:=Lib.hid h
 have HK:=Lib.hid hk
 have HFO:=Lib.hid hf
 clear hW1 hF1 hb1 h1 h hk hf
 rw[FctE.cells_eq]
 rw[FctE.cells_eq]at HW1 HF1 cOf
 go_enter Tryz.func74,Tryz.ntmps74
 go_upto_region 1 with fail
 rw[<-HW1.out]
 go_wp2_with (first|((with_reducible refine at_fload _ rfl ?_);refine wpList_fct_load rfl _ rfl w.heap.size rfl _ HF1.out rfl ?_))
 refine cOf.out.mono ?_
 rintro e W2 ⟨own1,ps1,rfl,hle1,hnw1,h2,hu2⟩
 have hnf:own w.heap.size=none:=by
  cases ho:own w.heap.size with
  |none=>rfl
  |some t=>have:=(H.out.ok _ _ ho).2;omega
 have hfb:W2.heap[w.heap.size]?=some (.cells (fctCells f.f f.tv f.bv f.av) 50 (0,0)):=(hu2.block _ (hlt HF1.out) (fun ⟨t,ht,_⟩=>by rw[hnf]at ht;cases ht)).trans HF1.out
 have hnf1:own1 w.heap.size=none:=hnw1 _ (hlt HF1.out) hnf
 have hS:=h2.st HFO.out.fok.i3 (.inr rfl)
 generalize hp:ps1 f.f.story=p at *
 have hpf:w.heap.size≠p:=fun e=>by rw[e,hS.tag]at hnf1;cases hnf1
 obtain⟨tv,cv,em,cm,a1,_⟩:=hS.at_
 have HP:=Lib.hid hp
 have HS:=Lib.hid hS
 have H2:=Lib.hid h2
 have HU2:=Lib.hid hu2
 have HNW:=Lib.hid hnw1
 have HLE:=Lib.hid hle1
 have HA1:=Lib.hid a1
 have HFB:=Lib.hid hfb
 have HPF:=Lib.hid hpf
 have HE:Hid (∀ W3,Upd (Wr own1 (StoX f.f.story)) W2 W3->StIn own1 mem B W3 f.f.story (N+2) (Mg.stepG (G f.f.story) f.f) p->EffPost own mem B w sb N T G L f.f (.returned (.tuple #[])) W3):=Lib.hid (fun W3 hu hst=>eff_simple HB1.out HLE.out HNW.out H2.out HU2.out HFO.out.fok.i3 hu (by rw[HP.out];exact hst))
 have c0:W2.cell? ⟨p,7,none⟩=some (.bool (G f.f.story).taken):=rowcell a1
 have z0:W2.frozen? ⟨p,7,none⟩=false:=rowfree a1
 clear hnf hfb hnf1 hS hp hpf a1 h2 hu2 hnw1 hle1 cOf HF1
 go_wp2_with fail
 refine bodyPost_end (results_none rfl _ _ _) rfl ?_
 have hu3:Upd (Wr own1 (StoX f.f.story)) W2 (W2.setCell ⟨p,7,none⟩ (.bool true)):=(Upd.refl _ _).setCell (.inl ⟨_,HS.out.tag,rfl⟩) _
 have hs3:Mg.stepG (G f.f.story) f.f={ G f.f.story with taken:=true }:=by
  unfold Mg.stepG
  rw[if_neg (by rw[HK.out];decide),if_neg (by rw[HK.out];decide),if_neg (by rw[HK.out];decide),if_neg (by rw[HK.out];decide),if_pos HK.out]
 refine HE.out _ hu3 ?_
 rw[hs3]
 exact st_simple H2.out.ok hu3 HS.out HA1.out (blk_set HA1.out) rfl rfl rfl HS.out.aut HS.out.pub
set_option maxRecDepth 100000 in
set_option maxHeartbeats 4000000 in
theorem publish_any (h:FoldIn own mem B w sb N ps T G L) (f:FctE) (hf:f.ok mem) (hk:f.f.kind=3) (hN:N<=50000):
 Calls Tryz.prog 71 #[.pointer (some ⟨sb,0,none⟩),.agg f.cells] w (EffPost own mem B w sb N T G L f.f):=by
 obtain⟨W1,hW1⟩:∃ W1,W1=w.alloc (.cells f.cells 50):=⟨_,rfl⟩
 have hb1:Below w.heap.size w W1:=by rw[hW1];exact bel1 w _
 have h1:=h.keep hb1 (Nat.le_refl N)
 have hF1:W1.heap[w.heap.size]?=some (.cells f.cells 50 (0,0)):=by rw[hW1];exact World.alloc_heap_new w _
 have cOf:=Lib.hid (of_any h1 f hf.fok.i3 (by omega))
 have HW1:=Lib.hid hW1
 have HF1:=Lib.hid hF1
 have HB1:=Lib.hid hb1
 have H:=Lib.hid h
 have HK:=Lib.hid hk
 have HFO:=Lib.hid hf
 clear hW1 hF1 hb1 h1 h hk hf
 rw[FctE.cells_eq]
 rw[FctE.cells_eq]at HW1 HF1 cOf
 go_enter Tryz.func71,Tryz.ntmps71
 go_upto_region 1 with fail
 rw[<-HW1.out]
 go_wp2_with (first|((with_reducible refine at_fload _ rfl ?_);refine wpList_fct_load rfl _ rfl w.heap.size rfl _ HF1.out rfl ?_))
 refine cOf.out.mono ?_
 rintro e W2 ⟨own1,ps1,rfl,hle1,hnw1,h2,hu2⟩
 have hnf:own w.heap.size=none:=by
  cases ho:own w.heap.size with
  |none=>rfl
  |some t=>have:=(H.out.ok _ _ ho).2;omega
 have hfb:W2.heap[w.heap.size]?=some (.cells (fctCells f.f f.tv f.bv f.av) 50 (0,0)):=(hu2.block _ (hlt HF1.out) (fun ⟨t,ht,_⟩=>by rw[hnf]at ht;cases ht)).trans HF1.out
 have hnf1:own1 w.heap.size=none:=hnw1 _ (hlt HF1.out) hnf
 have hS:=h2.st HFO.out.fok.i3 (.inr rfl)
 generalize hp:ps1 f.f.story=p at *
 have hpf:w.heap.size≠p:=fun e=>by rw[e,hS.tag]at hnf1;cases hnf1
 obtain⟨tv,cv,em,cm,a1,_⟩:=hS.at_
 have HP:=Lib.hid hp
 have HS:=Lib.hid hS
 have H2:=Lib.hid h2
 have HU2:=Lib.hid hu2
 have HNW:=Lib.hid hnw1
 have HLE:=Lib.hid hle1
 have HA1:=Lib.hid a1
 have HFB:=Lib.hid hfb
 have HPF:=Lib.hid hpf
 have HE:Hid (∀ W3,Upd (Wr own1 (StoX f.f.story)) W2 W3->StIn own1 mem B W3 f.f.story (N+2) (Mg.stepG (G f.f.story) f.f) p->EffPost own mem B w sb N T G L f.f (.returned (.tuple #[])) W3):=Lib.hid (fun W3 hu hst=>eff_simple HB1.out HLE.out HNW.out H2.out HU2.out HFO.out.fok.i3 hu (by rw[HP.out];exact hst))
 have c0:W2.cell? ⟨p,8,none⟩=some (.bool (G f.f.story).pub.isSome):=rowcell a1
 have z0:W2.frozen? ⟨p,8,none⟩=false:=rowfree a1
 clear hnf hnf1 hS hp hpf a1 h2 hu2 hnw1 hle1 cOf HF1
 cases hpub:(G f.f.story).pub with
 |some n0=>
  have hs3:Mg.stepG (G f.f.story) f.f=G f.f.story:=by
   unfold Mg.stepG
   rw[if_neg (by rw[HK.out];decide),if_pos HK.out,hpub]
  have HS3:=Lib.hid hs3
  rw[hpub]at c0
  clear hs3 hpub z0 hfb
  go_wp2_with fail
  refine bodyPost_end (results_none rfl _ _ _) rfl ?_
  refine HE.out _ (Upd.refl _ _) ?_
  rw[HS3.out]
  exact HS.out.keep (X:=fun _=>False) H2.out.ok (Own.le_refl _) (Upd.refl _ _) (Nat.le_succ _) (fun _ _=>id)
 |none=>
  have hs3:Mg.stepG (G f.f.story) f.f={ G f.f.story with pub:=some f.f.n }:=by
   unfold Mg.stepG
   rw[if_neg (by rw[HK.out];decide),if_pos HK.out,hpub]
  have HS3:=Lib.hid hs3
  have HPB:=Lib.hid hpub
  rw[hpub]at c0
  clear hs3 hpub hfb
  go_upto_region 4 with fail
  obtain⟨W3,hW3⟩:∃ W3,W3=W2.setCell ⟨p,8,none⟩ (.bool true):=⟨_,rfl⟩
  rw[<-hW3]
  have HA3:=Lib.hid (blk_set (j:=8) (u:=.bool true) HA1.out)
  rw[<-hW3]at HA3
  have hu3:Upd (Wr own1 (StoX f.f.story)) W2 W3:=by rw[hW3];exact(Upd.refl _ _).setCell (.inl ⟨_,HS.out.tag,rfl⟩) _
  have HU3:=Lib.hid hu3
  have c4:W3.cell? ⟨p,4,none⟩=some (.int .i64 ((G f.f.story).pub.getD 0)):=rowcell HA3.out
  have z4:W3.frozen? ⟨p,4,none⟩=false:=rowfree HA3.out
  have hF3:W3.heap[w.heap.size]?=some (.cells (fctCells f.f f.tv f.bv f.av) 50 (0,0)):=by rw[hW3];exact(Below.heap_setCell _ _ _ _ HPF.out).trans HFB.out
  have f0:W3.cell? ⟨w.heap.size,0,none⟩=some (.int .i64 f.f.n):=rowcell hF3
  clear hW3 hu3 c0 z0 hF3
  go_wp2_with fail
  refine bodyPost_end (results_none rfl _ _ _) rfl ?_
  have hu4:Upd (Wr own1 (StoX f.f.story)) W2 (W3.setCell ⟨p,4,none⟩ (.int .i64 f.f.n)):=HU3.out.setCell (.inl ⟨_,HS.out.tag,rfl⟩) _
  refine HE.out _ hu4 ?_
  rw[HS3.out]
  exact st_simple H2.out.ok hu4 HS.out HA1.out (blk_set HA3.out) rfl rfl rfl HS.out.aut HFO.out.fok.i0
end
def TplPost (own:Own) (mem:Addr->Option Value) (B:Nat) (w:World) (sb N:Nat) (T:Int->Prop) (G:Int->StG) (L:ByteArray->Option ByteArray) (f:Fct) (e:Ending) (w':World):Prop:=
 e=.returned (.tuple #[])/\∃ own' ps',own.Le own'/\own.New own' w/\FoldIn own' mem B w' sb (N+2) ps' T G (fun n=>if n=f.name then some f.text else L n)/\Upd (Wr own (fun _=>True)) w w'
section
variable {own:Own} {mem:Addr->Option Value} {B N:Nat} {w:World} {sb:Nat} {ps:Int->Nat} {T:Int->Prop} {G:Int->StG} {L:ByteArray->Option ByteArray}
set_option maxRecDepth 100000 in
set_option maxHeartbeats 4000000 in
theorem template_any (h:FoldIn own mem B w sb N ps T G L) (f:FctE) (hf:f.ok mem) (hN:N<=50000):
 Calls Tryz.prog 75 #[.pointer (some ⟨sb,0,none⟩),.agg f.cells] w (TplPost own mem B w sb N T G L f.f):=by
 obtain⟨bS,bT,a1,a2,⟨b1,n,gT,b2,b3,b4⟩⟩:=h.at_
 obtain⟨W1,hW1⟩:∃ W1,W1=w.alloc (.cells f.cells 50):=⟨_,rfl⟩
 have hb1:Below w.heap.size w W1:=by rw[hW1];exact bel1 w _
 have hF1:W1.heap[w.heap.size]?=some (.cells f.cells 50 (0,0)):=by rw[hW1];exact World.alloc_heap_new w _
 have hsb:=hlt a1
 have hbT:=(h.ok _ _ b1).2
 have hA1:W1.heap[sb]?=some (.cells #[.map (some bS),.map (some bT)] 97 (0,0)):=(hb1.block _ hsb).trans a1
 have hk1:KMap Tryz.prog 9 W1.drew bT n gT:=(b3.below hb1 hbT).drew
 obtain⟨W2,hr2,hk2,hg2⟩:=hk1.store K_str Tryz.underlying95 (by unfold maxLen;omega) (key_str hf.fok.s19) (.agg #[.string f.f.name,.string f.f.text])
 have HP:Hid (TplPost own mem B w sb N T G L f.f (.returned (.tuple #[])) W2):=Lib.hid (by
  have hu:Upd (Wr own (fun t=>t=.tmap)) w W2:=(((Upd.refl _ w).bel hb1).drew).grown hg2 (fun k e=>.inl (by cases e;exact⟨_,b1,rfl⟩))
  refine⟨rfl,own,ps,Own.le_refl _,Own.new_refl _ _,⟨h.tag,h.ok.mono hu.size,h.low,fun a u hau=>hu.cell_some (h.see a u hau) (fun hw=>by have:=Wr.ge h.ok hw;have:=h.low a u hau;omega),bS,bT,(keep_blk h.ok hu h.tag (by simp)).trans a1,?_,b1,n+1,_,by omega,hk2,fun name hn=>?_⟩,hu.mono (fun k hk=>.inl (Wr.mono (fun _ _=>trivial) hk))⟩
  ·obtain⟨c1,m,gS,c2,c3,c4,c5⟩:=a2
   refine⟨c1,m,gS,by omega,c3.of_block (keep_blk h.ok hu c1 (by simp)),fun i hi hTi=>?_,c5⟩
   obtain⟨d1,d2⟩:=c4 i hi hTi
   exact⟨d1,d2.keep h.ok (Own.le_refl _) hu (by omega) (fun t ht hx=>by rw[hx]at ht;cases ht)⟩
  ·by_cases e:name=f.f.name
   ·subst e;dsimp only;rw[if_pos rfl,if_pos rfl];rfl
   ·dsimp only
    rw[if_neg (by intro q;injection q with q;exact e q),if_neg e]
    exact b4 name hn)
 have HW1:=Lib.hid hW1
 have k1:W1.cell? ⟨sb,1,none⟩=some (.map (some bT)):=rowcell hA1
 rw[FctE.cells_eq]at hF1 HW1
 have k16:W1.cell? ⟨w.heap.size,19,none⟩=some (.string f.f.name):=rowcell hF1
 have k15:W1.cell? ⟨w.heap.size,18,none⟩=some (.string f.f.text):=rowcell hF1
 clear hW1 hb1 hF1 hA1 hk1 hk2 hg2 a1 a2 b3 b4 hf h
 rw[FctE.cells_eq]
 go_enter Tryz.func75,Tryz.ntmps75
 go_upto_region 1 with fail
 rw[<-HW1.out]
 go_still_tail 11,(by kernel_rfl)
 go_wp2_with fail
 refine bodyPost_end (results_none rfl _ _ _) rfl ?_
 exact HP.out
end
def CorX (id:Int) (lang:ByteArray) (t:Tag):Prop:=t=.story id\/t=.crow id\/t=.cmap id\/t=.lrow id lang\/t=.edn id lang
theorem CorX.of {id:Int} {lang:ByteArray} {t:Tag} (h:CorX id lang t):t.of=some id:=by rcases h with rfl | rfl | rfl | rfl | rfl <;> rfl
def CorX0 (id:Int) (lang:ByteArray) (t:Tag):Prop:=t=.story id\/t=.crow id\/t=.cmap id\/t=.lrow id lang
theorem CorX0.up {id:Int} {lang:ByteArray} (t:Tag) (h:CorX0 id lang t):CorX id lang t:=h.elim .inl fun h=>.inr (h.elim .inl fun h=>.inr (h.elim .inl fun h=>.inr (.inl h)))
theorem step_cor {g:StG} {f:Fct} (hk:f.kind=4):Mg.stepG g f={ g with corr:=g.corr++[corrOf f],eds:=touchEd f g.eds }:=by
 unfold Mg.stepG
 rw[if_neg (by omega),if_neg (by omega),if_pos hk]
theorem corrLang_snoc (lang:ByteArray) (l:List Corr) (c:Corr):corrLang lang (l++[c])=if c.lang=lang then corrLang lang l++[c] else corrLang lang l:=by
 unfold corrLang
 rw[List.filter_append]
 by_cases h:c.lang=lang
 ·rw[if_pos h,List.filter_cons_of_pos (by simpa using h)];rfl
 ·rw[if_neg h,List.filter_cons_of_neg (by simpa using h),List.filter_nil,List.append_nil]
theorem corr_ok {f:Fct} (h:FOK f):CorrOK (corrOf f):=⟨h.s4,h.i16,h.i17,h.s18,h.i0⟩
section
variable {own:Own} {mem:Addr->Option Value} {B N:Nat} {w:World} {sb:Nat} {ps:Int->Nat} {T:Int->Prop} {G:Int->StG} {L:ByteArray->Option ByteArray}
theorem em_touch {own':Own} {w':World} {N':Nat} {id:Int} {g:StG} {f:Fct} (ho:own.Ok B w) (hl:own.Le own') (hu:Upd (Wr own (CorX id f.lang)) w w') (hN:N<=N') {b n:Nat} {ge:Value->Option Value} (b1:own b=some (.emap id)) (hn:n<=N) (hk:KMap Tryz.prog 9 w b n ge)
 (b4:∀ e∈g.eds,∃ p,ge (.string e.lang)=some (.pointer (some ⟨p,0,none⟩))/\EdIn own mem B w id N e p) (b5:∀ lang:ByteArray,lang.size<=maxLen->lang∉g.eds.map EdG.lang->ge (.string lang)=none)
 (hT:∀ e∈g.eds,e.lang=f.lang->∀ p,ge (.string e.lang)=some (.pointer (some ⟨p,0,none⟩))->EdIn own' mem B w' id N' { e with changed:=f.n } p):EmIn own' mem B w' id N' (touchEd f g.eds) b:=by
 refine⟨hl _ _ b1,n,ge,by omega,hk.of_block (keep_blk ho hu b1 (by rintro (q | q | q | q | q) <;> cases q)),fun e he=>?_,fun lang hlang hne=>b5 lang hlang (by rwa [touchEd_langs]at hne)⟩
 unfold touchEd at he
 obtain⟨x,hx,rfl⟩:=List.mem_map.1 he
 obtain⟨p,c1,c2⟩:=b4 x hx
 by_cases h:x.lang=f.lang
 ·rw[if_pos h]
  exact⟨p,c1,hT x hx h p c1⟩
 ·rw[if_neg h]
  exact⟨p,c1,c2.keep ho hl hu hN (by rintro (q | q | q | q | q) <;> first|cases q | (injection q with _ q;exact h q)) (by rintro (q | q | q | q | q) <;> cases q)⟩
open Classical in
theorem cm_snoc {own':Own} {w':World} {N':Nat} {id:Int} {corr:List Corr} {c:Corr} (ho:own.Ok B w) (hl:own.Le own') (hu:Upd (Wr own (CorX id c.lang)) w w') (hN:N+1<=N') {b n:Nat} {gc:Value->Option Value} {v:Value} (b1:own b=some (.cmap id)) (hn:n<=N) (hk:KMap Tryz.prog 9 w' b (n+1) (fun x=>if x=.string c.lang then some v else gc x))
 (b4:∀ lang:ByteArray,lang.size<=maxLen->GRow w B 69 5 ((gc (.string lang)).getD (.slice none 0 0)) ((corrLang lang corr).map corrCells)/\∀ k,((gc (.string lang)).getD (.slice none 0 0)).ownBlock=some k->own k=some (.lrow id lang))
 (hrow:GRow w' B 69 5 v ((corrLang c.lang corr++[c]).map corrCells)) (hv:∀ k,v.ownBlock=some k->own' k=some (.lrow id c.lang)):CmIn own' B w' id N' (corr++[c]) b:=by
 refine⟨hl _ _ b1,n+1,_,by omega,hk,fun lang hlang=>?_⟩
 rw[corrLang_snoc]
 by_cases h:lang=c.lang
 ·subst h
  rw[if_pos rfl,if_pos rfl]
  exact⟨hrow,hv⟩
 ·rw[if_neg (by intro q;injection q with q;exact h q),if_neg (Ne.symm h)]
  obtain⟨c1,c2⟩:=b4 lang hlang
  exact⟨c1.same fun k hk=>keep_blk ho hu (c2 k hk) (by rintro (q | q | q | q | q) <;> first|(injection q with _ q;exact h q) | cases q),fun k hk=>hl _ _ (c2 k hk)⟩
theorem st_cor {own':Own} {w':World} {N':Nat} {g:StG} {f:Fct} (hf:FOK f) (hk:f.kind=4) (hl:own.Le own') (hN:N+1<=N') {p:Nat} (h:StIn own mem B w f.story N g p)
 {tv cv:Value} {em cm:Nat} (a1:w'.heap[p]?=some (.cells (stoCells f.story (Mg.stepG g f) tv cv em cm) 107 (0,0))) (a2:StrsM mem tv g.topics) (a3:GRow w' B 69 5 cv ((g.corr++[corrOf f]).map corrCells)) (a4:∀ k,cv.ownBlock=some k->own' k=some (.crow f.story))
 (a5:EmIn own' mem B w' f.story N' (touchEd f g.eds) em) (a6:CmIn own' B w' f.story N' (g.corr++[corrOf f]) cm):StIn own' mem B w' f.story N' (Mg.stepG g f) p:=by
 have hap:=stepG_apart h.apart f
 rw[step_cor hk]at a1 hap ⊢
 exact⟨hl _ _ h.tag,h.sid,h.aut,h.pub,(fun c hc=>by
  rcases List.mem_append.1 hc with hc | hc
  ·exact h.cok c hc
  ·rw[List.mem_singleton.1 hc];exact corr_ok hf),(by rw[List.length_append,List.length_singleton];have:=h.clen;omega),hap,tv,cv,em,cm,a1,a2,a3,a4,a5,a6⟩
set_option maxRecDepth 100000 in
set_option maxHeartbeats 8000000 in
theorem correct_any (h:FoldIn own mem B w sb N ps T G L) (f:FctE) (hf:f.ok mem) (hk:f.f.kind=4) (hN:N<=50000):
 Calls Tryz.prog 72 #[.pointer (some ⟨sb,0,none⟩),.agg f.cells] w (EffPost own mem B w sb N T G L f.f):=by
 obtain⟨W1,hW1⟩:∃ W1,W1=w.alloc (.cells f.cells 50):=⟨_,rfl⟩
 have hb1:Below w.heap.size w W1:=by rw[hW1];exact bel1 w _
 have h1:=h.keep hb1 (Nat.le_refl N)
 have hF1:W1.heap[w.heap.size]?=some (.cells f.cells 50 (0,0)):=by rw[hW1];exact World.alloc_heap_new w _
 have cOf:=Lib.hid (of_any h1 f hf.fok.i3 (by omega))
 have HW1:=Lib.hid hW1
 have HF1:=Lib.hid hF1
 have HB1:=Lib.hid hb1
 have H:=Lib.hid h
 have HK:=Lib.hid hk
 have HFO:=Lib.hid hf
 clear hW1 hF1 hb1 h1 h hk hf
 rw[FctE.cells_eq]
 rw[FctE.cells_eq]at HW1 HF1 cOf
 go_enter Tryz.func72,Tryz.ntmps72
 go_upto_region 1 with fail
 rw[<-HW1.out]
 go_wp2_with (first|((with_reducible refine at_fload _ rfl ?_);refine wpList_fct_load rfl _ rfl w.heap.size rfl _ HF1.out rfl ?_))
 refine cOf.out.mono ?_
 rintro e W2 ⟨own1,ps1,rfl,hle1,hnw1,h2,hu2⟩
 have hnf:own w.heap.size=none:=by
  cases ho:own w.heap.size with
  |none=>rfl
  |some t=>have:=(H.out.ok _ _ ho).2;omega
 have hfb:W2.heap[w.heap.size]?=some (.cells (fctCells f.f f.tv f.bv f.av) 50 (0,0)):=(hu2.block _ (hlt HF1.out) (fun ⟨t,ht,_⟩=>by rw[hnf]at ht;cases ht)).trans HF1.out
 have hnf1:own1 w.heap.size=none:=hnw1 _ (hlt HF1.out) hnf
 have hS:=h2.st HFO.out.fok.i3 (.inr rfl)
 generalize hp:ps1 f.f.story=p at *
 have hpf:w.heap.size≠p:=fun e=>by rw[e,hS.tag]at hnf1;cases hnf1
 obtain⟨tv,cv,em,cm,a1,a2,a3,a4,⟨a5,n,ge,a6,a7,a8,a9⟩,⟨a10,m,gc,a11,a12,a13⟩⟩:=hS.at_
 have HP:=Lib.hid hp
 have HS:=Lib.hid hS
 have H2:=Lib.hid h2
 have HU2:=Lib.hid hu2
 have HNW:=Lib.hid hnw1
 have HLE:=Lib.hid hle1
 have HA1:=Lib.hid a1
 have HA2:=Lib.hid a2
 have HA3:=Lib.hid a3
 have HA4:=Lib.hid a4
 have HA7:=Lib.hid a7
 have HA8:=Lib.hid a8
 have HA9:=Lib.hid a9
 have HA12:=Lib.hid a12
 have HA13:=Lib.hid a13
 have HFB:=Lib.hid hfb
 have HPF:=Lib.hid hpf
 have HNF:=Lib.hid hnf1
 have f4:W2.cell? ⟨w.heap.size,4,none⟩=some (.string f.f.lang):=rowcell hfb
 have f13:W2.cell? ⟨w.heap.size,16,none⟩=some (.int .i64 f.f.block):=rowcell hfb
 have f14:W2.cell? ⟨w.heap.size,17,none⟩=some (.int .i64 f.f.sentence):=rowcell hfb
 have f15:W2.cell? ⟨w.heap.size,18,none⟩=some (.string f.f.text):=rowcell hfb
 have f0:W2.cell? ⟨w.heap.size,0,none⟩=some (.int .i64 f.f.n):=rowcell hfb
 have HBW:Hid (Below w.heap.size w W1):=HB1
 clear hnf hfb hnf1 hS hp hpf a1 a2 a3 a4 a7 a8 a9 a12 a13 h2 hu2 hnw1 hle1 cOf HF1
 generalize hfbn:w.heap.size=fb at *
 go_upto_region 3 with fail
 obtain⟨cc,hcc⟩:∃ cc:Array Value,cc=corrCells (corrOf f.f):=⟨_,rfl⟩
 have HCC:=Lib.hid hcc
 have HCS:Hid (cc.size=5):=Lib.hid (by rw[hcc];rfl)
 have HCO:Hid (OneC cc):=Lib.hid (by rw[hcc];intro u hu;simp at hu;rcases hu with rfl | rfl | rfl | rfl | rfl <;> rfl)
 obtain⟨W3,hW3⟩:∃ W3,W3=W2.alloc (.cells cc 69):=⟨_,rfl⟩
 have hW3':=hW3
 rw[hcc]at hW3'
 rw[show (Value.agg #[.string f.f.lang,.int .i64 f.f.block,.int .i64 f.f.sentence,.string f.f.text,.int .i64 f.f.n])=.agg cc by rw[hcc];rfl]
 rw[show W2.alloc (.cells #[.string f.f.lang,.int .i64 f.f.block,.int .i64 f.f.sentence,.string f.f.text,.int .i64 f.f.n] 69)=W3 from hW3'.symm]
 have hb3:Below W2.heap.size W2 W3:=by rw[hW3];exact bel1 _ _
 have HC3:Hid (W3.heap[W2.heap.size]?=some (.cells cc 69 (0,0))):=Lib.hid (by rw[hW3];exact World.alloc_heap_new _ _)
 have HB3:=Lib.hid hb3
 have HP3:=Lib.hid ((hb3.block _ (hlt HA1.out)).trans HA1.out)
 have HF3:=Lib.hid ((hb3.block _ (hlt HFB.out)).trans HFB.out)
 have HZ3:Hid (W3.heap.size=W2.heap.size+1):=Lib.hid (by rw[hW3];simp)
 have HR3:=Lib.hid (HA3.out.bel hb3)
 clear hcc hW3 hW3' hb3 f4 f13 f14 f15 f0
 generalize hcb:W2.heap.size=cb at *
 obtain⟨ca,cc2,hcv⟩:=HA3.out.shape
 subst hcv
 have HS3:Hid (W3.drew.cell? ⟨p,5,none⟩=some (.slice ca ((G f.f.story).corr.map corrCells).length cc2)/\W3.drew.heap[cb]?=some (.cells cc 69 (0,0))):=Lib.hid ⟨rowcell HP3.out,HC3.out⟩
 refine wp_mix [mT,mT,mT,mT,mT,mT,mT,mF,mF,mF,mF,mF,mL] 12 (fun W'=>W'.cell? ⟨p,5,none⟩=some (.slice ca ((G f.f.story).corr.map corrCells).length cc2)/\W'.heap[cb]?=some (.cells cc 69 (0,0))) (by kernel_rfl) (by kernel_rfl) HS3.out ?_
 refine wpMix_take (.pointer (some ⟨p,0,none⟩)) (fun _ _ _ _ h=>h) HS3.out (by rfl) (fun W2 hW=>by go_simp) ?_
 simp only[Act.put,List.setIfInBounds_toArray,List.set_cons_zero,List.set_cons_succ]
 refine wpMix_take (.pointer (some ⟨p,0,none⟩)) (fun _ _ _ _ h=>h) HS3.out (by rfl) (fun W2 hW=>by go_simp) ?_
 simp only[Act.put,List.setIfInBounds_toArray,List.set_cons_zero,List.set_cons_succ]
 refine wpMix_take (.pointer (some ⟨p,0,none⟩)) (fun _ _ _ _ h=>h) HS3.out (by rfl) (fun W2 hW=>by go_simp) ?_
 simp only[Act.put,List.setIfInBounds_toArray,List.set_cons_zero,List.set_cons_succ]
 refine wpMix_take (.pointer (some ⟨p,0,none⟩)) (fun _ _ _ _ h=>h) HS3.out (by rfl) (fun W2 hW=>by go_simp) ?_
 simp only[Act.put,List.setIfInBounds_toArray,List.set_cons_zero,List.set_cons_succ]
 refine wpMix_take (.pointer (some ⟨p,5,none⟩)) (fun _ _ _ _ h=>h) HS3.out (by rfl) (fun W2 hW=>by go_simp) ?_
 simp only[Act.put,List.setIfInBounds_toArray,List.set_cons_zero,List.set_cons_succ]
 refine wpMix_take (.slice ca ((G f.f.story).corr.map corrCells).length cc2) (fun _ _ _ _ h=>h) HS3.out (by rfl) (fun W2 hW=>by have q0:=hW.1;go_simp) ?_
 simp only[Act.put,List.setIfInBounds_toArray,List.set_cons_zero,List.set_cons_succ]
 refine wpMix_take (.agg cc) (fun _ _ _ _ h=>h) HS3.out (by rfl) (fun W2 hW=>by exact exec_smid S_corr _ rfl (by simp[Act.eval]) cc HCS.out (whole_cells hW.2)) ?_
 simp only[Act.put,List.setIfInBounds_toArray,List.set_cons_zero,List.set_cons_succ]
 refine wpMix_step (fun K hK=>?_)
 rw[if_pos (by rfl)]
 refine wp_one_slice E_corr _ rfl (.agg cc) HCS.out (by simp[Act.eval]) ?_
 have hS4:Hid ((W3.drew.alloc (.cells cc 69)).cell? ⟨p,5,none⟩=some (.slice ca ((G f.f.story).corr.map corrCells).length cc2)/\(W3.drew.alloc (.cells cc 69)).heap[cb]?=some (.cells cc 69 (0,0))):=
  Lib.hid ⟨(World.cell?_alloc_lt W3.drew _ _ (by show p<W3.heap.size;exact hlt HP3.out)).trans HS3.out.1,(Below.heap_alloc W3.drew _ _ (by show cb<W3.heap.size;exact hlt HC3.out)).trans HS3.out.2⟩
 refine hK _ _ hS4.out ?_
 clear hK K
 simp only[Act.put,List.setIfInBounds_toArray,List.set_cons_zero,List.set_cons_succ]
 refine wpMix_step (fun K hK=>?_)
 rw[if_pos (by rfl)]
 have hrow4:GRow (W3.drew.alloc (.cells cc 69)) B 69 5 (.slice ca ((G f.f.story).corr.map corrCells).length cc2) ((G f.f.story).corr.map corrCells):=HR3.out.same (fun k hk=>Below.heap_alloc W3.drew _ k (HR3.out.ge k hk).2)
 have hcl:((G f.f.story).corr.map corrCells).length+1<=100000:=by
  rw[List.length_map]
  have:=HS.out.clen
  omega
 have hBs:B<=W3.heap.size:=by have:=(H2.out.ok _ _ HS.out.tag).1;have:=hlt HP3.out;omega
 refine wp_app_one E_corr _ _ rfl (by simp[Act.eval]) hrow4 cc HCS.out HCO.out W3.drew.heap.size 1 (by simp[Act.eval]) (World.alloc_heap_new W3.drew _) hcl (by rw[World.size_alloc];show B<=W3.heap.size+1;omega) ?_
 intro v4 w4 hr4 hg4 hob4
 have HG4:=Lib.hid hg4
 have HR4:=Lib.hid hr4
 have HOB4:=Lib.hid hob4
 have hcvt:∀ k,(Value.slice ca ((G f.f.story).corr.map corrCells).length cc2).ownBlock=some k->own1 k=some (.crow f.f.story):=HA4.out
 have hkeep:∀ k,k<W3.heap.size->(Value.slice ca ((G f.f.story).corr.map corrCells).length cc2).ownBlock≠some k->w4.heap[k]?=W3.heap[k]?:=fun k hk hne=>(hg4.block k (by rw[World.size_alloc];show k<W3.heap.size+1;omega) (fun e=>hne e.symm)).trans (Below.heap_alloc W3.drew _ k hk)
 have HNC:Hid (own1 cb=none):=Lib.hid (by
  cases ho:own1 cb with
  |none=>rfl
  |some t=>have:=(H2.out.ok _ _ ho).2;omega)
 have hne1:(Value.slice ca ((G f.f.story).corr.map corrCells).length cc2).ownBlock≠some p:=fun e=>by have:=hcvt _ e;rw[HS.out.tag]at this;cases this
 have hne2:(Value.slice ca ((G f.f.story).corr.map corrCells).length cc2).ownBlock≠some fb:=fun e=>by have:=hcvt _ e;rw[HNF.out]at this;cases this
 have hne3:(Value.slice ca ((G f.f.story).corr.map corrCells).length cc2).ownBlock≠some cb:=fun e=>by have:=hcvt _ e;rw[HNC.out]at this;cases this
 have HP4:Hid (w4.heap[p]?=_):=Lib.hid ((hkeep p (hlt HP3.out) hne1).trans HP3.out)
 have HF4:Hid (w4.heap[fb]?=_):=Lib.hid ((hkeep fb (hlt HF3.out) hne2).trans HF3.out)
 have HC4:Hid (w4.heap[cb]?=_):=Lib.hid ((hkeep cb (hlt HC3.out) hne3).trans HC3.out)
 have hS5:Hid (w4.cell? ⟨p,5,none⟩=some (.slice ca ((G f.f.story).corr.map corrCells).length cc2)/\w4.heap[cb]?=some (.cells cc 69 (0,0))):=Lib.hid ⟨rowcell HP4.out,HC4.out⟩
 have HU4:Hid (Upd (Wr own1 (CorX0 f.f.story f.f.lang)) W2 w4):=Lib.hid ((((Upd.refl _ W2).bel (by rw[hcb];exact HB3.out)).drew.alloc _).grown hg4 (fun k hk=>.inl ⟨_,hcvt k hk,.inr (.inl rfl)⟩))
 have HU4s:Hid (Upd (Wr own1 (fun t=>t=.story f.f.story\/t=.crow f.f.story)) W2 w4):=Lib.hid ((((Upd.refl _ W2).bel (by rw[hcb];exact HB3.out)).drew.alloc _).grown hg4 (fun k hk=>.inl ⟨_,hcvt k hk,.inr rfl⟩))
 refine hK _ _ hS5.out ?_
 clear hK K hrow4 hg4 hr4 hob4 hkeep hne1 hne2 hne3 hcvt
 obtain⟨va,vc,rfl⟩:=HR4.out.shape
 simp only[Act.put,List.setIfInBounds_toArray,List.set_cons_zero,List.set_cons_succ]
 refine wpMix_step (fun K hK=>?_);go_simp;refine hK _ _ hS5.out ?_;clear hK K
 refine wpMix_step (fun K hK=>?_);go_simp;refine hK _ _ hS5.out ?_;clear hK K
 refine wpMix_step (fun K hK=>?_);go_simp;refine hK _ _ hS5.out ?_;clear hK K
 have hc2:=hS5.out.1
 have hf2:w4.frozen? ⟨p,5,none⟩=false:=rowfree HP4.out
 refine wpMix_last (fun K hK=>?_)
 go_simp
 refine hK _ _ ?_
 clear hK K hc2 hf2
 refine wpMix_nil ?_
 go_wp2_with fail
 have hl4:((G f.f.story).corr.map corrCells++[cc]).length=(G f.f.story).corr.length+1:=by simp
 have HR4':Hid (GRow w4 B 69 5 (.slice va ((G f.f.story).corr.length+1) vc) ((G f.f.story).corr.map corrCells++[cc])):=Lib.hid (by have:=HR4.out;rwa [hl4]at this)
 obtain⟨w5,hw5⟩:∃ w5,w5=w4.setCell ⟨p,5,none⟩ (.slice va ((G f.f.story).corr.length+1) vc):=⟨_,rfl⟩
 rw[<-hw5]
 obtain⟨g4,hg4⟩:∃ g4,va=some ⟨g4,0,none⟩:=by
  rcases HR4'.out.1.2 with ⟨_,hz⟩ | ⟨g,cap,cur,hv,_⟩
  ·simp at hz
  ·injection hv with hv _ _
   exact⟨g,hv⟩
 subst hg4
 have hgs4:own1 g4=some (.crow f.f.story)\/cb<=g4:=by
  rcases HOB4.out with e | e
  ·exact .inl (HA4.out g4 e.symm)
  ·right
   injection e with e
   rw[World.size_alloc]at e
   have h8:=HZ3.out
   change g4=W3.heap.size+1 at e
   omega
 have hgp4:p≠g4:=fun e=>by
  rcases hgs4 with h | h
  ·rw[<-e,HS.out.tag]at h;cases h
  ·have:=(H2.out.ok _ _ HS.out.tag).2;omega
 have HGS4:=Lib.hid hgs4
 have hP5:=blk_set (j:=5) (u:=.slice (some ⟨g4,0,none⟩) ((G f.f.story).corr.length+1) vc) HP4.out
 rw[<-hw5]at hP5
 have HP5:=Lib.hid hP5
 have HK5:Hid (∀ k,k≠p->w5.heap[k]?=w4.heap[k]?):=Lib.hid (fun k hk=>by rw[hw5];exact Below.heap_setCell _ _ _ _ hk)
 have HFB5:Hid (w5.heap[fb]?=_):=Lib.hid ((HK5.out fb HPF.out).trans HF4.out)
 have hcp:cb≠p:=fun e=>by have:=HNC.out;rw[e,HS.out.tag]at this;cases this
 have HC5:Hid (w5.heap[cb]?=_):=Lib.hid ((HK5.out cb hcp).trans HC4.out)
 have HR5:Hid (GRow w5 B 69 5 (.slice (some ⟨g4,0,none⟩) ((G f.f.story).corr.length+1) vc) ((G f.f.story).corr.map corrCells++[cc])):=Lib.hid (HR4'.out.same fun k hk=>by injection hk with hk;subst hk;exact HK5.out _ (Ne.symm hgp4))
 have HU5:Hid (Upd (Wr own1 (CorX0 f.f.story f.f.lang)) W2 w5):=Lib.hid (by rw[hw5];exact HU4.out.setCell (.inl ⟨_,HS.out.tag,.inl rfl⟩) _)
 have HU5s:Hid (Upd (Wr own1 (fun t=>t=.story f.f.story\/t=.crow f.f.story)) W2 w5):=Lib.hid (by rw[hw5];exact HU4s.out.setCell (.inl ⟨_,HS.out.tag,.inl rfl⟩) _)
 clear hw5 hl4 hgs4 hgp4 hcp hP5
 have hkc5:w5.heap[cm]?=W2.heap[cm]?:=keep_blk H2.out.ok HU5s.out a10 (by rintro (q | q) <;> cases q)
 have HKC5:=Lib.hid (HA12.out.of_block hkc5)
 obtain⟨r1,r2⟩:=HA13.out f.f.lang HFO.out.fok.s4
 have HRL5:=Lib.hid (r1.same (w':=w5) fun k hk=>keep_blk H2.out.ok HU5s.out (r2 k hk) (by rintro (q | q) <;> cases q))
 have HRT:=Lib.hid r2
 have HLK:Hid (∀ W:World,KMap Tryz.prog 9 W cm m gc->(Instr.lookup 105 (.map (some cm)) (.string f.f.lang) false).run Tryz.prog W=.ok ((gc (.string f.f.lang)).getD (.slice none 0 0)) W):=Lib.hid (fun W hk=>KMap.look hk K_str Tryz.underlying105 (zero_corrs _) (key_str HFO.out.fok.s4))
 clear hkc5 r1 r2
 generalize (gc (.string f.f.lang)).getD (.slice none 0 0)=lv at *
 obtain⟨la,lc,hlv⟩:=HRL5.out.shape
 subst hlv
 have HS6:Hid (w5.drew.cell? ⟨p,10,none⟩=some (.map (some cm))/\w5.drew.cell? ⟨fb,4,none⟩=some (.string f.f.lang)/\w5.drew.heap[cb]?=some (.cells cc 69 (0,0))/\KMap Tryz.prog 9 w5.drew cm m gc):=Lib.hid ⟨rowcell HP5.out,rowcell HFB5.out,HC5.out,HKC5.out.drew⟩
 refine wp_mix [mT,mT,mT,mT,mT,mT,mT,mT,mT,mT,mT,mT,mT,mT,mF,mF,mL] 16 (fun W'=>W'.cell? ⟨p,10,none⟩=some (.map (some cm))/\W'.cell? ⟨fb,4,none⟩=some (.string f.f.lang)/\W'.heap[cb]?=some (.cells cc 69 (0,0))/\KMap Tryz.prog 9 W' cm m gc) (by kernel_rfl) (by kernel_rfl) HS6.out ?_
 refine wpMix_take (.pointer (some ⟨p,0,none⟩)) (fun _ _ _ _ h=>h) HS6.out (by rfl) (fun W2 hW=>by go_simp) ?_
 simp only[Act.put,List.setIfInBounds_toArray,List.set_cons_zero,List.set_cons_succ]
 refine wpMix_take (.pointer (some ⟨p,0,none⟩)) (fun _ _ _ _ h=>h) HS6.out (by rfl) (fun W2 hW=>by go_simp) ?_
 simp only[Act.put,List.setIfInBounds_toArray,List.set_cons_zero,List.set_cons_succ]
 refine wpMix_take (.pointer (some ⟨p,10,none⟩)) (fun _ _ _ _ h=>h) HS6.out (by rfl) (fun W2 hW=>by go_simp) ?_
 simp only[Act.put,List.setIfInBounds_toArray,List.set_cons_zero,List.set_cons_succ]
 refine wpMix_take (.map (some cm)) (fun _ _ _ _ h=>h) HS6.out (by rfl) (fun W2 hW=>by have q0:=hW.1;go_simp) ?_
 simp only[Act.put,List.setIfInBounds_toArray,List.set_cons_zero,List.set_cons_succ]
 refine wpMix_take (.pointer (some ⟨fb,4,none⟩)) (fun _ _ _ _ h=>h) HS6.out (by rfl) (fun W2 hW=>by go_simp) ?_
 simp only[Act.put,List.setIfInBounds_toArray,List.set_cons_zero,List.set_cons_succ]
 refine wpMix_take (.string f.f.lang) (fun _ _ _ _ h=>h) HS6.out (by rfl) (fun W2 hW=>by have q0:=hW.2.1;go_simp) ?_
 simp only[Act.put,List.setIfInBounds_toArray,List.set_cons_zero,List.set_cons_succ]
 refine wpMix_take (.pointer (some ⟨p,0,none⟩)) (fun _ _ _ _ h=>h) HS6.out (by rfl) (fun W2 hW=>by go_simp) ?_
 simp only[Act.put,List.setIfInBounds_toArray,List.set_cons_zero,List.set_cons_succ]
 refine wpMix_take (.pointer (some ⟨p,0,none⟩)) (fun _ _ _ _ h=>h) HS6.out (by rfl) (fun W2 hW=>by go_simp) ?_
 simp only[Act.put,List.setIfInBounds_toArray,List.set_cons_zero,List.set_cons_succ]
 refine wpMix_take (.pointer (some ⟨p,10,none⟩)) (fun _ _ _ _ h=>h) HS6.out (by rfl) (fun W2 hW=>by go_simp) ?_
 simp only[Act.put,List.setIfInBounds_toArray,List.set_cons_zero,List.set_cons_succ]
 refine wpMix_take (.map (some cm)) (fun _ _ _ _ h=>h) HS6.out (by rfl) (fun W2 hW=>by have q0:=hW.1;go_simp) ?_
 simp only[Act.put,List.setIfInBounds_toArray,List.set_cons_zero,List.set_cons_succ]
 refine wpMix_take (.pointer (some ⟨fb,4,none⟩)) (fun _ _ _ _ h=>h) HS6.out (by rfl) (fun W2 hW=>by go_simp) ?_
 simp only[Act.put,List.setIfInBounds_toArray,List.set_cons_zero,List.set_cons_succ]
 refine wpMix_take (.string f.f.lang) (fun _ _ _ _ h=>h) HS6.out (by rfl) (fun W2 hW=>by have q0:=hW.2.1;go_simp) ?_
 simp only[Act.put,List.setIfInBounds_toArray,List.set_cons_zero,List.set_cons_succ]
 refine wpMix_take (.slice la ((corrLang f.f.lang (G f.f.story).corr).map corrCells).length lc) (fun _ _ _ _ h=>h) HS6.out (by rfl) (fun W2 hW=>by have q0:=HLK.out W2 hW.2.2.2;go_simp) ?_
 simp only[Act.put,List.setIfInBounds_toArray,List.set_cons_zero,List.set_cons_succ]
 refine wpMix_take (.agg cc) (fun _ _ _ _ h=>h) HS6.out (by rfl) (fun W2 hW=>by exact exec_smid S_corr _ rfl (by simp[Act.eval]) cc HCS.out (whole_cells hW.2.2.1)) ?_
 simp only[Act.put,List.setIfInBounds_toArray,List.set_cons_zero,List.set_cons_succ]
 refine wpMix_step (fun K hK=>?_)
 rw[if_pos (by rfl)]
 refine wp_one_slice E_corr _ rfl (.agg cc) HCS.out (by simp[Act.eval]) ?_
 have HBA:Hid (Below w5.drew.heap.size w5.drew (w5.drew.alloc (.cells cc 69))):=Lib.hid (bel1 _ _)
 have hS7:Hid ((w5.drew.alloc (.cells cc 69)).cell? ⟨p,10,none⟩=some (.map (some cm))/\(w5.drew.alloc (.cells cc 69)).cell? ⟨fb,4,none⟩=some (.string f.f.lang)/\(w5.drew.alloc (.cells cc 69)).heap[cb]?=some (.cells cc 69 (0,0))/\KMap Tryz.prog 9 (w5.drew.alloc (.cells cc 69)) cm m gc):=
  Lib.hid ⟨(HBA.out.cell (p:=⟨p,10,none⟩) (by show p<w5.heap.size;exact hlt HP5.out)).trans HS6.out.1,(HBA.out.cell (p:=⟨fb,4,none⟩) (by show fb<w5.heap.size;exact hlt HFB5.out)).trans HS6.out.2.1,(HBA.out.block _ (by show cb<w5.heap.size;exact hlt HC5.out)).trans HS6.out.2.2.1,HS6.out.2.2.2.bel HBA.out⟩
 refine hK _ _ hS7.out ?_
 clear hK K
 simp only[Act.put,List.setIfInBounds_toArray,List.set_cons_zero,List.set_cons_succ]
 refine wpMix_step (fun K hK=>?_)
 rw[if_pos (by rfl)]
 have hrow7:=HRL5.out.same (w':=w5.drew.alloc (.cells cc 69)) (fun k hk=>Below.heap_alloc w5.drew _ k (HRL5.out.ge k hk).2)
 have hcl7:((corrLang f.f.lang (G f.f.story).corr).map corrCells).length+1<=100000:=by
  rw[List.length_map]
  have h1:=HS.out.clen
  have h2:(corrLang f.f.lang (G f.f.story).corr).length<=(G f.f.story).corr.length:=List.length_filter_le _ _
  omega
 have hBs7:B<=w5.heap.size:=by have:=(H2.out.ok _ _ HS.out.tag).1;have:=hlt HP5.out;omega
 refine wp_app_one E_corr _ _ rfl (by simp[Act.eval]) hrow7 cc HCS.out HCO.out w5.drew.heap.size 1 (by simp[Act.eval]) (World.alloc_heap_new w5.drew _) hcl7 (by rw[World.size_alloc];show B<=w5.heap.size+1;omega) ?_
 intro v6 w6 hr6 hg6 hob6
 have HG6:=Lib.hid hg6
 have HR6:=Lib.hid hr6
 have HOB6:=Lib.hid hob6
 have hkeep6:∀ k,k<w5.heap.size->(Value.slice la ((corrLang f.f.lang (G f.f.story).corr).map corrCells).length lc).ownBlock≠some k->w6.heap[k]?=w5.heap[k]?:=fun k hk hne=>(hg6.block k (by rw[World.size_alloc];show k<w5.heap.size+1;omega) (fun e=>hne e.symm)).trans (Below.heap_alloc w5.drew _ k hk)
 have hn6:∀ {k:Nat} {t:Tag},own1 k=some t->t≠.lrow f.f.story f.f.lang->(Value.slice la ((corrLang f.f.lang (G f.f.story).corr).map corrCells).length lc).ownBlock≠some k:=fun h hne e=>by
  have:=HRT.out _ e
  rw[h]at this
  exact hne (Option.some.inj this)
 have hn6':∀ {k:Nat},own1 k=none->(Value.slice la ((corrLang f.f.lang (G f.f.story).corr).map corrCells).length lc).ownBlock≠some k:=fun h e=>by
  have:=HRT.out _ e
  rw[h]at this
  cases this
 have HKE6:=Lib.hid hkeep6
 have HN6:=Lib.hid (fun (k:Nat) (t:Tag) (h:own1 k=some t) (hne:t≠.lrow f.f.story f.f.lang)=>hn6 h hne)
 have HP6:=Lib.hid ((hkeep6 p (hlt HP5.out) (hn6 HS.out.tag (by simp))).trans HP5.out)
 have HFB6:=Lib.hid ((hkeep6 fb (hlt HFB5.out) (hn6' HNF.out)).trans HFB5.out)
 have HC6:=Lib.hid ((hkeep6 cb (hlt HC5.out) (hn6' HNC.out)).trans HC5.out)
 have HKM6:=Lib.hid (HKC5.out.of_block (hkeep6 cm HKC5.out.lt (hn6 a10 (by simp))))
 have HU6:Hid (Upd (Wr own1 (CorX0 f.f.story f.f.lang)) W2 w6):=Lib.hid ((HU5.out.drew.alloc _).grown hg6 (fun k hk=>.inl ⟨_,HRT.out k hk,.inr (.inr (.inr rfl))⟩))
 have hS8:Hid (w6.cell? ⟨p,10,none⟩=some (.map (some cm))/\w6.cell? ⟨fb,4,none⟩=some (.string f.f.lang)/\w6.heap[cb]?=some (.cells cc 69 (0,0))/\KMap Tryz.prog 9 w6 cm m gc):=Lib.hid ⟨rowcell HP6.out,rowcell HFB6.out,HC6.out,HKM6.out⟩
 refine hK _ _ hS8.out ?_
 obtain⟨w7,hr7,hk7,hg7⟩:=HKM6.out.store K_str Tryz.underlying105 (by unfold maxLen;omega) (key_str HFO.out.fok.s4) v6
 have HK7:=Lib.hid hk7
 have HG7:=Lib.hid hg7
 have HR7:=Lib.hid hr7
 clear hK K hrow7 hg6 hr6 hob6 hkeep6 hn6 hn6' hk7 hg7 hr7
 obtain⟨ya,yc,rfl⟩:=HR6.out.shape
 have hl7:((corrLang f.f.lang (G f.f.story).corr).map corrCells++[cc]).length=(corrLang f.f.lang (G f.f.story).corr).length+1:=by simp
 rw[hl7]at HR6 HK7 HR7 HOB6
 rw[hl7]
 simp only[Act.put,List.setIfInBounds_toArray,List.set_cons_zero,List.set_cons_succ]
 have hr7:=HR7.out
 clear hl7
 refine wpMix_last (fun K hK=>?_)
 go_simp
 refine hK _ _ ?_
 clear hK K hr7
 refine wpMix_nil ?_
 have hkeep7:∀ k,k<w6.heap.size->k≠cm->w7.heap[k]?=w6.heap[k]?:=fun k hk hne=>HG7.out.block k hk (fun e=>hne (by injection e))
 have hpcm:p≠cm:=Own.ne HS.out.tag a10 (by simp)
 have hfcm:fb≠cm:=fun e=>by have:=HNF.out;rw[e,a10]at this;cases this
 have HP7:=Lib.hid ((hkeep7 p (hlt HP6.out) hpcm).trans HP6.out)
 have HFB7:=Lib.hid ((hkeep7 fb (hlt HFB6.out) hfcm).trans HFB6.out)
 have HU7:Hid (Upd (Wr own1 (CorX0 f.f.story f.f.lang)) W2 w7):=Lib.hid (HU6.out.grown HG7.out (fun k e=>.inl (by cases e;exact⟨_,a10,.inr (.inr (.inl rfl))⟩)))
 have HKE7:=Lib.hid hkeep7
 have hem7:w7.heap[em]?=W2.heap[em]?:=keep_blk H2.out.ok HU7.out a5 (by rintro (q | q | q | q) <;> cases q)
 have c9:w7.cell? ⟨p,9,none⟩=some (.map (some em)):=rowcell HP7.out
 have f4:w7.cell? ⟨fb,4,none⟩=some (.string f.f.lang):=rowcell HFB7.out
 have hkm:∀ j,(Instr.lookup 104 (.map (some em)) (.string f.f.lang) false).run Tryz.prog (w7.drewN j)=.ok ((ge (.string f.f.lang)).getD (.pointer none)) (w7.drewN j):=fun j=>
  KMap.look (w:=w7.drewN j) (HA7.out.of_block hem7) K_str Tryz.underlying104 (zero_ped _) (key_str HFO.out.fok.s4)
 have hcase:∃ q:Bool,(∀ w,(binOp .neq 135 ((ge (.string f.f.lang)).getD (.pointer none)) (.pointer none)).run Tryz.prog w=.ok (.bool q) w)/\(∀ w,(eqGuard .neq 135 (.tmp 56) (.const (.pointer none)) ((ge (.string f.f.lang)).getD (.pointer none)) (.pointer none)).run Tryz.prog w=.ok () w) ∧
  ((q=false/\f.f.lang∉(G f.f.story).eds.map EdG.lang)\/(q=true/\∃ pe,∃ x∈(G f.f.story).eds,x.lang=f.f.lang/\ge (.string f.f.lang)=some (.pointer (some ⟨pe,0,none⟩))/\EdIn own1 mem B W2 f.f.story (N+1) x pe)):=by
  by_cases hin:f.f.lang∈(G f.f.story).eds.map EdG.lang
  ·obtain⟨x,hx,hxl⟩:=List.mem_map.1 hin
   obtain⟨pe,q1,q2⟩:=HA8.out x hx
   rw[hxl]at q1
   refine⟨true,fun w=>?_,fun w=>?_,.inr ⟨rfl,pe,x,hx,hxl,q1,q2⟩⟩
   ·rw[q1];go_simp
   ·rw[q1];go_simp
  ·have q1:=HA9.out _ HFO.out.fok.s4 hin
   refine⟨false,fun w=>?_,fun w=>?_,.inl ⟨rfl,hin⟩⟩
   ·rw[q1];go_simp
   ·rw[q1];go_simp
 obtain⟨q,hq,hqg,hcs⟩:=hcase
 have HCS2:=Lib.hid hcs
 clear hkeep7 hpcm hfcm hem7 hcs
 generalize hr:(ge (.string f.f.lang)).getD (.pointer none)=r at *
 have HR:=Lib.hid hr
 clear hr
 go_wp2_with fail
 go_quiet (fail)
 go_upto_if 57 with fail
 obtain⟨g6,hg6⟩:∃ g6,ya=some ⟨g6,0,none⟩:=by
  rcases HR6.out.1.2 with ⟨_,hz⟩ | ⟨g,cap,cur,hv,_⟩
  ·simp at hz
  ·injection hv with hv _ _
   exact⟨g,hv⟩
 subst hg6
 have hFIN:∀ We:World,Upd (Wr own1 (CorX f.f.story f.f.lang)) W2 We->(∀ k,own1 k≠some (.edn f.f.story f.f.lang)->k<w7.heap.size->We.heap[k]?=w7.heap[k]?)->w7.heap.size<=We.heap.size →
  (∀ own3:Own,own1.Le own3->∀ e∈(G f.f.story).eds,e.lang=f.f.lang->∀ p',ge (.string e.lang)=some (.pointer (some ⟨p',0,none⟩))->EdIn own3 mem B We f.f.story (N+2) { e with changed:=f.f.n } p')->EffPost own mem B w sb N T G L f.f (.returned (.tuple #[])) We:=fun We hue hsame hsz hT=>by
  have h2:=H2.out
  have hl2:own1.Le (own1.put g4 (.crow f.f.story)):=put_row (wc:=W2) h2.ok (by rw[hcb];exact HGS4.out)
  have hn2:own1.New (own1.put g4 (.crow f.f.story)) W2:=put_row_new (wc:=W2) (Own.new_refl _ _) (Nat.le_refl _) (by rw[hcb];exact HGS4.out)
  have hg4l:g4<w5.heap.size:=(HR5.out.ge g4 rfl).2
  have hg4B:B<=g4:=(HR5.out.ge g4 rfl).1
  have l25:W2.heap.size<=w5.heap.size:=HU5.out.size
  have hok2:(own1.put g4 (.crow f.f.story)).Ok B w5:=(h2.ok.mono l25).put hg4B hg4l _
  have hg6l:g6<w6.heap.size:=(HR6.out.ge g6 rfl).2
  have hg6B:B<=g6:=(HR6.out.ge g6 rfl).1
  have hg6c:own1 g6=some (.lrow f.f.story f.f.lang)\/w5.heap.size<=g6:=by
   rcases HOB6.out with e | e
   ·exact .inl (HRT.out g6 e.symm)
   ·right
    injection e with e
    rw[World.size_alloc]at e
    change g6=w5.heap.size+1 at e
    omega
  have hg6d:(own1.put g4 (.crow f.f.story)) g6=some (.lrow f.f.story f.f.lang)\/w5.heap.size<=g6:=hg6c.elim (fun h=>.inl (hl2 _ _ h)) .inr
  have hl3:=put_row hok2 hg6d
  have hn3:=put_row_new hn2 l25 hg6d
  have l56:w5.heap.size<=w6.heap.size:=by
   have:=HG6.out.size
   rw[World.size_alloc]at this
   change w5.heap.size+1<=_ at this
   omega
  have l67:w6.heap.size<=w7.heap.size:=HG7.out.size
  have hok3:((own1.put g4 (.crow f.f.story)).put g6 (.lrow f.f.story f.f.lang)).Ok B We:=(hok2.mono (by omega)).put hg6B (by omega) _
  have hle3:=hl2.trans hl3
  have t4:((own1.put g4 (.crow f.f.story)).put g6 (.lrow f.f.story f.f.lang)) g4=some (.crow f.f.story):=hl3 _ _ (Own.put_same _ _ _)
  have n4:∀ t:Tag,own1 g4=some t->t=.crow f.f.story:=fun t ht=>by
   rcases HGS4.out with h | h
   ·rw[h]at ht;exact(Option.some.inj ht).symm
   ·have:=(h2.ok _ _ ht).2;omega
  have n6:∀ t:Tag,own1 g6=some t->t=.lrow f.f.story f.f.lang:=fun t ht=>by
   rcases hg6c with h | h
   ·rw[h]at ht;exact(Option.some.inj ht).symm
   ·have:=(h2.ok _ _ ht).2;omega
  have e4:We.heap[g4]?=w5.heap[g4]?:=(hsame g4 (fun e=>by have:=n4 _ e;cases this) (by omega)).trans ((HKE7.out g4 (by omega) (fun e=>by rw[<-e]at a10;have:=n4 _ a10;cases this)).trans (HKE6.out g4 hg4l (fun e=>by have:=n4 _ (HRT.out _ e);cases this)))
  have e6:We.heap[g6]?=w6.heap[g6]?:=(hsame g6 (fun e=>by have:=n6 _ e;cases this) (by omega)).trans (HKE7.out g6 hg6l (fun e=>by rw[<-e]at a10;have:=n6 _ a10;cases this))
  have r4:GRow We B 69 5 (.slice (some ⟨g4,0,none⟩) ((G f.f.story).corr.length+1) vc) (((G f.f.story).corr++[corrOf f.f]).map corrCells):=by
   rw[List.map_append,List.map_singleton,<-HCC.out]
   exact HR5.out.same fun k hk=>by injection hk with hk;subst hk;exact e4
  have r6:GRow We B 69 5 (.slice (some ⟨g6,0,none⟩) ((corrLang f.f.lang (G f.f.story).corr).length+1) yc) ((corrLang f.f.lang (G f.f.story).corr++[corrOf f.f]).map corrCells):=by
   rw[List.map_append,List.map_singleton,<-HCC.out]
   exact HR6.out.same fun k hk=>by injection hk with hk;subst hk;exact e6
  have ecm:We.heap[cm]?=w7.heap[cm]?:=hsame cm (by rw[a10];simp) (by have:=HK7.out.lt;exact this)
  have hcm:=cm_snoc (c:=corrOf f.f) h2.ok hle3 hue (Nat.le_refl (N+2)) a10 a11 (HK7.out.of_block ecm) HA13.out r6 (fun k hk=>by injection hk with hk;subst hk;exact Own.put_same _ _ _)
  have hem:=em_touch h2.ok hle3 hue (Nat.le_succ (N+1)) a5 a6 HA7.out HA8.out HA9.out (hT _ hle3)
  have hpp:We.heap[p]?=w7.heap[p]?:=hsame p (by rw[HS.out.tag];simp) (hlt HP7.out)
  have hstp:We.heap[p]?=some (.cells (stoCells f.f.story (Mg.stepG (G f.f.story) f.f) tv (.slice (some ⟨g4,0,none⟩) ((G f.f.story).corr.length+1) vc) em cm) 107 (0,0)):=by
   rw[hpp,HP7.out,step_cor HK.out];rfl
  have hst:=st_cor HFO.out.fok HK.out hle3 (Nat.le_refl (N+2)) HS.out hstp HA2.out r4 (fun k hk=>by injection hk with hk;subst hk;exact t4) hem hcm
  rw[<-HP.out]at hst
  have HBw:Below w.heap.size w W1:=by rw[hfbn];exact HB1.out
  refine⟨rfl,_,ps1,HLE.out.trans hle3,?_,(h2.story hle3 hok3 (fun t ht=>ht.of) hue (Nat.le_succ (N+1)) HFO.out.fok.i3 (.inr rfl) hst).congr (fun _=>Iff.rfl) (fun i=>?_) (fun _=>rfl),?_⟩
  ·exact Own.New.trans (w:=w) (w':=W2) (fun j hj e=>HNW.out j (Nat.lt_of_lt_of_le hj HBw.size) e) hn3 (Nat.le_trans HBw.size HU2.out.size)
  ·by_cases e:i=f.f.story
   ·rw[if_pos e,if_pos e,e]
   ·rw[if_neg e,if_neg e]
  ·exact upd_two (own1:=own1) (w1:=W2) (((Upd.refl _ w).bel HBw).trans HU2.out (fun k hk=>.inl (Wr.mono (fun _ h=>h) hk))) (fun k hk=>.inl (Wr.mono (fun _ _=>trivial) hk)) (fun j hj e=>HNW.out j (Nat.lt_of_lt_of_le hj HBw.size) e) hue
 have HFIN:=Lib.hid hFIN
 clear hFIN
 obtain⟨w8,hw8⟩:∃ w8,w8=w7.drewN nq:=⟨_,rfl⟩
 rw[<-hw8]
 have HU8:Hid (Upd (Wr own1 (CorX f.f.story f.f.lang)) W2 w8):=Lib.hid (by rw[hw8];exact upd_dN (HU7.out.mono fun k hk=>.inl (Wr.mono CorX0.up hk)) nq)
 have HK8:Hid (∀ k:Nat,w8.heap[k]?=w7.heap[k]?):=Lib.hid (fun k=>by rw[hw8];rfl)
 have HZ8:Hid (w8.heap.size=w7.heap.size):=Lib.hid (by rw[hw8];rfl)
 clear hw8 hkm hq hqg c9 f4
 rcases HCS2.out with ⟨rfl,hin⟩ | ⟨rfl,pe,x,hx,hxl,hge,hed⟩
 ·have HIN:=Lib.hid hin
  clear hin
  go_wp2_with fail
  refine bodyPost_end (results_none rfl _ _ _) rfl ?_
  exact HFIN.out w8 HU8.out (fun k _ _=>HK8.out k) (by rw[HZ8.out];exact Nat.le_refl _) (fun _ _ e he hl=>absurd (by rw[<-hl];exact List.mem_map_of_mem he) HIN.out)
 ·have hrv:r=.pointer (some ⟨pe,0,none⟩):=by rw[<-HR.out,hge];rfl
  subst hrv
  obtain⟨t1,ok,ln,rv,es,q1,q2,q3,q4,q5⟩:=hed
  have hE8:w8.heap[pe]?=some (.cells (edgCells x rv) 138 (0,0)):=(HK8.out pe).trans ((keep_blk H2.out.ok HU7.out t1 (by rintro (q | q | q | q) <;> cases q)).trans q1)
  have HR8:Hid (FRow w8 B rv es):=Lib.hid (q2.same fun k hk=>(HK8.out k).trans (keep_blk H2.out.ok HU7.out (q3 k hk) (by rintro (q | q | q | q) <;> cases q)))
  have HE8:=Lib.hid hE8
  have HT1:=Lib.hid t1
  have HOKX:=Lib.hid ok
  have HLN:=Lib.hid ln
  have HQ3:=Lib.hid q3
  have HQ4:=Lib.hid q4
  have HQ5:=Lib.hid q5
  have HX:=Lib.hid hx
  have HXL:=Lib.hid hxl
  have HGE:=Lib.hid hge
  have z4:w8.frozen? ⟨pe,4,none⟩=false:=rowfree hE8
  have c4:w8.cell? ⟨pe,4,none⟩=some (.int .i64 x.changed):=rowcell hE8
  have f0:w8.cell? ⟨fb,0,none⟩=some (.int .i64 f.f.n):=rowcell ((HK8.out fb).trans HFB7.out)
  clear hx hxl hge t1 ok ln q1 q2 q3 q4 q5 hE8
  go_wp2_with fail
  refine bodyPost_end (results_none rfl _ _ _) rfl ?_
  have hu9:Upd (Wr own1 (CorX f.f.story f.f.lang)) W2 (w8.setCell ⟨pe,4,none⟩ (.int .i64 f.f.n)):=HU8.out.setCell (.inl ⟨_,HT1.out,by rw[HXL.out];exact .inr (.inr (.inr (.inr rfl)))⟩) _
  refine HFIN.out _ hu9 (fun k hk _=>?_) (by simp[World.setCell];rw[HZ8.out];exact Nat.le_refl _) (fun own3 hl3 e he hel p' hp'=>?_)
  ·refine(Below.heap_setCell _ _ _ _ (fun e=>?_)).trans (HK8.out k)
   have:k=pe:=e
   rw[this,HT1.out,HXL.out]at hk
   exact hk rfl
  ·have hpp:p'=pe:=by
    rw[hel,HGE.out]at hp'
    injection hp' with hp'
    injection hp' with hp'
    injection hp' with hp'
    injection hp' with hp'
    exact hp'.symm
   subst hpp
   have hex:e=x:=by
    have hap:=HS.out.apart
    obtain⟨i,hi,rfl⟩:=List.getElem_of_mem he
    obtain⟨j,hj,hjx⟩:=List.getElem_of_mem HX.out
    have hxl2:=HXL.out
    rw[<-hjx]at hxl2 ⊢
    have hp2:=List.pairwise_iff_getElem.1 hap
    rcases Nat.lt_trichotomy i j with q | q | q
    ·exact absurd (hel.trans hxl2.symm) (by have:=hp2 i j (by simpa using hi) (by simpa using hj) q;simpa using this)
    ·subst q;rfl
    ·exact absurd (hxl2.trans hel.symm) (by have:=hp2 j i (by simpa using hj) (by simpa using hi) q;simpa using this)
   subst hex
   refine⟨hl3 _ _ HT1.out,⟨HOKX.out.s0,HOKX.out.i1,HOKX.out.s2,HFO.out.fok.i0⟩,Nat.le_succ_of_le HLN.out,rv,es,blk_set HE8.out,HR8.out.same (fun k hk=>Below.heap_setCell _ _ _ _ (fun q=>?_)),fun k hk=>hl3 _ _ (HQ3.out k hk),HQ4.out,HQ5.out⟩
   have h1:=HQ3.out k hk
   rw[show k=p' from q,HT1.out]at h1
   cases h1
end
structure FoldL (mem:Addr->Option Value) (w:World) (sb eb rb N:Nat) (l:List Fct) (wr:World):Prop where
 ex:∃ own ps T,FoldIn own mem (w.heap.size+1) wr sb N ps T (Mg.foldG l) (lastTpl l)/\own eb=none/\own rb=none
 eff:EMapE wr eb
 res:wr.heap[rb]?=some (.cells #[.slice none 0 0,.slice none 0 0] 27 (0,0))
 low:Below w.heap.size w wr
section
variable {mem:Addr->Option Value} {w wr w':World} {sb eb rb N:Nat} {l:List Fct} {f:Fct}
theorem FoldL.bel (h:FoldL mem w sb eb rb N l wr) (hb:Below wr.heap.size wr w'):FoldL mem w sb eb rb N l w':=by
 obtain⟨own,ps,T,h1,h2,h3⟩:=h.ex
 exact⟨⟨own,ps,T,h1.keep hb (Nat.le_refl N),h2,h3⟩,h.eff.of_block (hb.block _ h.eff.lt),(hb.block _ (hlt h.res)).trans h.res,h.low.trans (hb.mono h.low.size)⟩
theorem foldG_eff {f:Fct} (_h:actF f=true) (l:List Fct) (i:Int):Mg.foldG (l++[f]) i=if i=f.story then Mg.stepG (Mg.foldG l i) f else Mg.foldG l i:=by
 rw[foldG_snoc]
 by_cases e:i=f.story
 ·rw[if_pos e,if_pos e.symm]
 ·rw[if_neg e,if_neg (Ne.symm e)]
theorem lastTpl_eff {f:Fct} (h:f.kind≠7) (l:List Fct) (n:ByteArray):lastTpl (l++[f]) n=lastTpl l n:=by
 rw[lastTpl_snoc,if_neg (fun q=>h q.1)]
theorem Upd.out {own:Own} {W W':World} (hu:Upd (Wr own (fun _=>True)) W W') {k:Nat} (hk:k<W.heap.size) (h:own k=none):W'.heap[k]?=W.heap[k]?:=
 hu.block k hk (fun ⟨t,ht,_⟩=>by rw[h]at ht;cases ht)
theorem FoldL.eff_ (h:FoldL mem w sb eb rb N l wr) {own:Own} {ps:Int->Nat} {T:Int->Prop} (h1:FoldIn own mem (w.heap.size+1) wr sb N ps T (Mg.foldG l) (lastTpl l)) (h2:own eb=none) (h3:own rb=none) (ha:actF f=true) (hk:f.kind≠7) {e:Ending}
 (hp:EffPost own mem (w.heap.size+1) wr sb N T (Mg.foldG l) (lastTpl l) f e w'):e=.returned (.tuple #[])/\FoldL mem w sb eb rb (N+2) (l++[f]) w':=by
 obtain⟨rfl,own',ps',q1,q2,q3,q4⟩:=hp
 refine⟨rfl,⟨own',ps',_,q3.congr (fun _=>Iff.rfl) (fun i=>foldG_eff ha l i) (fun n=>lastTpl_eff hk l n),q2 _ h.eff.lt h2,q2 _ (hlt h.res) h3⟩,h.eff.of_block (q4.out h.eff.lt h2),(q4.out (hlt h.res) h3).trans h.res,?_⟩
 exact h.low.trans (q4.below (fun k hk=>Nat.le_of_succ_le (h1.ok _ _ hk.choose_spec.1).1) h.low.size)
theorem FoldL.tpl_ (h:FoldL mem w sb eb rb N l wr) {own:Own} {ps:Int->Nat} {T:Int->Prop} (h1:FoldIn own mem (w.heap.size+1) wr sb N ps T (Mg.foldG l) (lastTpl l)) (h2:own eb=none) (h3:own rb=none) (hk:f.kind=7) {e:Ending}
 (hp:TplPost own mem (w.heap.size+1) wr sb N T (Mg.foldG l) (lastTpl l) f e w'):e=.returned (.tuple #[])/\FoldL mem w sb eb rb (N+2) (l++[f]) w':=by
 obtain⟨rfl,own',ps',q1,q2,q3,q4⟩:=hp
 have hna:actF f=false:=by unfold actF;rw[hk];rfl
 refine⟨rfl,⟨own',ps',_,q3.congr (fun _=>Iff.rfl) (fun i=>?_) (fun n=>?_),q2 _ h.eff.lt h2,q2 _ (hlt h.res) h3⟩,h.eff.of_block (q4.out h.eff.lt h2),(q4.out (hlt h.res) h3).trans h.res,?_⟩
 ·rw[foldG_snoc]
  split
  ·exact stepG_idle hna
  ·rfl
 ·rw[lastTpl_snoc]
  by_cases e:n=f.name
  ·rw[if_pos e,if_pos ⟨hk,e.symm⟩]
  ·rw[if_neg e,if_neg (fun q=>e q.2.symm)]
 ·exact h.low.trans (q4.below (fun k hk=>Nat.le_of_succ_le (h1.ok _ _ hk.choose_spec.1).1) h.low.size)
theorem FoldL.idle (h:FoldL mem w sb eb rb N l wr) (ha:actF f=false) (hk:f.kind≠7):FoldL mem w sb eb rb (N+2) (l++[f]) wr:=by
 obtain⟨own,ps,T,h1,h2,h3⟩:=h.ex
 refine⟨⟨own,ps,T,(h1.keep (Below.refl _ _) (by omega)).congr (fun _=>Iff.rfl) (fun i=>?_) (fun n=>lastTpl_eff hk l n),h2,h3⟩,h.eff,h.res,h.low⟩
 rw[foldG_snoc]
 split
 ·exact stepG_idle ha
 ·rfl
theorem FoldL.start (hlow:∀ a u,mem a=some u->a.block<w.heap.size) (hs:Sees mem w) {W:World} (hb:Below w.heap.size w W) {sb eb rb bS bT:Nat} (h1:W.heap[sb]?=some (.cells #[.map (some bS),.map (some bT)] 97 (0,0))) (h2:W.heap[bS]?=some (.map #[] 0)) (h3:W.heap[bT]?=some (.map #[] 0))
 (he:EMapE W eb) (hr:W.heap[rb]?=some (.cells #[.slice none 0 0,.slice none 0 0] 27 (0,0))) (k1:w.heap.size+1<=sb) (k2:w.heap.size+1<=bS) (k3:w.heap.size+1<=bT) (d1:sb≠bS) (d2:sb≠bT) (d3:bS≠bT) (e1:eb≠sb/\eb≠bS/\eb≠bT) (e2:rb≠sb/\rb≠bS/\rb≠bT):FoldL mem w sb eb rb 0 [] W:=by
 refine⟨⟨fun k=>if k=sb then some .fold else if k=bS then some .smap else if k=bT then some .tmap else none,fun _=>0,fun _=>False,⟨if_pos rfl,fun k t hk=>?_,fun a u e=>Nat.lt_succ_of_lt (hlow a u e),hs.bel hb,bS,bT,h1,⟨by show (if bS=sb then _ else _)=_;rw[if_neg d1.symm,if_pos rfl],0,_,Nat.le_refl _,KMap.made _ _ h2,fun _ _ q=>q.elim,fun _ _ _=>⟨rfl,rfl⟩⟩,⟨by show (if bT=sb then _ else _)=_;rw[if_neg d2.symm,if_neg d3.symm,if_pos rfl],0,_,Nat.le_refl _,KMap.made _ _ h3,fun _ _=>rfl⟩⟩,?_,?_⟩,he,hr,hb⟩
 ·split at hk
  ·next e=>subst e;exact⟨k1,hlt h1⟩
  ·split at hk
   ·next e=>subst e;exact⟨k2,hlt h2⟩
   ·split at hk
    ·next e=>subst e;exact⟨k3,hlt h3⟩
    ·cases hk
 ·show (if eb=sb then _ else _)=none
  rw[if_neg e1.1,if_neg e1.2.1,if_neg e1.2.2]
 ·show (if rb=sb then _ else _)=none
  rw[if_neg e2.1,if_neg e2.2.1,if_neg e2.2.2]
theorem StRow.zero {w:World} {B A:Nat} {E:Nat->Option Int} (h:∀ k i,E k=some i->A<=k/\k<w.heap.size):StRow w B A E (.slice none 0 0) []:=⟨h,fun _ e=>(by cases e),[],GRow.nil _ _ _ _,rfl,fun j h=>absurd h (by simp)⟩
theorem StRow.kept {w w':World} {B A:Nat} {E:Nat->Option Int} {v:Value} {l:List StyF} {F:Nat->Prop} (h:StRow w B A E v l) (hu:Upd F w w') (hF:∀ k,F k->k<B\/(E k).isSome=true) (hr:∀ k,v.ownBlock=some k->¬ F k) (hed:∀ k cs,F k->w.heap[k]?≠some (.cells cs 39 (0,0))):StRow w' B A E v l:=by
 obtain⟨cs,h1,h2,h3⟩:=h.row
 have hm:∀ a u,memSt w B E v a=some u->memSt w' B E v a=some u:=memFr_mono hu fun k _ hf=>⟨hf,fun q=>(hF k q).elim (fun q=>hf (.inl q)) (fun q=>hf (.inr (.inr q)))⟩
 refine⟨fun k i e=>⟨(h.low k i e).1,Nat.lt_of_lt_of_le (h.low k i e).2 hu.size⟩,h.apart,cs,h1.upd hu hr,h2,fun j hj hj2=>?_⟩
 obtain⟨g0,tv,ev,cv,ecs,g1,g2,g3,g4,g5,g6⟩:=h3 j hj hj2
 exact⟨g0,tv,ev,cv,ecs,g1,g2.mono hm,g3.mono hm,g4.upd hu fun k hk hF=>by
  obtain⟨c,hc⟩:=g4.blk k hk
  exact hed k c hF hc,g5.mono hm,g6⟩
theorem SFin.bel {w w':World} {B A A1:Nat} {x:StyF} {tv ev cv:Value} (h:SFin w B A A1 x tv ev cv) (hb:Below w.heap.size w w'):SFin w' B A A1 x tv ev cv:=
 ⟨h.ok,h.tsz,GRow.bel h.top hb,h.eds.bel hb,h.cor.mono (memFr_below hb)⟩
structure FoldJ (w wo:World) (l:List Fct) (ids:List Int) (g:Value->Option Value) (pv:Value) (k:Nat) (wr:World):Prop where
 bel:Below wo.heap.size wo wr
 ptr:GRow wr (wo.heap.size+1) 103 1 pv (ids.map fun i=>((g (.int .i64 i)).getD (.pointer none)).cells)
 st:∃ sv sts E,wr.heap[wo.heap.size]?=some (.cells #[sv,.slice none 0 0] 27 (0,0))/\StRow wr (w.heap.size+1) wo.heap.size E sv sts/\(E wo.heap.size).isSome=true/\sts.map StyF.id=(ids.take k).filter (fun i=>(Mg.foldG l i).pub.isSome)/\∀ x∈sts,StyIs x.id (Mg.foldG l x.id) x/\StyGood x
end
theorem neq_fn (f:Nat) (w:World):(binOp .neq 100 (.func (.func f) #[] #[]) .nilFunc).run Tryz.prog w=.ok (.bool true) w:=by kernel_rfl
theorem neq_nil (w:World):(binOp .neq 100 .nilFunc .nilFunc).run Tryz.prog w=.ok (.bool false) w:=by kernel_rfl
theorem eff_1:(getL effL 1).getD .nilFunc=.func (.func 70) #[] #[]:=rfl
theorem eff_3:(getL effL 3).getD .nilFunc=.func (.func 71) #[] #[]:=rfl
theorem eff_4:(getL effL 4).getD .nilFunc=.func (.func 72) #[] #[]:=rfl
theorem eff_5:(getL effL 5).getD .nilFunc=.func (.func 73) #[] #[]:=rfl
theorem eff_6:(getL effL 6).getD .nilFunc=.func (.func 74) #[] #[]:=rfl
theorem eff_7:(getL effL 7).getD .nilFunc=.func (.func 75) #[] #[]:=rfl
theorem eff_no {k:Int} (h:k≠1/\k≠3/\k≠4/\k≠5/\k≠6/\k≠7):(getL effL k).getD .nilFunc=.nilFunc:=by
 rw[getL_none (by simp[keysL,effL];omega)];rfl
def FoldPost (l:List Fct) (w:World) (e:Ending) (w':World):Prop:=
 ∃ sv tv s A E,e=.returned (.agg #[sv,tv])/\FoldIs l s/\StRow w' (w.heap.size+1) A E sv s.stories/\w.heap.size+1<=A/\TplsM (memSt w' (w.heap.size+1) E sv) tv s.tpls/\Below w.heap.size w w'/\(∀ x∈s.stories,StyGood x)/\s.stories.length<=l.length
set_option maxRecDepth 100000 in
set_option maxHeartbeats 8000000 in
theorem Fold_any2 {mem:Addr->Option Value} {v:Value} {es:List FctE} (h:EsM mem v es) (hl:es.length<=20000) (hgd:∀ x∈es,actF x.f=true->FGood x.f) (h1:∀ id,∀ e∈(Mg.foldG (es.map FctE.f) id).eds,e.revs.length<=1) (w:World) (hs:Sees mem w) (hlow:∀ a u,mem a=some u->a.block<w.heap.size):
 Calls Tryz.prog 26 #[v] w (FoldPost (es.map FctE.f) w):=by
 have H1:=Lib.hid h1
 clear h1
 obtain⟨va,vc,vb,vo,rfl,hvm,hva,hve⟩:=h.open_
 have HVA:=Lib.hid hva
 have HVE:=Lib.hid hve
 have HG:=Lib.hid hgd
 have HS:=Lib.hid hs
 have HLOW:=Lib.hid hlow
 obtain⟨W1,hW1⟩:∃ W1,W1=(((w.alloc (.cells #[.slice none 0 0,.slice none 0 0] 27)).alloc (.map #[] 0)).alloc (.map #[] 0)).alloc (.cells #[.map (some (w.heap.size+1)),.map (some (w.heap.size+2))] 97):=⟨_,rfl⟩
 have hb1:Below w.heap.size w W1:=by rw[hW1];exact(((bel1 w _).alloc (by simp) _).alloc (by simp;omega) _).alloc (by simp;omega) _
 have hn0:W1.heap[w.heap.size]?=some (.cells #[.slice none 0 0,.slice none 0 0] 27 (0,0)):=by
  rw[hW1]
  exact(Below.heap_alloc _ _ _ (by simp;omega)).trans ((Below.heap_alloc _ _ _ (by simp;omega)).trans ((Below.heap_alloc _ _ _ (by simp)).trans (World.alloc_heap_new w _)))
 have hn1:W1.heap[w.heap.size+1]?=some (.map #[] 0):=by
  rw[hW1]
  refine(Below.heap_alloc _ _ _ (by simp)).trans ((Below.heap_alloc _ _ _ (by simp)).trans ?_)
  have:=World.alloc_heap_new (w.alloc (.cells #[.slice none 0 0,.slice none 0 0] 27)) (.map #[] 0)
  simpa using this
 have hn2:W1.heap[w.heap.size+2]?=some (.map #[] 0):=by
  rw[hW1]
  refine(Below.heap_alloc _ _ _ (by simp)).trans ?_
  have:=World.alloc_heap_new ((w.alloc (.cells #[.slice none 0 0,.slice none 0 0] 27)).alloc (.map #[] 0)) (.map #[] 0)
  simpa using this
 have hn3:W1.heap[w.heap.size+3]?=some (.cells #[.map (some (w.heap.size+1)),.map (some (w.heap.size+2))] 97 (0,0)):=by
  rw[hW1]
  have:=World.alloc_heap_new (((w.alloc (.cells #[.slice none 0 0,.slice none 0 0] 27)).alloc (.map #[] 0)).alloc (.map #[] 0)) (.cells #[.map (some (w.heap.size+1)),.map (some (w.heap.size+2))] 97)
  simpa using this
 have hz1:W1.heap.size=w.heap.size+4:=by rw[hW1];simp
 have HB1:=Lib.hid hb1
 have HN0:=Lib.hid hn0
 have HN1:=Lib.hid hn1
 have HN2:=Lib.hid hn2
 have HN3:=Lib.hid hn3
 have HW1:=Lib.hid hW1
 have cE:=Lib.hid (effects_any W1)
 have hmm:=@run_makeMap Tryz.prog
 clear h hva hve hgd hs hlow hb1 hn0 hn1 hn2 hn3 hW1
 go_enter Tryz.func26,Tryz.ntmps26
 go_upto_region 2 with fail
 clear hmm
 rw[show (((w.alloc (.cells #[.slice none 0 0,.slice none 0 0] 27)).alloc (.map #[] 0)).alloc (.map #[] 0)).alloc (.cells #[.map (some (w.heap.size+1)),.map (some (w.heap.size+1+1))] 97)=W1 from HW1.out.symm]
 go_wp2_with fail
 refine cE.out.mono ?_
 rintro e W2 ⟨rfl,hem,hb2⟩
 have HF0:Hid (FoldL mem w (w.heap.size+3) W1.heap.size w.heap.size (2 * 0) ((es.take 0).map FctE.f) W2):=Lib.hid (by
  have hk:∀ {k:Nat} {o:Obj},W1.heap[k]?=some o->W2.heap[k]?=some o:=fun e=>(hb2.block _ (hlt e)).trans e
  rw[List.take_zero]
  exact FoldL.start HLOW.out HS.out (HB1.out.trans (hb2.mono HB1.out.size)) (hk HN3.out) (hk HN1.out) (hk HN2.out) hem (hk HN0.out) (by omega) (by omega) (by omega) (by omega) (by omega) (by omega) ⟨by omega,by omega,by omega⟩ ⟨by omega,by omega,by omega⟩)
 clear hem hb2 cE
 rw[hz1]at *
 clear hz1
 go_wp2_with fail
 go_loopw [18] (fun i wr=>∃ k:Nat,k<=es.length/\i=.int .i64 k/\Hid (FoldL mem w (w.heap.size+3) (w.heap.size+4) w.heap.size (2 * k) ((es.take k).map FctE.f) wr)) (fun i _=>es.length - (intOf i).toNat)
 case atStart=>exact⟨0,Nat.zero_le _,rfl,HF0⟩
 case round=>
  obtain⟨k,hk,rfl,HF⟩:=hrel
  by_cases hlt:k<es.length
  ·obtain rfl:=HVA.out (by omega)
   obtain⟨hxo,hxa⟩:=HVE.out k hlt
   have HAT:Hid (es[k].at (fun p=>wr.cell? p) vb (vo+k * 23)):=Lib.hid (fun j u hj=>HS.out.bel HF.out.low _ _ (hxa j u hj))
   have HXO:=Lib.hid hxo
   have HTK:Hid ((es.take (k+1)).map FctE.f=(es.take k).map FctE.f++[es[k].f]):=Lib.hid (by rw[List.take_succ_eq_append_getElem hlt,List.map_append];rfl)
   have HSZ:Hid (es[k].cells.size=23):=Lib.hid rfl
   have HON:=Lib.hid (es[k].one)
   clear hxo hxa
   generalize es[k]=x at *
   go_upto_region 6 with (first
    |((with_reducible refine at_fload _ rfl ?_);go_must (refine wpList_fct_mid rfl _ rfl (by simp[Act.eval]) HAT.out ?_))
    |((with_reducible refine at_fstore _ _ rfl ?_);go_must (refine wpList_fct_new rfl _ _ rfl rfl _ _ _ (by simp[Act.eval]) (by simp[Act.eval]) (by rfl) HSZ.out HON.out ?_)))
   obtain⟨W5,hW5⟩:∃ W5,W5=wr.alloc (.cells x.cells 50):=⟨_,rfl⟩
   rw[<-hW5]
   have hb5:Below wr.heap.size wr W5:=by rw[hW5];exact bel1 wr _
   have hx5:W5.heap[wr.heap.size]?=some (.cells x.cells 50 (0,0)):=by rw[hW5];exact World.alloc_heap_new wr _
   have h5:=HF.out.bel hb5
   have c2:W5.cell? ⟨wr.heap.size,2,none⟩=some (.int .i64 x.f.kind):=rowcell hx5
   have hlk:=h5.eff.look Tryz.underlying3 Tryz.underlying98 (zero_eff _) HXO.out.fok.i2
   have HX5:=Lib.hid hx5
   have H5:=Lib.hid h5
   clear hW5 hb5 hx5 h5
   have hN:2 * k<=50000:=by omega
   by_cases h1:x.f.kind=1
   ·rw[h1]at hlk c2
    rw[eff_1]at hlk
    have HK:=Lib.hid h1
    clear h1
    obtain⟨own,ps,T,q1,q2,q3⟩:=H5.out.ex
    have cF:=Lib.hid (revise_any q1 x HXO.out HK.out hN)
    have HP:Hid (∀ e w',EffPost own mem (w.heap.size+1) W5 (w.heap.size+3) (2 * k) T (Mg.foldG ((es.take k).map FctE.f)) (lastTpl ((es.take k).map FctE.f)) x.f e w'->e=.returned (.tuple #[])/\FoldL mem w (w.heap.size+3) (w.heap.size+4) w.heap.size (2 * k+2) ((es.take k).map FctE.f++[x.f]) w'):=Lib.hid (fun e w' hp=>H5.out.eff_ q1 q2 q3 (by unfold actF;rw[HK.out];rfl) (by rw[HK.out];decide) hp)
    clear q1 q2 q3
    have hne:=neq_fn 70
    have hen:Enters Tryz.prog 70:=enters_of Tryz.func70 (by kernel_rfl) rfl
    go_wp2_with ((with_reducible refine at_fload _ rfl ?_);go_must (refine wpList_fct_load rfl _ rfl wr.heap.size rfl _ HX5.out rfl ?_))
    refine cF.out.mono ?_
    intro e W6 hp
    obtain⟨rfl,h6⟩:=HP.out _ _ hp
    have H6:Hid (FoldL mem w (w.heap.size+3) (w.heap.size+4) w.heap.size (2 * (k+1)) ((es.take (k+1)).map FctE.f) W6):=Lib.hid (by rw[HTK.out];exact h6)
    clear hp h6 cF HP hlk c2
    go_wp2_with fail
    go_roundw
    case rel=>exact⟨k+1,by omega,by go_num,H6⟩
    case measure=>simp[intOf];omega
   by_cases h3:x.f.kind=3
   ·rw[h3]at hlk c2
    rw[eff_3]at hlk
    have HK:=Lib.hid h3
    clear h3
    obtain⟨own,ps,T,q1,q2,q3⟩:=H5.out.ex
    have cF:=Lib.hid (publish_any q1 x HXO.out HK.out hN)
    have HP:Hid (∀ e w',EffPost own mem (w.heap.size+1) W5 (w.heap.size+3) (2 * k) T (Mg.foldG ((es.take k).map FctE.f)) (lastTpl ((es.take k).map FctE.f)) x.f e w'->e=.returned (.tuple #[])/\FoldL mem w (w.heap.size+3) (w.heap.size+4) w.heap.size (2 * k+2) ((es.take k).map FctE.f++[x.f]) w'):=Lib.hid (fun e w' hp=>H5.out.eff_ q1 q2 q3 (by unfold actF;rw[HK.out];rfl) (by rw[HK.out];decide) hp)
    clear q1 q2 q3
    have hne:=neq_fn 71
    have hen:Enters Tryz.prog 71:=enters_of Tryz.func71 (by kernel_rfl) rfl
    go_wp2_with ((with_reducible refine at_fload _ rfl ?_);go_must (refine wpList_fct_load rfl _ rfl wr.heap.size rfl _ HX5.out rfl ?_))
    refine cF.out.mono ?_
    intro e W6 hp
    obtain⟨rfl,h6⟩:=HP.out _ _ hp
    have H6:Hid (FoldL mem w (w.heap.size+3) (w.heap.size+4) w.heap.size (2 * (k+1)) ((es.take (k+1)).map FctE.f) W6):=Lib.hid (by rw[HTK.out];exact h6)
    clear hp h6 cF HP hlk c2
    go_wp2_with fail
    go_roundw
    case rel=>exact⟨k+1,by omega,by go_num,H6⟩
    case measure=>simp[intOf];omega
   by_cases h4:x.f.kind=4
   ·rw[h4]at hlk c2
    rw[eff_4]at hlk
    have HK:=Lib.hid h4
    clear h4
    obtain⟨own,ps,T,q1,q2,q3⟩:=H5.out.ex
    have cF:=Lib.hid (correct_any q1 x HXO.out HK.out hN)
    have HP:Hid (∀ e w',EffPost own mem (w.heap.size+1) W5 (w.heap.size+3) (2 * k) T (Mg.foldG ((es.take k).map FctE.f)) (lastTpl ((es.take k).map FctE.f)) x.f e w'->e=.returned (.tuple #[])/\FoldL mem w (w.heap.size+3) (w.heap.size+4) w.heap.size (2 * k+2) ((es.take k).map FctE.f++[x.f]) w'):=Lib.hid (fun e w' hp=>H5.out.eff_ q1 q2 q3 (by unfold actF;rw[HK.out];rfl) (by rw[HK.out];decide) hp)
    clear q1 q2 q3
    have hne:=neq_fn 72
    have hen:Enters Tryz.prog 72:=enters_of Tryz.func72 (by kernel_rfl) rfl
    go_wp2_with ((with_reducible refine at_fload _ rfl ?_);go_must (refine wpList_fct_load rfl _ rfl wr.heap.size rfl _ HX5.out rfl ?_))
    refine cF.out.mono ?_
    intro e W6 hp
    obtain⟨rfl,h6⟩:=HP.out _ _ hp
    have H6:Hid (FoldL mem w (w.heap.size+3) (w.heap.size+4) w.heap.size (2 * (k+1)) ((es.take (k+1)).map FctE.f) W6):=Lib.hid (by rw[HTK.out];exact h6)
    clear hp h6 cF HP hlk c2
    go_wp2_with fail
    go_roundw
    case rel=>exact⟨k+1,by omega,by go_num,H6⟩
    case measure=>simp[intOf];omega
   by_cases h5:x.f.kind=5
   ·rw[h5]at hlk c2
    rw[eff_5]at hlk
    have HK:=Lib.hid h5
    clear h5
    obtain⟨own,ps,T,q1,q2,q3⟩:=H5.out.ex
    have cF:=Lib.hid (retract_any q1 x HXO.out HK.out hN)
    have HP:Hid (∀ e w',EffPost own mem (w.heap.size+1) W5 (w.heap.size+3) (2 * k) T (Mg.foldG ((es.take k).map FctE.f)) (lastTpl ((es.take k).map FctE.f)) x.f e w'->e=.returned (.tuple #[])/\FoldL mem w (w.heap.size+3) (w.heap.size+4) w.heap.size (2 * k+2) ((es.take k).map FctE.f++[x.f]) w'):=Lib.hid (fun e w' hp=>H5.out.eff_ q1 q2 q3 (by unfold actF;rw[HK.out];rfl) (by rw[HK.out];decide) hp)
    clear q1 q2 q3
    have hne:=neq_fn 73
    have hen:Enters Tryz.prog 73:=enters_of Tryz.func73 (by kernel_rfl) rfl
    go_wp2_with ((with_reducible refine at_fload _ rfl ?_);go_must (refine wpList_fct_load rfl _ rfl wr.heap.size rfl _ HX5.out rfl ?_))
    refine cF.out.mono ?_
    intro e W6 hp
    obtain⟨rfl,h6⟩:=HP.out _ _ hp
    have H6:Hid (FoldL mem w (w.heap.size+3) (w.heap.size+4) w.heap.size (2 * (k+1)) ((es.take (k+1)).map FctE.f) W6):=Lib.hid (by rw[HTK.out];exact h6)
    clear hp h6 cF HP hlk c2
    go_wp2_with fail
    go_roundw
    case rel=>exact⟨k+1,by omega,by go_num,H6⟩
    case measure=>simp[intOf];omega
   by_cases h6:x.f.kind=6
   ·rw[h6]at hlk c2
    rw[eff_6]at hlk
    have HK:=Lib.hid h6
    clear h6
    obtain⟨own,ps,T,q1,q2,q3⟩:=H5.out.ex
    have cF:=Lib.hid (takeDown_any q1 x HXO.out HK.out hN)
    have HP:Hid (∀ e w',EffPost own mem (w.heap.size+1) W5 (w.heap.size+3) (2 * k) T (Mg.foldG ((es.take k).map FctE.f)) (lastTpl ((es.take k).map FctE.f)) x.f e w'->e=.returned (.tuple #[])/\FoldL mem w (w.heap.size+3) (w.heap.size+4) w.heap.size (2 * k+2) ((es.take k).map FctE.f++[x.f]) w'):=Lib.hid (fun e w' hp=>H5.out.eff_ q1 q2 q3 (by unfold actF;rw[HK.out];rfl) (by rw[HK.out];decide) hp)
    clear q1 q2 q3
    have hne:=neq_fn 74
    have hen:Enters Tryz.prog 74:=enters_of Tryz.func74 (by kernel_rfl) rfl
    go_wp2_with ((with_reducible refine at_fload _ rfl ?_);go_must (refine wpList_fct_load rfl _ rfl wr.heap.size rfl _ HX5.out rfl ?_))
    refine cF.out.mono ?_
    intro e W6 hp
    obtain⟨rfl,h6⟩:=HP.out _ _ hp
    have H6:Hid (FoldL mem w (w.heap.size+3) (w.heap.size+4) w.heap.size (2 * (k+1)) ((es.take (k+1)).map FctE.f) W6):=Lib.hid (by rw[HTK.out];exact h6)
    clear hp h6 cF HP hlk c2
    go_wp2_with fail
    go_roundw
    case rel=>exact⟨k+1,by omega,by go_num,H6⟩
    case measure=>simp[intOf];omega
   by_cases h7:x.f.kind=7
   ·rw[h7]at hlk c2
    rw[eff_7]at hlk
    have HK:=Lib.hid h7
    clear h7
    obtain⟨own,ps,T,q1,q2,q3⟩:=H5.out.ex
    have cF:=Lib.hid (template_any q1 x HXO.out hN)
    have HP:Hid (∀ e w',TplPost own mem (w.heap.size+1) W5 (w.heap.size+3) (2 * k) T (Mg.foldG ((es.take k).map FctE.f)) (lastTpl ((es.take k).map FctE.f)) x.f e w'->e=.returned (.tuple #[])/\FoldL mem w (w.heap.size+3) (w.heap.size+4) w.heap.size (2 * k+2) ((es.take k).map FctE.f++[x.f]) w'):=Lib.hid (fun e w' hp=>H5.out.tpl_ q1 q2 q3 HK.out hp)
    clear q1 q2 q3
    have hne:=neq_fn 75
    have hen:Enters Tryz.prog 75:=enters_of Tryz.func75 (by kernel_rfl) rfl
    go_wp2_with ((with_reducible refine at_fload _ rfl ?_);go_must (refine wpList_fct_load rfl _ rfl wr.heap.size rfl _ HX5.out rfl ?_))
    refine cF.out.mono ?_
    intro e W6 hp
    obtain⟨rfl,h6⟩:=HP.out _ _ hp
    have H6:Hid (FoldL mem w (w.heap.size+3) (w.heap.size+4) w.heap.size (2 * (k+1)) ((es.take (k+1)).map FctE.f) W6):=Lib.hid (by rw[HTK.out];exact h6)
    clear hp h6 cF HP hlk c2
    go_wp2_with fail
    go_roundw
    case rel=>exact⟨k+1,by omega,by go_num,H6⟩
    case measure=>simp[intOf];omega
   have hno:x.f.kind≠1/\x.f.kind≠3/\x.f.kind≠4/\x.f.kind≠5/\x.f.kind≠6/\x.f.kind≠7:=⟨h1,h3,h4,h5,h6,h7⟩
   rw[eff_no hno]at hlk
   have H6:Hid (FoldL mem w (w.heap.size+3) (w.heap.size+4) w.heap.size (2 * (k+1)) ((es.take (k+1)).map FctE.f) W5):=Lib.hid (by rw[HTK.out];exact H5.out.idle (by unfold actF;simp[h1,h3,h4,h5,h6]) h7)
   clear h1 h3 h4 h5 h6 h7 hno
   have hne:=neq_nil
   go_wp2_with fail
   go_roundw
   case rel=>exact⟨k+1,by omega,by go_num,H6⟩
   case measure=>simp[intOf];omega
  ·have e':k=es.length:=by omega
   subst e'
   obtain⟨wo,rfl⟩:∃ wo,wo=wr:=⟨_,rfl⟩
   have hF:=HF.out
   rw[List.take_length]at hF
   have HGL:Hid (∀ f∈es.map FctE.f,actF f=true->FGood f):=Lib.hid (fun f hf=>by
    obtain⟨x,hx,rfl⟩:=List.mem_map.1 hf
    exact HG.out x hx)
   have HFL:Hid (∀ f∈es.map FctE.f,FOK f):=Lib.hid (fun f hf=>by
    obtain⟨x,hx,rfl⟩:=List.mem_map.1 hf
    obtain⟨j,hj,rfl⟩:=List.getElem_of_mem hx
    exact(HVE.out j hj).1.fok)
   have HLL:Hid ((es.map FctE.f).length=es.length):=Lib.hid (List.length_map _)
   generalize es.map FctE.f=l at *
   obtain⟨own,ps,TT,q1,q2,q3⟩:=hF.ex
   obtain⟨bS,bT,a1,⟨b1,n,gS,b2,b3,b4,b5⟩,⟨t1,m,gT,t2,t3,t4⟩⟩:=q1.at_
   have HQ1:=Lib.hid q1
   have HHF:=Lib.hid hF
   have HB3:=Lib.hid b3
   have HB4:=Lib.hid b4
   have HB5:=Lib.hid b5
   have HT3:=Lib.hid t3
   have HT4:=Lib.hid t4
   have HA1:=Lib.hid a1
   obtain⟨W2,hW2⟩:∃ W2,W2=wo.alloc (.cells #[.slice none 0 0,.slice none 0 0] 27):=⟨_,rfl⟩
   have hb2:Below wo.heap.size wo W2:=by rw[hW2];exact bel1 _ _
   have hn2:W2.heap[wo.heap.size]?=some (.cells #[.slice none 0 0,.slice none 0 0] 27 (0,0)):=by rw[hW2];exact World.alloc_heap_new _ _
   have hz2:W2.heap.size=wo.heap.size+1:=by rw[hW2];simp
   have k0:W2.cell? ⟨w.heap.size+1+1+1,0,none⟩=some (.map (some bS)):=rowcell ((hb2.block _ (qh a1)).trans a1)
   have hn:n<=50000:=by omega
   have cO:=Lib.hid (orderedSt_any bS n gS W2 (b3.bel hb2) hn (fun y hy u hu=>by
    by_cases hT:TT y
    ·have:=(b4 y hy hT).1
     rw[hu]at this
     exact⟨_,Option.some.inj this⟩
    ·rw[(b5 y hy hT).1]at hu;cases hu))
   have HB2:=Lib.hid hb2
   have HN2:=Lib.hid hn2
   have HW2:=Lib.hid hW2
   clear hF q1 q2 q3 a1 b3 b4 b5 t3 t4 hb2 hn2 hW2
   go_upto_region 11 with fail
   rw[<-HW2.out]
   go_wp2_with fail
   refine cO.out.mono ?_
   rintro e W3 ⟨pv,ids,rfl,hpr,hpw,hmem,hb3,hln⟩
   obtain⟨pa,pc,hpv⟩:=hpr.shape
   rw[List.length_map]at hpv
   subst hpv
   have hll:ids.length<=50000:=by omega
   have HPW:=Lib.hid hpw
   have HMEM:=Lib.hid hmem
   have HJ0:Hid (FoldJ w wo l ids gS (.slice pa ids.length pc) 0 W3):=Lib.hid ⟨HB2.out.trans (hb3.mono HB2.out.size),by rw[hz2]at hpr;exact hpr,.slice none 0 0,[],fun k=>if k=wo.heap.size then some 0 else none,(hb3.block _ (by omega)).trans HN2.out,StRow.zero (fun k i e=>by
    split at e
    ·have:=hb3.size;omega
    ·cases e),by dsimp only;rw[if_pos rfl];rfl,by rw[List.take_zero];rfl,by intro x hx;cases hx⟩
   clear hpw hpr hmem hb3 cO k0
   go_wp2_with fail
   go_loopw [39] (fun i wr=>∃ k:Nat,k<=ids.length/\i=.int .i64 k/\Hid (FoldJ w wo l ids gS (.slice pa ids.length pc) k wr)) (fun i _=>ids.length - (intOf i).toNat)
   case atStart=>exact⟨0,Nat.zero_le _,rfl,HJ0⟩
   case round=>
    obtain⟨k,hk,rfl,HJ⟩:=hrel
    by_cases hlt:k<ids.length
    ·have hkl:k<(ids.map fun i=>((gS (.int .i64 i)).getD (.pointer none)).cells).length:=by rw[List.length_map];exact hlt
     obtain⟨pg,pcap,hpv,_,_,hp1,hp2,hpc,_⟩:=HJ.out.ptr.at_ k hkl
     rw[List.length_map]at hpv hp1
     injection hpv with e1 e2 e3
     subst e1 e3
     clear e2
     obtain⟨hi1,hi2⟩:=(HMEM.out _).1 (List.getElem_mem hlt)
     have hT:TT ids[k]:=by
      by_cases hT:TT ids[k]
      ·exact hT
      ·rw[(HB5.out _ hi1 hT).1]at hi2;cases hi2
     obtain⟨hg,hst⟩:=HB4.out _ hi1 hT
     have hpk:wr.cell? ⟨pg,k,none⟩=some (.pointer (some ⟨ps ids[k],0,none⟩)):=by
      have:=hpc 0 (by omega)
      rw[List.getElem_map,hg]at this
      have h2:wr.cell? ⟨pg,k,none⟩=(Value.pointer (some ⟨ps ids[k],0,none⟩)).cells[0]?:=by simpa using this
      exact h2.trans rfl
     have HST:=Lib.hid hst
     have HTK:Hid (ids.take (k+1)=ids.take k++[ids[k]]):=Lib.hid (List.take_succ_eq_append_getElem hlt)
     clear hpc hkl hi1 hi2 hT hg hst
     generalize ids[k]=id at *
     generalize hpid:ps id=p at *
     go_upto_region 14 with fail
     obtain⟨_,_,_,_,ha1,_⟩:=HST.out.at_
     have hpl:=qh ha1
     have k8:wr.cell? ⟨p,8,none⟩=some (.bool (Mg.foldG l id).pub.isSome):=rowcell ((HJ.out.bel.block p hpl).trans ha1)
     clear ha1
     cases hpub:(Mg.foldG l id).pub.isSome with
     |false=>
      rw[hpub]at k8
      have HJ2:Hid (FoldJ w wo l ids gS (.slice (some ⟨pg,0,none⟩) ids.length pc) (k+1) wr):=Lib.hid (by
       obtain⟨sv,sts,E,r1,r2,r3,r4,r5⟩:=HJ.out.st
       exact⟨HJ.out.bel,HJ.out.ptr,sv,sts,E,r1,r2,r3,by rw[HTK.out,List.filter_append,List.filter_cons_of_neg (by rw[hpub];decide),List.filter_nil,List.append_nil];exact r4,r5⟩)
      clear hpub
      go_wp2_with fail
      go_roundw
      case rel=>exact⟨k+1,by omega,by go_num,HJ2⟩
      case measure=>simp[intOf];omega
     |true=>
      rw[hpub]at k8
      have HPUB:=Lib.hid hpub
      clear hpub
      go_upto_region 15 with fail
      obtain⟨sv,sts,E,r1,r2,r3,r4,r5⟩:=HJ.out.st
      obtain⟨sa,sc,hsv⟩:=r2.shape
      subst hsv
      have HR1:=Lib.hid r1
      have HR2:=Lib.hid r2
      have HR3:=Lib.hid r3
      have HR4:=Lib.hid r4
      have HR5:=Lib.hid r5
      have HBD:Hid (Below wo.heap.size wo wr.drew):=Lib.hid HJ.out.bel.drew
      have cS:=Lib.hid (stoFinish_any (own:=own) (w:=wr.drew) (HST.out.bel HQ1.out.ok HBD.out) (HQ1.out.ok.mono HBD.out.size) HQ1.out.low (HQ1.out.see.bel HBD.out) (A:=wo.heap.size) (fun k t h=>(HQ1.out.ok k t h).2) HBD.out.size (foldG_good2 HGL.out id) (by omega) (H1.out id))
      have HSS:Hid (wr.drew.cell? ⟨wo.heap.size,0,none⟩=some (.slice sa sts.length sc)):=Lib.hid (rowcell r1)
      clear r1 r2 r3 r4 r5 k8 hpk
      refine wp_mix [mT,mT,mT,mF,mF,mF,mT,mL] 7 (fun W'=>W'.cell? ⟨wo.heap.size,0,none⟩=some (.slice sa sts.length sc)) (by kernel_rfl) (by kernel_rfl) HSS.out ?_
      refine wpMix_take (.pointer (some ⟨wo.heap.size,0,none⟩)) (fun _ _ _ _ h=>h) HSS.out (by rfl) (fun W2 hW=>by go_simp) ?_
      simp only[Act.put,List.setIfInBounds_toArray,List.set_cons_zero,List.set_cons_succ]
      refine wpMix_take (.slice sa sts.length sc) (fun _ _ _ _ h=>h) HSS.out (by rfl) (fun W2 hW=>by have q0:=hW;go_simp) ?_
      simp only[Act.put,List.setIfInBounds_toArray,List.set_cons_zero,List.set_cons_succ]
      refine wpMix_take (.pointer (some ⟨p,0,none⟩)) (fun _ _ _ _ h=>h) HSS.out (by rfl) (fun W2 hW=>by go_simp) ?_
      simp only[Act.put,List.setIfInBounds_toArray,List.set_cons_zero,List.set_cons_succ]
      refine wpMix_step (fun K hK=>?_)
      go_simp
      refine cS.out.mono ?_
      rintro e' w5 ⟨x,tv,ev,cv,rfl,his,hsf,hb5,hgood⟩
      dsimp only
      obtain⟨xa,xc,rfl⟩:=lrow_shape hsf.top
      obtain⟨ya,yc,rfl⟩:=hsf.eds.shape
      obtain⟨za,zc,rfl⟩:=SlM.slice hsf.cor
      have HSF:=Lib.hid hsf
      have HIS:=Lib.hid his
      have HGO:=Lib.hid hgood
      have HB5:Hid (Below wr.heap.size wr.drew w5):=Lib.hid hb5
      have HSS5:Hid (w5.cell? ⟨wo.heap.size,0,none⟩=some (.slice sa sts.length sc)):=Lib.hid (sees_bel hb5 _ _ HSS.out)
      have HSS6:Hid ((w5.alloc (.cells (styCells x (.slice xa x.topics.length xc) (.slice ya x.eds.length yc) (.slice za x.corr.length zc)) 34)).cell? ⟨wo.heap.size,0,none⟩=some (.slice sa sts.length sc)):=Lib.hid (sees_bel (bel1 _ _) _ _ HSS5.out)
      clear hsf his hgood hb5 cS
      refine hK _ _ HSS5.out ?_
      clear hK K
      refine wpMix_step (fun K hK=>?_)
      rw[if_pos (by rfl)]
      refine wp_one_slice E_sty _ rfl (.agg (styCells x (.slice xa x.topics.length xc) (.slice ya x.eds.length yc) (.slice za x.corr.length zc))) rfl (by simp[Act.eval]) ?_
      refine hK _ _ HSS6.out ?_
      clear hK K
      simp only[Act.put,List.setIfInBounds_toArray,List.set_cons_zero,List.set_cons_succ]
      refine wpMix_step (fun K hK=>?_)
      rw[if_pos (by rfl)]
      have HB6:Hid (Below wr.heap.size wr.drew (w5.alloc (.cells (styCells x (.slice xa x.topics.length xc) (.slice ya x.eds.length yc) (.slice za x.corr.length zc)) 34))):=Lib.hid (HB5.out.trans ((bel1 w5 _).mono HB5.out.size))
      obtain⟨cs,g1,g2⟩:=HR2.out.row
      have hcl:cs.length<=50000:=by
       rw[g2.1]
       have h1:=congrArg List.length HR4.out
       rw[List.length_map]at h1
       have h2:=List.length_filter_le (fun i=>(Mg.foldG l i).pub.isSome) (ids.take k)
       rw[List.length_take]at h2
       omega
      have hcl2:sts.length=cs.length:=g2.1.symm
      have hwr:wo.heap.size<wr.heap.size:=qh HR1.out
      have hw5:wr.heap.size<=w5.heap.size:=HB5.out.size
      have HG2:=Lib.hid g2
      have HG1:Hid (GRow wr.drew wo.heap.size 34 8 (.slice sa sts.length sc) cs):=Lib.hid (g1.same (fun _ _=>rfl))
      clear g1 g2
      refine wp_app_one E_sty _ _ rfl (by simp[Act.eval]) (HG1.out.bel HB6.out) (styCells x (.slice xa x.topics.length xc) (.slice ya x.eds.length yc) (.slice za x.corr.length zc)) rfl (by intro u hu;simp at hu;rcases hu with rfl | rfl | rfl | rfl | rfl | rfl | rfl | rfl <;> rfl) w5.heap.size 1 (by simp[Act.eval]) (World.alloc_heap_new w5 _) (by omega) (by rw[World.size_alloc];omega) ?_
      intro v7 w7 hr7 hg7 hob7
      have hap:=HR2.out.apart
      have hE0:=HR3.out
      have hnf:(Value.slice sa sts.length sc).ownBlock≠some wo.heap.size:=fun e=>by rw[hap _ e]at hE0;cases hE0
      have hkeep7:∀ j,j<wr.heap.size->(Value.slice sa sts.length sc).ownBlock≠some j->w7.heap[j]?=wr.heap[j]?:=fun j hj hne=>(hg7.block j (by rw[World.size_alloc];omega) (fun e=>hne e.symm)).trans (HB6.out.block j hj)
      have hf7:w7.heap[wo.heap.size]?=some (.cells #[.slice sa sts.length sc,.slice none 0 0] 27 (0,0)):=(hkeep7 _ hwr hnf).trans HR1.out
      have hsn:=StRow.snoc (w0:=wr.drew) (w:=w5.alloc (.cells (styCells x (.slice xa x.topics.length xc) (.slice ya x.eds.length yc) (.slice za x.corr.length zc)) 34)) (w1:=w7) (HR2.out.bel (Below.refl _ wr).drew) ⟨HG2.out.1,fun j hj hj2=>(HG2.out.2 j hj hj2).mono (memFr_below (Below.refl _ wr).drew) (fun _ _ e=>e) (fun _ _ _=>rfl)⟩ HG1.out HB6.out (by have:=HQ1.out.ok _ _ HQ1.out.tag;omega) (Nat.le_of_lt hwr) (HSF.out.bel (bel1 w5 _)) hr7 hg7 (hob7.imp (fun q=>q) fun e=>⟨_,e,Nat.le_refl _⟩)
      have HSN:=Lib.hid hsn
      have HF7:=Lib.hid hf7
      have HK7:=Lib.hid hkeep7
      have hB7:Below wo.heap.size wo w7:=(HBD.out.trans (HB6.out.mono (Nat.le_of_lt hwr))).grown hg7 (by rw[World.size_alloc];omega) (fun j hj=>(HG1.out.ge j hj).1)
      have HB7:=Lib.hid hB7
      have HSS7:Hid (w7.cell? ⟨wo.heap.size,0,none⟩=some (.slice sa sts.length sc)):=Lib.hid (rowcell hf7)
      have z7:w7.frozen? ⟨wo.heap.size,0,none⟩=false:=rowfree hf7
      have q7:=HSS7.out
      have HV7:Hid (∀ j,v7.ownBlock=some j->j≠wo.heap.size):=Lib.hid (fun j hj e=>by
       rcases hob7 with h | h
       ·rw[h]at hj;rw[e]at hj;exact hnf hj
       ·rw[h]at hj;injection hj with hj;rw[World.size_alloc]at hj;omega)
      obtain⟨v7a,v7c,rfl⟩:=hr7.shape
      clear hap hE0 hnf hkeep7 hf7 hsn hB7 hr7 hg7 hob7
      generalize hnl:(cs++[styCells x (Value.slice xa x.topics.length xc) (Value.slice ya x.eds.length yc) (Value.slice za x.corr.length zc)]).length=nl at *
      refine hK _ _ HSS7.out ?_
      clear hK K
      simp only[Act.put,List.setIfInBounds_toArray,List.set_cons_zero,List.set_cons_succ]
      refine wpMix_take (.pointer (some ⟨wo.heap.size,0,none⟩)) (fun _ _ _ _ h=>h) HSS7.out (by rfl) (fun W2 hW=>by go_simp) ?_
      simp only[Act.put,List.setIfInBounds_toArray,List.set_cons_zero,List.set_cons_succ]
      refine wpMix_last (fun K hK=>?_)
      go_simp
      refine hK _ _ ?_
      clear hK K q7 z7
      refine wpMix_nil ?_
      have HN8:=Lib.hid (blk_set (j:=0) (u:=.slice v7a nl v7c) HF7.out)
      have hu8:=upd_cell w7 wo.heap.size 0 (.slice v7a nl v7c)
      have HJ8:Hid (FoldJ w wo l ids gS (.slice (some ⟨pg,0,none⟩) ids.length pc) (k+1) (w7.setCell ⟨wo.heap.size,0,none⟩ (.slice v7a nl v7c))):=Lib.hid ⟨HB7.out.setCell (Nat.le_refl _) _,
       HJ.out.ptr.same fun j hj=>by
        have h1:=HJ.out.ptr.ge j hj
        have h2:wo.heap.size<w7.heap.size:=qh HF7.out
        have h3:w7.heap[j]?=wr.heap[j]?:=HK7.out j h1.2 fun e=>by
         obtain⟨c1,q1⟩:=HJ.out.ptr.blk j hj
         obtain⟨c2,q2⟩:=HG1.out.blk j e
         exact rows_apart q1 q2 (by decide) rfl
        exact(Below.heap_setCell _ _ _ _ (by show j≠wo.heap.size;omega)).trans h3,
       .slice v7a nl v7c,sts++[x],_,HN8.out,HSN.out.kept hu8 (fun j e=>by
        subst e
        refine .inr ?_
        try dsimp only
        split
        ·rfl
        ·exact HR3.out) (fun j hj e=>HV7.out j hj e) (fun j c e hc=>by
        subst e
        exact rows_apart HF7.out hc (by decide) rfl),by
        try dsimp only
        split
        ·rfl
        ·exact HR3.out,by
        rw[List.map_append,HR4.out,HTK.out,List.filter_append,List.filter_cons_of_pos (by rw[HPUB.out]),List.filter_nil,List.map_singleton,HIS.out.id],fun y hy=>by
        rcases List.mem_append.1 hy with hy | hy
        ·exact HR5.out y hy
        ·rw[List.mem_singleton.1 hy]
         refine⟨?_,HGO.out⟩
         rw[HIS.out.id];exact HIS.out⟩
      clear hu8
      go_wp2_with fail
      go_roundw
      case rel=>exact⟨k+1,by omega,by go_num,HJ8⟩
      case measure=>simp[intOf];omega
    ·have e':k=ids.length:=by omega
     subst e'
     obtain⟨wp,rfl⟩:∃ wp,wp=wr:=⟨_,rfl⟩
     obtain⟨sv,sts,E,r1,r2,r3,r4,r5⟩:=HJ.out.st
     rw[List.take_length]at r4
     obtain⟨sa,sc,hsv⟩:=r2.shape
     subst hsv
     have HR1:=Lib.hid r1
     have HR2:=Lib.hid r2
     have HR3:=Lib.hid r3
     have HR4:=Lib.hid r4
     have HR5:=Lib.hid r5
     have hsb:=qh HA1.out
     have k1:wp.cell? ⟨w.heap.size+1+1+1,1,none⟩=some (.map (some bT)):=rowcell ((HJ.out.bel.block _ hsb).trans HA1.out)
     have hm:m<=50000:=by omega
     have cT:=Lib.hid (orderedTpl_any bT m gT wp (HT3.out.bel HJ.out.bel) hm (fun y hy u hu=>by
      rw[HT4.out y hy]at hu
      cases hL:lastTpl l y with
      |none=>rw[hL]at hu;cases hu
      |some t=>rw[hL]at hu;injection hu with hu;exact⟨_,_,hu.symm⟩))
     clear r1 r2 r3 r4 r5
     go_wp2_with fail
     refine cT.out.mono ?_
     rintro e W8 ⟨tv,names,rfl,htr,htp,htm,hb8,_⟩
     have hnm:∀ y,y∈names↔(lastTpl l y).isSome=true:=fun y=>by
      rw[htm y]
      constructor
      ·rintro ⟨h1,h2⟩
       rw[HT4.out y h1]at h2
       cases hL:lastTpl l y with
       |none=>rw[hL]at h2;cases h2
       |some t=>rfl
      ·intro h
       obtain⟨t,ht⟩:=Option.isSome_iff_exists.1 h
       obtain⟨f,hf,hn,_⟩:=lastTpl_mem ht
       have h1:y.size<=maxLen:=by rw[<-hn];exact(HFL.out f hf).s19
       exact⟨h1,by rw[HT4.out y h1,ht];rfl⟩
     have hrow:GRow W8 wp.heap.size 52 2 tv ((tplsOf l names).map tplCells):=by
      have:(names.map fun i:ByteArray=>((gT (.string i)).getD zeroTpl).cells)=(tplsOf l names).map tplCells:=by
       unfold tplsOf
       rw[List.map_map]
       refine List.map_congr_left fun y hy=>?_
       obtain⟨t,ht⟩:=Option.isSome_iff_exists.1 ((hnm y).1 hy)
       have h1:=((htm y).1 hy).1
       rw[HT4.out y h1,ht]
       show _=tplCells ⟨y,(lastTpl l y).getD str0⟩
       rw[ht];rfl
      rw[<-this];exact htr
     have hto:∀ t∈tplsOf l names,TplOK t:=fun t ht=>by
      have h1:=((tplsOf_is htp hnm).2 t).1 ht
      obtain⟨f,hf,hn,htx⟩:=lastTpl_mem h1
      exact⟨by rw[<-hn];exact(HFL.out f hf).s19,by rw[<-htx];exact(HFL.out f hf).s18⟩
     obtain⟨ta,tc,htv⟩:=hrow.shape
     rw[List.length_map]at htv
     subst htv
     have HFI:Hid (FoldIs l ⟨sts,tplsOf l names⟩):=Lib.hid (fold_is HPW.out (fun id hid=>by
      have hok:okI id:=by
       by_cases ht:touched l id
       ·obtain⟨f,hf,_,rfl⟩:=ht
        exact(HFL.out f hf).i3
       ·rw[foldG_untouched ht]at hid;cases hid
      by_cases hT:TT id
      ·exact(HMEM.out id).2 ⟨hok,by rw[(HB4.out id hok hT).1];rfl⟩
      ·rw[(HB5.out id hok hT).2]at hid;cases hid) HR4.out (fun x hx=>(HR5.out x hx).1) htp hnm)
     have hlow8:∀ {q:Nat} {o:Obj},wp.heap[q]?=some o->W8.heap[q]?=some o:=fun e=>(hb8.block _ (qh e)).trans e
     have hf8:=hlow8 HR1.out
     have hz8:W8.heap[w.heap.size]?=some (.cells #[.slice none 0 0,.slice none 0 0] 27 (0,0)):=hlow8 ((HJ.out.bel.block _ (qh HHF.out.res)).trans HHF.out.res)
     have hwz:w.heap.size<wo.heap.size:=qh HHF.out.res
     have HF8:=Lib.hid hf8
     have HZ8:=Lib.hid hz8
     have HST8:=Lib.hid (HR2.out.bel hb8)
     have HB8:Hid (Below wo.heap.size wo W8):=Lib.hid (HJ.out.bel.trans (hb8.mono HJ.out.bel.size))
     have HROW:=Lib.hid hrow
     have HTO:=Lib.hid hto
     have q8:W8.cell? ⟨wo.heap.size,1,none⟩=some (.slice none 0 0):=rowcell hf8
     have z8:W8.frozen? ⟨wo.heap.size,1,none⟩=false:=rowfree hf8
     clear hlow8 hf8 hz8 hb8 hrow hto htr hnm htm htp cT k1
     generalize hnt:(tplsOf l names).length=nt at *
     go_upto_region 18 with fail
     have hne:w.heap.size≠wo.heap.size:=by omega
     have HF9:=Lib.hid (blk_set (j:=1) (u:=.slice ta nt tc) HF8.out)
     have HZ9:Hid ((W8.setCell ⟨wo.heap.size,1,none⟩ (.slice ta nt tc)).heap[w.heap.size]?=some (.cells #[.slice none 0 0,.slice none 0 0] 27 (0,0))):=Lib.hid (by rw[Below.heap_setCell _ _ _ _ hne];exact HZ8.out)
     have HU9:=Lib.hid (upd_cell W8 wo.heap.size 1 (.slice ta nt tc))
     have HB9:Hid (Below wo.heap.size wo (W8.setCell ⟨wo.heap.size,1,none⟩ (.slice ta nt tc))):=Lib.hid (HB8.out.setCell (Nat.le_refl _) _)
     obtain⟨W9,hW9⟩:∃ W9,W9=W8.setCell ⟨wo.heap.size,1,none⟩ (.slice ta nt tc):=⟨_,rfl⟩
     rw[<-hW9]at HF9 HZ9 HU9 HB9 ⊢
     clear hW9 q8 z8
     go_wp2_with (first
      |((with_reducible refine at_sload 27 _ rfl ?_);go_must (refine wpList_sload rfl S_state _ rfl (by simp[Act.eval]) #[.slice sa sts.length sc,.slice ta nt tc] rfl HF9.out ?_))
      |((with_reducible refine at_sstore 27 _ _ rfl ?_);go_must (refine wpList_sstore (cs:=#[.slice sa sts.length sc,.slice ta nt tc]) rfl S_state _ _ rfl (by simp[Act.eval,Act.put]) (by simp[Act.eval,Act.put]) HZ9.out rfl rfl (by simp[Value.oneCell']) ?_)))
     refine bodyPost_ret (results_cell_row (p:=2) (ty:=27) (by kernel_rfl) _ _ w.heap.size _ _ (0,0) _ (by simp[Act.put]) (setRow_heap _ _ _ _ _ _ HZ9.out) Tryz.underlying27 rfl (by kernel_rfl)) rfl ?_
     have hu10:=upd_row W9 w.heap.size #[.slice sa sts.length sc,.slice ta nt tc]
     have hown:∀ j,(Value.slice sa sts.length sc).ownBlock=some j->wo.heap.size<=j:=fun j hj=>by
      obtain⟨cs,g1,_⟩:=HR2.out.row
      exact(g1.ge j hj).1
     have hst9:StRow W9 (w.heap.size+1) wo.heap.size E (.slice sa sts.length sc) sts:=HST8.out.kept HU9.out (fun j e=>by rw[e];exact .inr HR3.out) (fun j hj e=>by
      subst e
      have:=HR2.out.apart _ hj
      have h3:=HR3.out
      rw[this]at h3;cases h3) (fun j c e hc=>by subst e;exact rows_apart HF8.out hc (by decide) rfl)
     have hst10:=hst9.kept hu10 (fun j e=>.inl (by omega)) (fun j hj e=>by have:=hown j hj;omega) (fun j c e hc=>by subst e;exact rows_apart HZ9.out hc (by decide) rfl)
     have hwp:wo.heap.size<wp.heap.size:=qh HR1.out
     have htk:∀ j,(Value.slice ta nt tc).ownBlock=some j->(W9.setRow w.heap.size #[.slice sa sts.length sc,.slice ta nt tc]).heap[j]?=W8.heap[j]?:=fun j hj=>by
      have h1:=HROW.out.ge j hj
      exact(hu10.block j (Nat.lt_of_lt_of_le h1.2 HU9.out.size) (by omega)).trans (HU9.out.block j h1.2 (by omega))
     refine⟨_,_,⟨sts,tplsOf l names⟩,wo.heap.size,E,rfl,HFI.out,hst10,hwz,grow_tpls (HROW.out.same htk) HTO.out (fun j hj q=>?_),?_,fun x hx=>(HR5.out x hx).2,?_⟩
     ·have h1:=(HROW.out.ge j hj).1
      rcases q with q | q | q
      ·omega
      ·obtain⟨cs,g1,_⟩:=HR2.out.row
       have:=(g1.ge j q).2
       omega
      ·cases hE:E j with
       |none=>rw[hE]at q;cases q
       |some i=>have:=(HR2.out.low j i hE).2;omega
     ·exact below_setRow (HHF.out.low.trans (HB9.out.mono HHF.out.low.size)) (Nat.le_refl _) _
     ·exact fold_len HFI.out
theorem Fold_any {mem:Addr->Option Value} {v:Value} {es:List FctE} (h:EsM mem v es) (hl:es.length<=20000) (hgd:∀ x∈es,FGood x.f) (h1:∀ id,∀ e∈(Mg.foldG (es.map FctE.f) id).eds,e.revs.length<=1) (w:World) (hs:Sees mem w) (hlow:∀ a u,mem a=some u->a.block<w.heap.size):
 Calls Tryz.prog 26 #[v] w (FoldPost (es.map FctE.f) w):=Fold_any2 h hl (fun x hx _=>hgd x hx) h1 w hs hlow
end Go.Proofs.YtdkkhmjlamkgdaaGreatDoor
namespace Go.Proofs.YtdkkhmjlamkgdaaGreatDoor.Mg
def TxS (s:StF) (N:Nat):Prop:=∀ x∈s.stories,∀ e∈x.eds,∀ y∈e.blocks,y.text.size<=N
theorem TxS.of {s:StF} {N:Nat} (h:TxS s N) (id:Int):∀ e∈(styOf s id).eds,∀ y∈e.blocks,y.text.size<=N:=by
 unfold styOf
 cases hf:findS s id with
 |none=>intro e he;cases he
 |some x=>exact h x (List.mem_of_find?_eq_some hf)
theorem edFor_in {x:StyF} {lang:ByteArray} (h:x.eds≠[]):edFor x lang∈x.eds:=by
 unfold edFor
 cases hf:findE x.eds lang with
 |some e=>exact List.mem_of_find?_eq_some hf
 |none=>
  cases hx:x.eds with
  |nil=>exact absurd hx h
  |cons a r=>exact List.mem_cons_self
theorem quoS_text {s:StF} {N:Nat} (h:TxS s N) (lang:ByteArray) (b:Blk):(quoS s lang b).1.text.size<=N:=by
 unfold quoS
 split
 ·exact Nat.zero_le _
 ·next hne=>
  split
  ·exact Nat.zero_le _
  ·next q hq=>
   split
   ·exact Nat.zero_le _
   ·exact h.of b.story _ (edFor_in hne) q (List.mem_of_find?_eq_some hq)
theorem quoS_len (s:StF) (lang:ByteArray) (b:Blk):(quoS s lang b).2.length<=11:=by
 unfold quoS
 split
 ·exact(by decide)
 ·split
  ·exact(by decide)
  ·split
   ·exact(by decide)
   ·exact Nat.zero_le _
theorem shown_len {s:StF} {N:Nat} {b:Blk} (hb:b.text.size<=N):(shown s b).length<=N+12:=by
 unfold shown
 split
 ·unfold digs
  split
  ·show 1<=_;omega
  ·show 2<=_;omega
 ·rw[size_eq];omega
where size_eq:b.text.data.toList.length=b.text.size:=by simp
theorem resGo_len {s:StF} {N:Nat} (h:TxS s N) (lang:ByteArray):∀ (n:Nat) {b:Blk},b.text.size<=N->(resGo s lang n b).length<=N+12
 |0,b,hb=>by
  unfold resGo
  split
  ·exact Nat.le_trans (by decide:tCircular.length<=12) (by omega)
  ·exact shown_len hb
 |n+1,b,hb=>by
  unfold resGo
  split
  ·split
   ·exact resGo_len h lang n (quoS_text h lang b)
   ·have:=quoS_len s lang b;omega
  ·exact shown_len hb
theorem resS_len {s:StF} {N:Nat} (h:TxS s N) (lang:ByteArray) {b:Blk} (hb:b.text.size<=N):(resS s lang b).length<=N+12:=resGo_len h lang 8 hb
theorem shownB_len {s:StF} {N:Nat} (h:TxS s N) (lang:ByteArray) {b:Blk} (hb:b.text.size<=N):(shownB s lang b).text.size<=2 * N+14:=by
 have hr:=resS_len h lang hb
 unfold shownB
 split
 ·show (bs (resS s lang b)).size<=_
  rw[bs_sz];omega
 ·split
  ·show (bs (b.text.data.toList++[58,32]++resS s lang b)).size<=_
   rw[bs_sz,List.length_append,List.length_append]
   have:b.text.data.toList.length=b.text.size:=by simp
   simp only[List.length_cons,List.length_nil]
   omega
  ·omega
where bs_sz (l:List UInt8):(bs l).size=l.length:=by simp[bs,ByteArray.size]
theorem corrLines_snoc (lang:ByteArray) (l:List Corr) (c:Corr):corrLines lang (l++[c])=corrLines lang l++(if c.lang=lang then tCorr++c.text.data.toList++[10] else []):=by
 unfold corrLines corrLang
 rw[List.filter_append,List.flatMap_append]
 congr 1
 by_cases h:c.lang=lang
 ·rw[if_pos h,List.filter_cons_of_pos (by simpa using h)];simp
 ·rw[if_neg h,List.filter_cons_of_neg (by simpa using h)];rfl
theorem corrLines_len {lang:ByteArray}:∀ {l:List Corr},(∀ c∈l,c.text.size<=1000)->(corrLines lang l).length<=l.length * 1013
 |[],_=>Nat.zero_le _
 |c::l,h=>by
  have h1:=corrLines_len (lang:=lang) (fun y hy=>h y (List.mem_cons_of_mem _ hy))
  have h2:=h c List.mem_cons_self
  have e:corrLines lang (c::l)=(if c.lang=lang then tCorr++c.text.data.toList++[10] else [])++corrLines lang l:=by
   have:=corrLines_snoc lang [] c
   unfold corrLines corrLang at *
   rw[List.nil_append]at this
   rw[show c::l=[c]++l from rfl,List.filter_append,List.flatMap_append,this];rfl
  rw[e,List.length_append,List.length_cons,Nat.succ_mul]
  have h3:(if c.lang=lang then tCorr++c.text.data.toList++[10] else []).length<=1013:=by
   split
   ·have:c.text.data.toList.length=c.text.size:=by simp
    rw[List.length_append,List.length_append,this]
    show 12+c.text.size+1<=1013
    omega
   ·exact Nat.zero_le _
  omega
def xRain:ByteArray:=⟨#[114,97,105,110]⟩
def xTitle:ByteArray:=⟨#[82,97,105,110]⟩
def xBody:ByteArray:=⟨#[73,116,32,114,97,105,110,101,100,46,32,73,116,32,115,116,111,112,101,100,46]⟩
def xBody2:ByteArray:=⟨#[73,116,32,114,97,105,110,101,100,46,32,73,116,32,115,116,111,112,112,101,100,46]⟩
def xCor:ByteArray:=⟨#[73,116,32,115,116,111,112,112,101,100,46]⟩
def xText:ByteArray:=⟨#[82,97,105,110,10,73,116,32,114,97,105,110,101,100,46,32,73,116,32,115,116,111,112,112,101,100,46,10,114,97,105,110,58,32,49,10,67,111,114,114,101,99,116,105,111,110,58,32,73,116,32,115,116,111,112,112,101,100,46,10]⟩
def xB1:Blk:=⟨1,2,xBody,0,0,lab0⟩
def xB2:Blk:=⟨2,5,xRain,0,0,lab0⟩
def xF1:Fct:={ fct0 with n:=1,kind:=1,story:=2,lang:=sEn,rev:=1,title:=xTitle,topics:=[xRain],blocks:=[xB1,xB2] }
def xF2:Fct:={ fct0 with n:=2,kind:=3,story:=2 }
def xF3:Fct:={ fct0 with n:=3,kind:=4,story:=2,lang:=sEn,block:=1,sentence:=1,text:=xCor }
def xF4:Fct:={ fct0 with n:=4,kind:=6,story:=2 }
def xL:List Fct:=[xF1,xF2,xF3]
theorem xSent:sentF xBody=[[73,116,32,114,97,105,110,101,100,46],[73,116,32,115,116,111,112,101,100,46]]:=by decide +kernel
def xC:Corr:=⟨sEn,1,1,xCor,3⟩
def xE:EdnF:=⟨sEn,1,xTitle,[{ xB1 with text:=xBody2 },xB2],3⟩
def xSt:StyF:=⟨2,str0,[xRain],[xE],2,[xC],false,false⟩
def xS:StF:=⟨[xSt],[]⟩
theorem xG2:foldG xL 2=⟨str0,[xRain],some 2,[xC],false,false,[⟨sEn,1,xTitle,3,[xF1]⟩]⟩:=rfl
theorem xEd:edFin [xC] ⟨sEn,1,xTitle,3,[xF1]⟩=xE:=by
 have h1:applyF [xB1,xB2] xC=[{ xB1 with text:=xBody2 },xB2]:=by
  unfold applyF
  rw[if_pos (by rfl)]
  unfold applyB
  rw[show sentF xB1.text=_ from xSent]
  rfl
 have h2:corrLang sEn [xC]=[xC]:=by decide +kernel
 have h3:blksOf [xF1]=[xB1,xB2]:=rfl
 show (⟨sEn,1,xTitle,(corrLang sEn [xC]).foldl applyF (blksOf [xF1]),3⟩:EdnF)=_
 rw[h2,h3,List.foldl_cons,List.foldl_nil,h1];rfl
theorem xFold_other {l:List Fct} (h:∀ f∈l,f.story=2) {id:Int} (hid:id≠2):foldG l id=stg0:=
 foldG_untouched (fun ⟨f,hf,_,e⟩=>hid (by rw[<-e,h f hf]))
theorem xIs:FoldIs xL xS:=by
 have hall:∀ f∈xL,f.story=2:=by
  intro f hf
  simp[xL]at hf
  rcases hf with rfl | rfl | rfl <;> rfl
 refine⟨by simp[xS],fun id=>?_,fun x hx=>?_,List.Pairwise.nil,fun t=>?_⟩
 ·by_cases h:id=2
  ·subst h;rw[xG2];simp[xS,xSt]
  ·rw[xFold_other hall h]
   simp only[xS,List.map_cons,List.map_nil,List.mem_singleton,stg0]
   exact⟨fun e=>absurd e h,fun e=>by cases e⟩
 ·obtain rfl:x=xSt:=by simpa [xS] using hx
  have e:foldG xL xSt.id=_:=xG2
  rw[e]
  refine⟨rfl,rfl,rfl,rfl,rfl,rfl,rfl,by simp[xSt],fun e=>?_⟩
  simp only[xSt,List.mem_singleton]
  constructor
  ·rintro rfl
   exact⟨by first|rfl | trivial,_,rfl,xEd.symm⟩
  ·rintro ⟨_,y,rfl,rfl⟩
   exact xEd
 ·have:lastTpl xL t.name=none:=by
   unfold lastTpl
   rw[List.find?_eq_none.2 (by intro f hf;simp[xL]at hf;rcases hf with rfl | rfl | rfl <;> simp[xF1,xF2,xF3])]
  rw[this]
  simp[xS]
theorem x_uniq {l:List Fct} {s s':StF} (h:FoldIs l s) (h':FoldIs l s'):s'=s:=h.unique h' (fun _id=>Alike.refl _) (fun _=>rfl)
theorem x_is {s:StF} (h:FoldIs xL s):s=xS:=x_uniq xIs h
theorem x_text:textS xS 2 sEn=some xText.data.toList:=by decide +kernel
theorem x_no:textS xS 2 sFr=none:=by decide +kernel
theorem x_edn:ednOf xS 2 sEn=some xE:=by decide +kernel
theorem x_find:findS xS 2=some xSt:=by decide +kernel
theorem x_q:resS xS sFr { blk0 with kind:=3,story:=2,ref:=1 }=xBody2.data.toList:=by decide +kernel
theorem x_r:resS xS sEn { blk0 with kind:=3,story:=2,ref:=3 }=tRemoved:=by decide +kernel
theorem x_one {s:StF} (h:FoldIs [xF1] s):s.stories=[]:=by
 have:s.stories.map StyF.id=[]:=List.eq_nil_iff_forall_not_mem.2 fun id hid=>by
  have:=(h.mem id).1 hid
  by_cases e:id=2
  ·subst e;cases this
  ·rw[xFold_other (by intro f hf;rw[List.mem_singleton.1 hf];rfl) e]at this;cases this
 simpa using this
theorem x_down {s:StF} (h:FoldIs (xL++[xF4]) s):s.stories=[⟨2,str0,[],[],2,[],false,true⟩]:=by
 have hall:∀ f∈xL++[xF4],f.story=2:=by
  intro f hf
  simp[xL]at hf
  rcases hf with rfl | rfl | rfl | rfl <;> rfl
 have hid:s.stories.map StyF.id=[2]:=asc_ext (r:=fun a b:Int=>a<b) (fun a=>by omega) (fun a b=>by omega) h.ids (by simp) fun x=>by
  rw[h.mem]
  by_cases e:x=2
  ·subst e;exact⟨fun _=>List.mem_singleton_self _,fun _=>rfl⟩
  ·rw[xFold_other hall e]
   exact⟨(fun q=>by cases q),fun q=>absurd (List.mem_singleton.1 q) e⟩
 obtain⟨x,hx⟩:∃ x,s.stories=[x]:=by
  have hl:=congrArg List.length hid
  rw[List.length_map]at hl
  exact List.length_eq_one_iff.1 hl
 rw[hx]at hid
 have e2:x.id=2:=by simpa using hid
 have hv:=h.val x (by rw[hx];exact List.mem_singleton_self _)
 rw[e2]at hv
 have eg:(foldG (xL++[xF4]) 2).taken=true:=rfl
 have ep:(foldG (xL++[xF4]) 2).pub=some 2:=rfl
 have ha:=hv.author
 have hto:=hv.topics
 have hc:=hv.corr
 have hr:=hv.retr
 have hp:=hv.pub
 have ht:=hv.taken
 rw[eg]at ha hto hc hr ht
 rw[ep]at hp
 have he:x.eds=[]:=List.eq_nil_iff_forall_not_mem.2 fun e hee=>by
  have:=((hv.mem e).1 hee).1
  rw[eg]at this;cases this
 rw[hx]
 obtain⟨a,b,c,d,e,f,g,i⟩:=x
 simp only at ha hto hc hr hp ht he e2
 subst ha hto hc hr hp ht he e2
 rfl
end Go.Proofs.YtdkkhmjlamkgdaaGreatDoor.Mg
namespace Go.Proofs.YtdkkhmjlamkgdaaGreatDoor
open Go.RowKit Mg Go.Shelf Go.Maps
abbrev nilS:Value:=.slice none 0 0
theorem built_b1:Tryz.prog.built 58 [(0,.int .i64 1),(1,.int .i64 2),(2,.string ⟨#[73,116,32,114,97,105,110,101,100,46,32,73,116,32,115,116,111,112,101,100,46]⟩)]=some (blkCells xB1 nilS):=by kernel_rfl
theorem built_b2:Tryz.prog.built 58 [(0,.int .i64 2),(1,.int .i64 5),(2,.string ⟨#[114,97,105,110]⟩)]=some (blkCells xB2 nilS):=by kernel_rfl
theorem fill_bb:Instr.fill (fun i=>some (i * 9,9)) ((Array.range (2 * 9)).map (zeroBlk.cells[· % zeroBlk.cells.size]!)) [(0,.agg (blkCells xB1 nilS)),(1,.agg (blkCells xB2 nilS))]=some (blkCells xB1 nilS++blkCells xB2 nilS):=by kernel_rfl
theorem built_f1 (h:Nat):Tryz.prog.built 50 [(0,.int .i64 1),(2,.int .i64 1),(3,.int .i64 2),(4,.string ⟨#[101,110]⟩),(5,.int .i64 1),(7,.string ⟨#[82,97,105,110]⟩),(9,.slice (some ⟨h+1,0,none⟩) 1 1),(10,.slice (some ⟨h,0,none⟩) 2 2)]=some (fctCells xF1 (.slice (some ⟨h+1,0,none⟩) 1 1) (.slice (some ⟨h,0,none⟩) 2 2) nilS):=by kernel_rfl
theorem built_f2:Tryz.prog.built 50 [(0,.int .i64 2),(2,.int .i64 3),(3,.int .i64 2)]=some (fctCells xF2 nilS nilS nilS):=by kernel_rfl
theorem built_f3:Tryz.prog.built 50 [(0,.int .i64 3),(2,.int .i64 4),(3,.int .i64 2),(4,.string ⟨#[101,110]⟩),(13,.int .i64 1),(14,.int .i64 1),(15,.string ⟨#[73,116,32,115,116,111,112,112,101,100,46]⟩)]=some (fctCells xF3 nilS nilS nilS):=by kernel_rfl
theorem fill_fff (h:Nat):Instr.fill (fun i=>some (i * 23,23)) ((Array.range (3 * 23)).map ((Value.agg zeroFct).cells[· % (Value.agg zeroFct).cells.size]!)) [(0,.agg (fctCells xF1 (.slice (some ⟨h+1,0,none⟩) 1 1) (.slice (some ⟨h,0,none⟩) 2 2) nilS)),(1,.agg (fctCells xF2 nilS nilS nilS)),(2,.agg (fctCells xF3 nilS nilS nilS))] =
 some (fctCells xF1 (.slice (some ⟨h+1,0,none⟩) 1 1) (.slice (some ⟨h,0,none⟩) 2 2) nilS++fctCells xF2 nilS nilS nilS++fctCells xF3 nilS nilS nilS):=by kernel_rfl
section
variable {P:Program} {t e:TypeId} {z:Value} {sz bytes:Nat} {w:World} {ops:Array Oper} {rest:List Oper} {o:Oper} {a:Act} {Q:Exit->Act->World->Prop}
theorem wpList_n_slice (hgd:o.guard=none) (T:ElemT P t e z sz bytes) (n:Nat) (hn:0<n) (hn2:n<=1000) (parts:Array (Nat × Operand)) (ho:o.op=.buildSlice t n parts) (L:List (Nat × Value)) (hL:(parts.map fun (i,x)=>(i,a.eval x)).toList=L) (cells:Array Value)
 (hf:Instr.fill (fun i=>some (i * sz,sz)) ((Array.range (n * sz)).map (z.cells[· % z.cells.size]!)) L=some cells)
 (hK:wpList P ops Q rest (a.put o.dst (.slice (some ⟨w.heap.size,0,none⟩) n n)) (w.alloc (.cells cells e))):wpList P ops Q (o::rest) a w:=
 wpList_plain hgd fun _ hK'=>by
  obtain⟨i0,hi0,hz0,hz1,hz2⟩:=info_parts T.inf
  have h1:=T.small2
  have h2:=T.pos
  have h3:n * sz<=1000 * 1000:=Nat.mul_le_mul hn2 h1
  refine wp_buildSlice t e n parts ho cells i0 z T.und hi0 hz0 (by rw[hz1];omega) (by rw[hz1];exact Nat.ne_of_gt (Nat.mul_pos hn h2)) ?_ (hK' _ _ hK)
  rw[hL,hz1]
  exact hf
end
def xEs (h:Nat):List FctE:=[⟨xF1,some ⟨h+1,0,none⟩,1,some ⟨h,0,none⟩,2,none,0⟩,⟨xF2,none,0,none,0,none,0⟩,⟨xF3,none,0,none,0,none,0⟩]
theorem okI_d {n:Int} (h:decide (-9223372036854775808<=n/\n<=9223372036854775807)=true):okI n:=by
 have:=of_decide_eq_true h
 exact⟨this.1,this.2⟩
theorem ml_d {n:Nat} (h:decide (n<=1000)=true):n<=maxLen:=by
 have:=of_decide_eq_true h
 unfold maxLen;omega
theorem x_fok (f:Fct) (h:f=xF1\/f=xF2\/f=xF3\/f=xF4):FOK f:=by
 rcases h with rfl | rfl | rfl | rfl
 all_goals
  refine⟨okI_d rfl,okI_d rfl,okI_d rfl,okI_d rfl,ml_d rfl,okI_d rfl,okI_d rfl,ml_d rfl,ml_d rfl,okI_d rfl,okI_d rfl,okI_d rfl,okI_d rfl,okI_d rfl,okI_d rfl,ml_d rfl,ml_d rfl,okI_d rfl,okI_d rfl,okI_d rfl,?_⟩
  intro x hx
  simp[xF1,xF2,xF3,xF4,fct0]at hx
  try (rcases hx with rfl | rfl <;> exact⟨ml_d rfl,okI_d rfl,okI_d rfl⟩)
def ExPost (w:World) (e:Ending) (w':World):Prop:=∃ v,e=.returned v/\FRow w' w.heap.size v (xEs w.heap.size)/\(∀ x∈xEs w.heap.size,x.ok (memFr w' (fun k=>k<w.heap.size\/v.ownBlock=some k)))/\Below w.heap.size w w'
theorem memFr_at {W:World} {F:Nat->Prop} {g i:Nat} {cs:Array Value} {t:TypeId} {u:Value} (h:W.heap[g]?=some (.cells cs t (0,0))) (hi:cs[i]?=some u) (hF:¬ F g):memFr W F ⟨g,i,none⟩=some u:=
 memFr_of (by rw[rowcell h];exact hi) (rowfree h) hF
theorem blk_at {W:World} {F:Nat->Prop} {g o:Nat} {cs:Array Value} {t:TypeId} (h:W.heap[g]?=some (.cells cs t (0,0))) (hF:¬ F g) {x:Blk} {ao:Option Addr} {cap:Nat} (hx:∀ j,j<9->cs[o+j]?=(blkCells x (.slice ao x.lab.after.length cap))[j]?) (hp:x.text.size<=maxLen/\okI x.kind/\okI x.id) (hi:IntsM (memFr W F) (.slice ao x.lab.after.length cap) x.lab.after):BlkAt (memFr W F) x g o:=
 have hc:∀ j,j<9->memFr W F ⟨g,o+j,none⟩=(blkCells x (.slice ao x.lab.after.length cap))[j]?:=fun j hj=>by
  have h9:=hx j hj
  have e:(blkCells x (.slice ao x.lab.after.length cap))[j]?=some ((blkCells x (.slice ao x.lab.after.length cap))[j]'(by simpa using hj)):=Array.getElem?_eq_getElem _
  rw[e]at h9 ⊢
  exact memFr_at h h9 hF
 ⟨⟨hc 0 (by omega),hc 1 (by omega),hc 2 (by omega),hc 3 (by omega),hc 4 (by omega)⟩,⟨hc 5 (by omega),hc 7 (by omega),hc 8 (by omega)⟩,hp,_,hc 6 (by omega),hi⟩
theorem no_parts {M:Addr->Option Value} {f:Fct} (h1:f.topics=[]) (h2:f.blocks=[]) (h3:f.lab.after=[]):Parts M f (.slice none f.topics.length 0) (.slice none f.blocks.length 0) (.slice none f.lab.after.length 0):=by
 rw[Parts,h1,h2,h3]
 exact⟨StrsM.nil _,BlksM.nil _,IntsM.nil _⟩
theorem x_rowvals (h:Nat):(fctCells xF1 (.slice (some ⟨h+1,0,none⟩) 1 1) (.slice (some ⟨h,0,none⟩) 2 2) nilS++fctCells xF2 nilS nilS nilS++fctCells xF3 nilS nilS nilS).toList.take (3 * 23)=rowVals (xEs h):=by kernel_rfl
theorem x_rowsize (h:Nat):(fctCells xF1 (.slice (some ⟨h+1,0,none⟩) 1 1) (.slice (some ⟨h,0,none⟩) 2 2) nilS++fctCells xF2 nilS nilS nilS++fctCells xF3 nilS nilS nilS).size=3 * 23:=by kernel_rfl
theorem x_rowlen (h:Nat):(rowVals (xEs h)).length=(xEs h).length * 23:=by kernel_rfl
theorem xb_1:∀ j,j<9->(blkCells xB1 nilS++blkCells xB2 nilS)[0+0 * 9+j]?=(blkCells xB1 (.slice none xB1.lab.after.length 0))[j]?:=fun j hj=>by
 have:j=0\/j=1\/j=2\/j=3\/j=4\/j=5\/j=6\/j=7\/j=8:=by omega
 rcases this with rfl | rfl | rfl | rfl | rfl | rfl | rfl | rfl | rfl
 all_goals (refine Eq.trans (b:=_) ?_ rfl;kernel_rfl)
theorem xb_2:∀ j,j<9->(blkCells xB1 nilS++blkCells xB2 nilS)[0+1 * 9+j]?=(blkCells xB2 (.slice none xB2.lab.after.length 0))[j]?:=fun j hj=>by
 have:j=0\/j=1\/j=2\/j=3\/j=4\/j=5\/j=6\/j=7\/j=8:=by omega
 rcases this with rfl | rfl | rfl | rfl | rfl | rfl | rfl | rfl | rfl
 all_goals (refine Eq.trans (b:=_) ?_ rfl;kernel_rfl)
theorem ex_post (w:World):ExPost w (.returned (.slice (some ⟨w.heap.size+1+1,0,none⟩) 3 3)) (((w.alloc (.cells (blkCells xB1 nilS++blkCells xB2 nilS) 58)).alloc (.cells #[.string xRain] 9)).alloc (.cells (fctCells xF1 (.slice (some ⟨w.heap.size+1,0,none⟩) 1 1) (.slice (some ⟨w.heap.size,0,none⟩) 2 2) nilS++fctCells xF2 nilS nilS nilS++fctCells xF3 nilS nilS nilS) 50)):=by
 obtain⟨W,hW⟩:∃ W,W=((w.alloc (.cells (blkCells xB1 nilS++blkCells xB2 nilS) 58)).alloc (.cells #[.string xRain] 9)).alloc (.cells (fctCells xF1 (.slice (some ⟨w.heap.size+1,0,none⟩) 1 1) (.slice (some ⟨w.heap.size,0,none⟩) 2 2) nilS++fctCells xF2 nilS nilS nilS++fctCells xF3 nilS nilS nilS) 50):=⟨_,rfl⟩
 have h0:W.heap[w.heap.size]?=some (.cells (blkCells xB1 nilS++blkCells xB2 nilS) 58 (0,0)):=by
  rw[hW];exact(Below.heap_alloc _ _ _ (by simp;omega)).trans (heap_new1 w _ _)
 have h1:W.heap[w.heap.size+1]?=some (.cells #[.string xRain] 9 (0,0)):=by
  rw[hW]
  refine(Below.heap_alloc _ _ _ (by simp)).trans ?_
  have:=World.alloc_heap_new (w.alloc (.cells (blkCells xB1 nilS++blkCells xB2 nilS) 58)) (.cells #[.string xRain] 9)
  simpa using this
 have h2:W.heap[w.heap.size+1+1]?=some (.cells (fctCells xF1 (.slice (some ⟨w.heap.size+1,0,none⟩) 1 1) (.slice (some ⟨w.heap.size,0,none⟩) 2 2) nilS++fctCells xF2 nilS nilS nilS++fctCells xF3 nilS nilS nilS) 50 (0,0)):=by
  rw[hW]
  have:=World.alloc_heap_new ((w.alloc (.cells (blkCells xB1 nilS++blkCells xB2 nilS) 58)).alloc (.cells #[.string xRain] 9)) (.cells (fctCells xF1 (.slice (some ⟨w.heap.size+1,0,none⟩) 1 1) (.slice (some ⟨w.heap.size,0,none⟩) 2 2) nilS++fctCells xF2 nilS nilS nilS++fctCells xF3 nilS nilS nilS) 50)
  simpa using this
 have hb:Below w.heap.size w W:=by rw[hW];exact((bel1 w _).alloc (by simp) _).alloc (by simp;omega) _
 rw[<-hW]
 clear hW
 refine⟨_,rfl,⟨x_rowlen _,.inr ⟨w.heap.size+1+1,3,_,rfl,by omega,h2,Nat.le_refl 3,ml_d rfl,x_rowsize _,x_rowvals _⟩⟩,fun x hx=>?_,hb⟩
 have hF0:¬ (w.heap.size<w.heap.size\/(Value.slice (some ⟨w.heap.size+1+1,0,none⟩) 3 3).ownBlock=some w.heap.size):=by
  rintro (q | q)
  ·omega
  ·injection q with q
   have q:w.heap.size+1+1=w.heap.size:=q
   omega
 have hF1:¬ (w.heap.size+1<w.heap.size\/(Value.slice (some ⟨w.heap.size+1+1,0,none⟩) 3 3).ownBlock=some (w.heap.size+1)):=by
  rintro (q | q)
  ·omega
  ·injection q with q
   have q:w.heap.size+1+1=w.heap.size+1:=q
   omega
 simp only[xEs,List.mem_cons,List.mem_nil_iff,or_false]at hx
 rcases hx with rfl | rfl | rfl
 ·refine⟨x_fok _ (.inl rfl),⟨w.heap.size+1,0,⟨ml_d rfl,_,1,rfl,Nat.le_refl _,ml_d rfl,fun _=>rfl⟩,fun s hs=>?_,fun j hj=>?_⟩,⟨w.heap.size,0,⟨ml_d rfl,_,2,rfl,Nat.le_refl _,ml_d rfl,fun _=>rfl⟩,fun j hj=>?_⟩,IntsM.nil _⟩
  ·rw[List.mem_singleton.1 hs];exact ml_d rfl
  ·obtain rfl:j=0:=by
    have:j<1:=hj
    omega
   exact memFr_at h1 rfl hF1
  ·have hj2:j=0\/j=1:=by
    have:j<2:=hj
    omega
   rcases hj2 with rfl | rfl
   ·exact blk_at (x:=xB1) (ao:=none) (cap:=0) h0 hF0 xb_1 ⟨ml_d rfl,okI_d rfl,okI_d rfl⟩ (IntsM.nil _)
   ·exact blk_at (x:=xB2) (ao:=none) (cap:=0) h0 hF0 xb_2 ⟨ml_d rfl,okI_d rfl,okI_d rfl⟩ (IntsM.nil _)
 ·exact⟨x_fok _ (.inr (.inl rfl)),no_parts rfl rfl rfl⟩
 ·exact⟨x_fok _ (.inr (.inr (.inl rfl))),no_parts rfl rfl rfl⟩
theorem ex_post2 (w:World) (c0 c2:Array Value) (h0:c0=(blkCells xB1 nilS++blkCells xB2 nilS)) (h2:c2=(fctCells xF1 (.slice (some ⟨w.heap.size+1,0,none⟩) 1 1) (.slice (some ⟨w.heap.size,0,none⟩) 2 2) nilS++fctCells xF2 nilS nilS nilS++fctCells xF3 nilS nilS nilS)):ExPost w (.returned (.slice (some ⟨w.heap.size+1+1,0,none⟩) 3 3)) (((w.alloc (.cells c0 58)).alloc (.cells #[.string xRain] 9)).alloc (.cells c2 50)):=by
 subst h0 h2
 exact ex_post w
set_option maxRecDepth 100000 in
set_option maxHeartbeats 4000000 in
theorem example_any (w:World):Calls Tryz.prog 34 #[] w (ExPost w):=by
 go_enter Tryz.func34,Tryz.ntmps34
 go_wp2_with (first
  |((with_reducible refine at_sbuild 58 _ rfl ?_);go_must (refine wpList_buildTo rfl 58 _ rfl _ rfl _ (by simp[Act.eval,Act.put];with_reducible first|exact built_b1 | exact built_b2) ?_))
  |((with_reducible refine at_sbuild 50 _ rfl ?_);go_must (refine wpList_buildTo rfl 50 _ rfl _ rfl _ (by simp[Act.eval,Act.put];with_reducible first|exact built_f1 _ | exact built_f2 | exact built_f3) ?_))
  |((with_reducible refine at_sslice 37 _ _ rfl ?_);go_must (refine wpList_n_slice rfl E_blk 2 (by decide) (by decide) _ rfl _ (by simp[Act.eval,Act.put] <;> rfl) _ fill_bb ?_))
  |((with_reducible refine at_sslice 30 _ _ rfl ?_);go_must (refine wpList_one_slice rfl E_str _ rfl (.string xRain) rfl (by simp[Act.eval] <;> rfl) ?_))
  |((with_reducible refine at_sslice 22 _ _ rfl ?_);go_must (refine wpList_n_slice rfl E_fct 3 (by decide) (by decide) _ rfl [(0,.agg (fctCells xF1 (.slice (some ⟨w.heap.size+1,0,none⟩) 1 1) (.slice (some ⟨w.heap.size,0,none⟩) 2 2) nilS)),(1,.agg (fctCells xF2 nilS nilS nilS)),(2,.agg (fctCells xF3 nilS nilS nilS))] (by simp[Act.eval,Act.put]) _ (fill_fff w.heap.size) ?_)))
 go_ret
 exact ex_post2 w _ _ (by kernel_rfl) (by kernel_rfl)
def Bld (w:World) (b:Nat) (l:List UInt8):Prop:=Lib.IsBuilder 82 5 b b (Lib.byteCells l) w/\b<w.heap.size
theorem bcells_app (l:List UInt8) (s:ByteArray):Lib.byteCells l++Lib.strCells s=Lib.byteCells (l++s.data.toList):=by unfold Lib.byteCells Lib.strCells;rw[List.map_append]
theorem bcells_len (l:List UInt8):(Lib.byteCells l).length=l.length:=List.length_map _
theorem Bld.new (w:World):Bld (w.alloc (.cells #[.pointer none,.slice none 0 0] 82)) w.heap.size []:=
 ⟨.inl ⟨Nat.le_refl _,.slice none 0 0,World.alloc_heap_new _ _,World.ownsRow_nil _ _ _ _,by intro e;cases e⟩,by simp⟩
theorem at_below {T e:TypeId} {b:Nat} {p:Value} {bs:List Value} {w w':World} (h:Lib.BuilderAt T e b b p bs w) (hb:Below w.heap.size w w'):Lib.BuilderAt T e b b p bs w':=by
 have hlt:=h.lt
 obtain⟨hB,v,hv,hown,hne⟩:=h
 refine⟨hB,v,(hb.block b hlt).trans hv,⟨hown.1,?_⟩,hne⟩
 rcases hown.2 with hq | ⟨g,cap,cur,rfl,h1,h2,rest⟩
 ·exact .inl hq
 ·exact .inr ⟨g,cap,cur,rfl,h1,(hb.block g (Array.getElem?_eq_some_iff.1 h2).1).trans h2,rest⟩
theorem Bld.bel {w w':World} {b:Nat} {l:List UInt8} (h:Bld w b l) (hb:Below w.heap.size w w'):Bld w' b l:=
 ⟨h.1.elim (fun x=>.inl (at_below x hb)) (fun x=>.inr (at_below x hb)),Nat.lt_of_lt_of_le h.2 hb.size⟩
theorem write_str {w:World} {b:Nat} {l:List UInt8} (h:Bld w b l) (s:ByteArray) (hl:l.length+s.size<=140737488355328):
 Calls Tryz.prog 41 #[.pointer (some ⟨b,0,none⟩),.string s] w fun e w'=>e=.returned (.tuple #[.int .i64 s.size,.nilIface])/\Bld w' b (l++s.data.toList)/\Below b w w':=by
 refine(Tryz.Builder_WriteString b b (Lib.byteCells l) s w h.1 (by rw[bcells_len];exact hl) (Nat.le_of_lt h.2)).mono ?_
 rintro e w' ⟨rfl,h1,h2⟩
 rw[bcells_app]at h1
 exact⟨rfl,⟨.inr h1,h1.lt⟩,h2⟩
theorem write_byte {w:World} {b:Nat} {l:List UInt8} (h:Bld w b l) (c:UInt8) (hl:l.length+1<=140737488355328):
 Calls Tryz.prog 42 #[.pointer (some ⟨b,0,none⟩),.int .u8 (c.toNat:Nat)] w fun e w'=>e=.returned .nilIface/\Bld w' b (l++[c])/\Below b w w':=by
 refine(Tryz.Builder_WriteByte b b (Lib.byteCells l) (c.toNat:Nat) w h.1 (by rw[bcells_len];exact hl) (Nat.le_of_lt h.2)).mono ?_
 rintro e w' ⟨rfl,h1,h2⟩
 have e1:Lib.byteCells l++[.int .u8 (c.toNat:Nat)]=Lib.byteCells (l++[c]):=by unfold Lib.byteCells;rw[List.map_append];rfl
 rw[e1]at h1
 exact⟨rfl,⟨.inr h1,h1.lt⟩,h2⟩
theorem bld_string {w:World} {b:Nat} {l:List UInt8} (h:Bld w b l):
 Calls Tryz.prog 43 #[.pointer (some ⟨b,0,none⟩)] w fun e w'=>e=.returned (.string (bs l))/\Below b w w':=
 Tryz.Builder_String_any b b l w h.1 (Nat.le_of_lt h.2)
def LineOf (k:Int) (t:ByteArray) (w:World) (e:Ending) (w':World):Prop:=e=.returned (.string (bs (lineF k t)))/\Below w.heap.size w w'
theorem line1_any (t:ByteArray) (w:World):Calls Tryz.prog 97 #[.string t] w (LineOf 1 t w):=by
 go_enter Tryz.func97,Tryz.ntmps97
 go_wp2_with fail
 go_ret
 exact⟨by rw[show lineF 1 t=t.data.toList from rfl,bs_of];rfl,Below.refl _ _⟩
theorem join_sents (t:ByteArray) (sv:Value) (W:World) {B:Nat} (h:GRow W B 9 1 sv (((sentF t).map bs).map fun x=>(#[.string x]:Array Value))) (hs:t.size<=1000000000000):
 Calls Tryz.prog 99 #[sv,.string ⟨#[32]⟩] W fun e w'=>e=.returned (.string (bs (joinB (sentF t))))/\Below W.heap.size W w':=by
 have hjl:=joinB_plain_len t
 have hll:(sentF t).length<=lenS (sentF t):=by
  generalize sentF t=P
  induction P with
  |nil=>exact Nat.zero_le _
  |cons a r ih=>show r.length+1<=a.length+1+lenS r;omega
 have hsl:=sentF_len t
 have hjoin:Lib.join (((sentF t).map bs).map (·.data.toList)) [32]=joinB (sentF t):=by
  rw[joinB_eq,List.map_map]
  congr 1
  have:((fun x:ByteArray=>x.data.toList) ∘ bs)=id:=funext fun l=>bs_list l
  rw[this,List.map_id]
 rcases Nat.eq_zero_or_pos (sentF t).length with hz | hp
 ·have he:sentF t=[]:=List.eq_nil_of_length_eq_zero hz
  obtain⟨ao,cap,e⟩:=h.shape
  rw[he]at e ⊢
  subst e
  refine(Tryz.strings_Join_none ao cap ⟨#[32]⟩ W).mono ?_
  rintro e w' ⟨rfl,rfl⟩
  exact⟨rfl,Below.refl _ _⟩
 ·have hlen:(((sentF t).map bs).map fun x=>(#[.string x]:Array Value)).length=(sentF t).length:=by rw[List.length_map,List.length_map]
  obtain⟨g,cap,e,hB,hg,hn,hc,hcell,_⟩:=h.at_ 0 (by rw[hlen];exact hp)
  rw[hlen]at e hn
  subst e
  have hcells:∀ (j:Nat) (x:ByteArray),((sentF t).map bs)[j]?=some x->W.cell? ⟨g,0+j,none⟩=some (.string x):=fun j x hj=>by
   obtain⟨hjl,rfl⟩:=List.getElem?_eq_some_iff.1 hj
   obtain⟨g',cap',e',_,_,_,_,hcell',_⟩:=h.at_ j (by rw[List.length_map];exact hjl)
   injection e' with e'
   injection e' with e'
   injection e' with e'
   subst e'
   have:=hcell' 0 (by omega)
   rw[List.getElem_map]at this
   rw[Nat.zero_add]
   simpa using this
  have:=Tryz.strings_Join g 0 cap ((sentF t).map bs) ⟨#[32]⟩ W hcells hg (by rw[List.length_map];omega) (by rw[List.length_map];exact hn) (by
   show (Lib.join _ [32]).length<=_
   rw[hjoin];omega)
  rw[List.length_map]at this
  refine this.mono fun e w' h=>?_
  have h1:=h.1
  have h2:(⟨#[32]⟩:ByteArray).data.toList=[32]:=rfl
  rw[h2,hjoin]at h1
  exact⟨h1,h.2⟩
set_option maxRecDepth 100000 in
set_option maxHeartbeats 1000000 in
theorem line2_any (t:ByteArray) (hs:t.size<=1000000000000) (w:World):Calls Tryz.prog 98 #[.string t] w (LineOf 2 t w):=by
 have cS:=Lib.hid (Sentences_any t (by omega) w)
 go_enter Tryz.func98,Tryz.ntmps98
 go_wp2_with fail
 refine cS.out.mono ?_
 rintro e w1 ⟨sv,rfl,hsr,hb1⟩
 have cJ:=Lib.hid (join_sents t sv w1 (lrow_of hsr) hs)
 have HB1:=Lib.hid hb1
 clear hsr hb1 cS
 go_wp2_with fail
 refine cJ.out.mono ?_
 rintro e w2 ⟨rfl,hb2⟩
 have HB2:=Lib.hid (HB1.out.trans (hb2.mono HB1.out.size))
 clear hb2 cJ
 go_wp2_with fail
 go_ret
 exact⟨rfl,HB2.out⟩
theorem line3_any (t:ByteArray) (hs:t.size<=1000000000000) (w:World):Calls Tryz.prog 101 #[.string t] w (LineOf 3 t w):=by
 have h1:ByteArray.size ⟨#[34]⟩=1:=rfl
 go_enter Tryz.func101,Tryz.ntmps101
 go_wp2_with fail
 go_ret
 refine⟨?_,Below.refl _ _⟩
 rw[show lineF 3 t=[34]++t.data.toList++[34] from rfl]
 exact congrArg (fun x=>Ending.returned (.string x)) (str_ext (by simp))
theorem line4_any (t:ByteArray) (hs:t.size<=1000000000000) (w:World):Calls Tryz.prog 102 #[.string t] w (LineOf 4 t w):=by
 have h1:ByteArray.size ⟨#[91]⟩=1:=rfl
 have h2:ByteArray.size ⟨#[93]⟩=1:=rfl
 go_enter Tryz.func102,Tryz.ntmps102
 go_wp2_with fail
 go_ret
 refine⟨?_,Below.refl _ _⟩
 rw[show lineF 4 t=[91]++t.data.toList++[93] from rfl]
 exact congrArg (fun x=>Ending.returned (.string x)) (str_ext (by simp))
theorem line5_any (t:ByteArray) (hs:t.size<=1000000000000) (w:World):Calls Tryz.prog 104 #[.string t] w (LineOf 5 t w):=by
 have h1:ByteArray.size ⟨#[35]⟩=1:=rfl
 go_enter Tryz.func104,Tryz.ntmps104
 go_wp2_with fail
 go_ret
 refine⟨?_,Below.refl _ _⟩
 rw[show lineF 5 t=[35]++t.data.toList from rfl]
 exact congrArg (fun x=>Ending.returned (.string x)) (str_ext (by simp))
def Blf (w:World) (b:Nat) (l:List UInt8):Prop:=Lib.IsBuilderF 82 5 b b (Lib.byteCells l) w/\b<w.heap.size
abbrev Kept (b:Nat) (w w':World):Prop:=Lib.OthersKept 5 (some b) w w'
theorem Bld.f {w:World} {b:Nat} {l:List UInt8} (h:Bld w b l):Blf w b l:=⟨Lib.IsBuilderF.of h.1,h.2⟩
theorem atF_below {T e:TypeId} {b:Nat} {p:Value} {bs:List Value} {w w':World} (h:Lib.BuilderAtF T e b b p bs w) (hb:Below w.heap.size w w'):Lib.BuilderAtF T e b b p bs w':=by
 have hlt:=h.lt
 obtain⟨hB,v,hv,hown,hne⟩:=h
 exact⟨hB,v,(hb.block b hlt).trans hv,hown.kept (row:=none) ⟨hb.os,hb.tape,hb.output,hb.size,fun k hk _=>hb.block k hk⟩ (Classical.em _),hne⟩
theorem Blf.bel {w w':World} {b:Nat} {l:List UInt8} (h:Blf w b l) (hb:Below w.heap.size w w'):Blf w' b l:=
 ⟨h.1.elim (fun x=>.inl (atF_below x hb)) (fun x=>.inr (atF_below x hb)),Nat.lt_of_lt_of_le h.2 hb.size⟩
theorem writeF_str {w:World} {b:Nat} {l:List UInt8} (h:Blf w b l) (s:ByteArray) (hl:l.length+s.size<=140737488355328):
 Calls Tryz.prog 41 #[.pointer (some ⟨b,0,none⟩),.string s] w fun e w'=>e=.returned (.tuple #[.int .i64 s.size,.nilIface])/\Blf w' b (l++s.data.toList)/\Below b w w'/\Kept b w w':=by
 refine(Tryz.Builder_WriteString_k b b (Lib.byteCells l) s w h.1 (by rw[bcells_len];exact hl) (Nat.le_of_lt h.2)).mono ?_
 rintro e w' ⟨rfl,h1,h2,h3⟩
 rw[bcells_app]at h1
 exact⟨rfl,⟨.inr h1,h1.lt⟩,h2,h3⟩
theorem writeF_byte {w:World} {b:Nat} {l:List UInt8} (h:Blf w b l) (c:UInt8) (hl:l.length+1<=140737488355328):
 Calls Tryz.prog 42 #[.pointer (some ⟨b,0,none⟩),.int .u8 (c.toNat:Nat)] w fun e w'=>e=.returned .nilIface/\Blf w' b (l++[c])/\Below b w w'/\Kept b w w':=by
 refine(Tryz.Builder_WriteByte_k b b (Lib.byteCells l) (c.toNat:Nat) w h.1 (by rw[bcells_len];exact hl) (Nat.le_of_lt h.2)).mono ?_
 rintro e w' ⟨rfl,h1,h2,h3⟩
 have e1:Lib.byteCells l++[.int .u8 (c.toNat:Nat)]=Lib.byteCells (l++[c]):=by unfold Lib.byteCells;rw[List.map_append];rfl
 rw[e1]at h1
 exact⟨rfl,⟨.inr h1,h1.lt⟩,h2,h3⟩
theorem blf_string {w:World} {b:Nat} {l:List UInt8} (h:Blf w b l):
 Calls Tryz.prog 43 #[.pointer (some ⟨b,0,none⟩)] w fun e w'=>e=.returned (.string (bs l))/\Below b w w':=by
 refine(Tryz.Builder_String_any_k b b l w h.1 (Nat.le_of_lt h.2)).mono ?_
 rintro e w' ⟨rfl,_,h2,_⟩
 exact⟨rfl,h2⟩
theorem Kept.blk {b:Nat} {w w':World} (h:Kept b w w') {g:Nat} {cs:Array Value} {t:TypeId} (hg:w.heap[g]?=some (.cells cs t (0,0))) (hne:g≠b) (ht:t≠5):w'.heap[g]?=some (.cells cs t (0,0)):=
 h g _ hg (fun e=>hne (by injection e)) (fun c fz e=>ht (by injection e))
def catF (xs:List ByteArray):List UInt8:=xs.flatMap fun x=>x.data.toList
set_option maxRecDepth 100000 in
set_option maxHeartbeats 4000000 in
theorem line_any {w:World} {b:Nat} {l:List UInt8} (h:Blf w b l) (xs:List ByteArray) (g cap:Nat) (cs:Array Value) (hg:w.heap[g]?=some (.cells cs 9 (0,0))) (hc:∀ j (hj:j<xs.length),cs[j]?=some (.string xs[j])) (hne:g≠b) (hx:xs.length<=1000) (hl:l.length+(catF xs).length+1<=140737488355328):
 Calls Tryz.prog 40 #[.slice (some ⟨g,0,none⟩) xs.length cap,.pointer (some ⟨b,0,none⟩)] w fun e w'=>e=.returned (.tuple #[])/\Blf w' b (l++catF xs++[10])/\Below b w w'/\Kept b w w':=by
 have HG:=Lib.hid hg
 have HC:=Lib.hid hc
 have H0:Hid (Blf w b (l++catF (xs.take 0))):=Lib.hid (by rw[List.take_zero];show Blf w b (l++[]);rw[List.append_nil];exact h)
 have hbw:=h.2
 have HLN:=Lib.hid hl
 have hxl:xs.length<=9223372036854775807:=by omega
 clear hg hc h hl
 go_enter Tryz.func40,Tryz.ntmps40
 go_wp2_with fail
 go_loopw [7] (fun i wr=>∃ k:Nat,k<=xs.length/\i=.int .i64 k/\Hid (Blf wr b (l++catF (xs.take k)))/\Hid (Below b w wr)/\Hid (Kept b w wr)) (fun i _=>xs.length - (intOf i).toNat)
 case atStart=>exact⟨0,Nat.zero_le _,rfl,H0,Lib.hid (Below.refl _ _),Lib.hid (Lib.OthersKept.refl _ _ _)⟩
 case round=>
  obtain⟨k,hk,rfl,HL,HB,HK⟩:=hrel
  by_cases hlt:k<xs.length
  ·have k0:wr.cell? ⟨g,k,none⟩=some (.string xs[k]):=(rowcell (HK.out.blk HG.out hne (by decide))).trans (HC.out k hlt)
   have HTK:Hid (catF (xs.take (k+1))=catF (xs.take k)++xs[k].data.toList):=Lib.hid (by rw[List.take_succ_eq_append_getElem hlt];unfold catF;rw[List.flatMap_append];simp)
   have hcl:(catF (xs.take k)).length+xs[k].size<=(catF xs).length:=by
    have h1:catF xs=catF (xs.take (k+1))++catF (xs.drop (k+1)):=by unfold catF;rw[<-List.flatMap_append,List.take_append_drop]
    rw[h1,HTK.out,List.length_append,List.length_append,size_list];omega
   have cW:=Lib.hid (writeF_str HL.out xs[k] (by have:=HLN.out;rw[List.length_append];omega))
   generalize xs[k]=x at *
   go_wp2_with fail
   refine cW.out.mono ?_
   rintro e w2 ⟨rfl,h1,h2,h3⟩
   have HL2:Hid (Blf w2 b (l++catF (xs.take (k+1)))):=Lib.hid (by rw[HTK.out,<-List.append_assoc];exact h1)
   have HB2:Hid (Below b w w2):=Lib.hid (HB.out.trans h2)
   have HK2:Hid (Kept b w w2):=Lib.hid (HK.out.trans h3)
   clear h1 h2 h3 cW k0
   go_wp2_with fail
   go_roundw
   case rel=>exact⟨k+1,by omega,by go_num,HL2,HB2,HK2⟩
   case measure=>simp[intOf];omega
  ·have e':k=xs.length:=by omega
   subst e'
   have hf:=HL.out
   rw[List.take_length]at hf
   have cB:=Lib.hid (writeF_byte hf 10 (by have:=HLN.out;rw[List.length_append];omega))
   clear hf
   go_wp2_with fail
   refine cB.out.mono ?_
   rintro e w2 ⟨rfl,h1,h2,h3⟩
   have HR:Hid (Blf w2 b (l++catF xs++[10])/\Below b w w2/\Kept b w w2):=Lib.hid ⟨h1,HB.out.trans h2,HK.out.trans h3⟩
   clear h1 h2 h3 cB
   go_wp2_with fail
   refine bodyPost_end (results_none rfl _ _ _) rfl ?_
   exact⟨rfl,HR.out⟩
theorem containsS_has (l:List ByteArray) (x:ByteArray):Lib.containsS l x=hasT l x:=by
 rw[Bool.eq_iff_iff,Lib.containsS_iff]
 unfold hasT
 simp
theorem contains_any {mem:Addr->Option Value} {v:Value} {l:List ByteArray} (h:StrsM mem v l) (x:ByteArray) (w:World) (hs:Sees mem w):
 Calls Tryz.prog 85 #[v,.string x] w fun e w'=>e=.returned (.bool (hasT l x))/\w'=w:=by
 obtain⟨ao,cap,b,o,rfl,hcap,hm,h1,h2,h3⟩:=h.open_ hs
 rcases Nat.eq_zero_or_pos l.length with hz | hp
 ·obtain rfl:l=[]:=List.eq_nil_of_length_eq_zero hz
  exact Tryz.slices_Contains_string_empty ao cap x w
 ·obtain rfl:=h1 hp
  have:=Tryz.slices_Contains_string b o l.length cap l x w (Nat.le_refl _) (by unfold maxLen at hm;omega) (fun j hj=>by
   rw[h3 j hj,List.getD_eq_getElem?_getD,List.getElem?_eq_getElem hj];rfl)
  rw[List.take_length,containsS_has]at this
  exact this
def countK (s:StF) (topic:ByteArray) (k:Nat):Nat:=((s.stories.take k).filter fun x=>listedF x && hasT x.topics topic).length
theorem countK_step {s:StF} {topic:ByteArray} {k:Nat} (hk:k<s.stories.length):countK s topic (k+1)=countK s topic k+(if (listedF s.stories[k] && hasT s.stories[k].topics topic)=true then 1 else 0):=by
 unfold countK
 rw[List.take_succ_eq_append_getElem hk,List.filter_append,List.length_append]
 congr 1
 simp only[List.filter]
 cases hp:(listedF s.stories[k] && hasT s.stories[k].topics topic) <;> rfl
theorem countK_le (s:StF) (topic:ByteArray) (k:Nat):countK s topic k<=k:=by
 unfold countK
 refine Nat.le_trans (List.length_filter_le _ _) ?_
 rw[List.length_take];omega
set_option maxRecDepth 100000 in
set_option maxHeartbeats 8000000 in
theorem count_any {mem:Addr->Option Value} {v:Value} {s:StF} (h:StateM mem v s) (topic:ByteArray) (w:World) (hs:Sees mem w):
 Calls Tryz.prog 55 #[v,.string topic] w fun e w'=>e=.returned (.int .i64 (countS s topic:Nat))/\Below w.heap.size w w':=by
 obtain⟨sv,tv,rfl,h1,h2⟩:=h
 obtain⟨ta,tc,rfl⟩:=SlM.slice h2
 obtain⟨sa,sc,sb,so,rfl,hcap,hm,hsa,hat⟩:=SlM.open_ h1
 have HSA:=Lib.hid hsa
 have HAT:=Lib.hid hat
 have HS:=Lib.hid hs
 have hll:s.stories.length<=9223372036854775807:=by unfold maxLen at hm;omega
 obtain⟨W1,hW1⟩:∃ W1,W1=w.alloc (.cells #[.slice sa s.stories.length sc,.slice ta s.tpls.length tc] 27):=⟨_,rfl⟩
 have hb1:Below w.heap.size w W1:=by rw[hW1];exact bel1 w _
 have hn0:W1.heap[w.heap.size]?=some (.cells #[.slice sa s.stories.length sc,.slice ta s.tpls.length tc] 27 (0,0)):=by rw[hW1];exact World.alloc_heap_new w _
 have k0:W1.cell? ⟨w.heap.size,0,none⟩=some (.slice sa s.stories.length sc):=rowcell hn0
 have HB1:=Lib.hid hb1
 have HW1:=Lib.hid hW1
 clear h1 h2 hsa hat hs hb1 hW1 hn0
 go_enter Tryz.func55,Tryz.ntmps55
 go_upto_region 1 with fail
 rw[<-HW1.out]
 go_wp2_with fail
 clear k0
 go_loopw [11,5] (fun i c wr=>∃ k:Nat,k<=s.stories.length/\i=.int .i64 k/\c=.int .i64 (countK s topic k:Nat)/\Hid (Below W1.heap.size W1 wr)) (fun i _ _=>s.stories.length - (intOf i).toNat)
 case atStart=>exact⟨0,Nat.zero_le _,rfl,rfl,Lib.hid (Below.refl _ _)⟩
 case round=>
  obtain⟨k,hk,rfl,rfl,HB⟩:=hrel
  by_cases hlt:k<s.stories.length
  ·obtain rfl:=HSA.out (by omega)
   obtain⟨hok,tv,ev,cv,hcells,hP⟩:=HAT.out k hlt
   have HSW:=Lib.hid (HS.out.bel (HB1.out.trans (HB.out.mono HB1.out.size)))
   have HCL:=Lib.hid (cells_see (sz:=8) HSW.out hcells rfl)
   have HTOP:=Lib.hid hP.1
   have hcs:=countK_step (topic:=topic) hlt
   have hck:=countK_le s topic k
   obtain⟨t1,t2,e1,e2,c1,c2,rfl,rfl,rfl⟩:=hP.shape
   have HLI:Hid (listedF s.stories[k]=(!s.stories[k].retr && !s.stories[k].taken && decide (0<s.stories[k].eds.length))):=Lib.hid rfl
   have hel:s.stories[k].eds.length<=9223372036854775807:=by
    obtain⟨_,_,_,_,_,h1,h2,_⟩:=SlM.open_ hP.2.1
    unfold maxLen at h2;omega
   have HCS:=Lib.hid hcs
   clear hok hcells hP hcs
   generalize s.stories[k]=y at *
   generalize hn1:y.topics.length=n1 at *
   generalize hn2:y.eds.length=n2 at *
   generalize hn3:y.corr.length=n3 at *
   go_upto_region 5 with (first
    |((with_reducible refine at_sload 34 _ rfl ?_);go_must (refine wpList_smid rfl S_sty _ rfl (by simp[Act.eval]) (styCells y (.slice t1 n1 t2) (.slice e1 n2 e2) (.slice c1 n3 c2)) rfl HCL.out ?_))
    |((with_reducible refine at_sstore 34 _ _ rfl ?_);go_must (refine wpList_snew rfl S_sty _ _ rfl rfl _ _ (styCells y (.slice t1 n1 t2) (.slice e1 n2 e2) (.slice c1 n3 c2)) (by simp[Act.eval]) (by simp[Act.eval]) rfl rfl (by simp[Value.oneCell']) ?_)))
   obtain⟨W4,hW4⟩:∃ W4,W4=wr.alloc (.cells (styCells y (.slice t1 n1 t2) (.slice e1 n2 e2) (.slice c1 n3 c2)) 34):=⟨_,rfl⟩
   rw[<-hW4]
   have hb4:Below wr.heap.size wr W4:=by rw[hW4];exact bel1 _ _
   have hn4:W4.heap[wr.heap.size]?=some (.cells (styCells y (.slice t1 n1 t2) (.slice e1 n2 e2) (.slice c1 n3 c2)) 34 (0,0)):=by rw[hW4];exact World.alloc_heap_new _ _
   have q6:W4.cell? ⟨wr.heap.size,6,none⟩=some (.bool y.retr):=rowcell hn4
   have q7:W4.cell? ⟨wr.heap.size,7,none⟩=some (.bool y.taken):=rowcell hn4
   have q3:W4.cell? ⟨wr.heap.size,3,none⟩=some (.slice e1 n2 e2):=rowcell hn4
   have q2:W4.cell? ⟨wr.heap.size,2,none⟩=some (.slice t1 n1 t2):=rowcell hn4
   have HB4:Hid (Below W1.heap.size W1 W4):=Lib.hid (HB.out.trans (hb4.mono HB.out.size))
   have cC:=Lib.hid (contains_any HTOP.out topic W4 (HSW.out.bel hb4))
   have hwrap:IntKind.i64.wrap ((countK s topic k:Int)+1)=(countK s topic k:Int)+1:=IntWalk.i64_in _ (by omega)
   clear hW4 hb4 hn4
   have HNO:Hid (listedF y=false->countK s topic (k+1)=countK s topic k):=Lib.hid (fun e=>by rw[HCS.out,e];rfl)
   have HYES:Hid (listedF y=true->countK s topic (k+1)=countK s topic k+(if hasT y.topics topic=true then 1 else 0)):=Lib.hid (fun e=>by rw[HCS.out,e];rfl)
   generalize y.retr=br at *
   generalize y.taken=bt at *
   cases br
   ·cases bt
    ·by_cases hz:n2=0
     ·have HF:=Lib.hid (HNO.out (by rw[HLI.out,hz];rfl))
      subst hz
      clear HNO HYES HLI
      go_wp2_with fail
      go_roundw
      case rel=>exact⟨k+1,by omega,by go_num,by rw[HF.out],HB4⟩
      case measure=>simp[intOf];omega
     ·have HF:=Lib.hid (HYES.out (by rw[HLI.out];simp;omega))
      have hz2:(0:Int)<(n2:Int):=by omega
      clear HNO HYES HLI hz
      go_wp2_with fail
      refine cC.out.mono ?_
      rintro e w5 ⟨rfl,rfl⟩
      cases hb:hasT y.topics topic with
      |false=>
       rw[hb]at HF
       clear hb
       go_wp2_with fail
       go_roundw
       case rel=>exact⟨k+1,by omega,by go_num,by rw[HF.out];rfl,HB4⟩
       case measure=>simp[intOf];omega
      |true=>
       rw[hb]at HF
       clear hb
       go_wp2_with fail
       go_roundw
       case rel=>exact⟨k+1,by omega,by go_num,by rw[HF.out];simp,HB4⟩
       case measure=>simp[intOf];omega
    ·have HF:=Lib.hid (HNO.out (by rw[HLI.out];rfl))
     clear HNO HYES HLI
     go_wp2_with fail
     go_roundw
     case rel=>exact⟨k+1,by omega,by go_num,by rw[HF.out],HB4⟩
     case measure=>simp[intOf];omega
   ·have HF:=Lib.hid (HNO.out (by rw[HLI.out];rfl))
    clear HNO HYES HLI
    go_wp2_with fail
    go_roundw
    case rel=>exact⟨k+1,by omega,by go_num,by rw[HF.out],HB4⟩
    case measure=>simp[intOf];omega
  ·have e':k=s.stories.length:=by omega
   subst e'
   have HF:Hid (countK s topic s.stories.length=countS s topic):=Lib.hid (by unfold countK countS;rw[List.take_length])
   go_wp2_with fail
   go_ret
   rw[HF.out]
   exact⟨rfl,HB1.out.trans (HB.out.mono HB1.out.size)⟩
def BlkV (mem:Addr->Option Value) (v:Value) (x:Blk):Prop:=∃ a c,v=.agg (blkCells x (.slice a x.lab.after.length c))/\IntsM mem (.slice a x.lab.after.length c) x.lab.after/\x.text.size<=maxLen/\okI x.kind/\okI x.id
theorem blk0_V {mem:Addr->Option Value}:BlkV mem (.agg (blkCells blk0 (.slice none 0 0))) blk0:=⟨none,0,rfl,IntsM.nil _,Nat.zero_le _,okI_zero,okI_zero⟩
theorem built_blk0:Tryz.prog.built 58 []=some (blkCells blk0 (.slice none 0 0)):=by kernel_rfl
abbrev zBlkC:Array Value:=#[.int .i64 0,.int .i64 0,.string ⟨#[]⟩,.int .i64 0,.int .i64 0,.int .i64 0,.slice none 0 0,.int .i64 0,.int .i64 0]
theorem cells9_see {w:World} {b o:Nat} {x:Blk} {av:Value} (h:Cells9 w b o x av):∀ t,t<9->w.cell? ⟨b,o+t,none⟩=(blkCells x av)[t]?:=fun t ht=>by
 match t,ht with
 |0,_=>exact h.c0
 |1,_=>exact h.c1
 |2,_=>exact h.c2
 |3,_=>exact h.c3
 |4,_=>exact h.c4
 |5,_=>exact h.c5
 |6,_=>exact h.c6
 |7,_=>exact h.c7
 |8,_=>exact h.c8
theorem says_quoted {mem:Addr->Option Value} (b:Blk) (bv:Value) (cb:Nat):Says 83 (.pointer (some ⟨cb,0,none⟩)) (fun x=>decide (x.id=b.ref)) mem (fun W=>W.heap[cb]?=some (.cells (blkCells b bv) 58 (0,0))) where
 enters:=enters_of Tryz.func83 (by kernel_rfl) rfl
 keeps:=fun W W' hq hb=>(hb.block _ (hlt hq)).trans hq
 says:=fun W x a cap hq _ _=>by
  obtain⟨W1,hW1⟩:∃ W1,W1=W.alloc (.cells (blkCells x (.slice a x.lab.after.length cap)) 58):=⟨_,rfl⟩
  have hb1:Below W.heap.size W W1:=by rw[hW1];exact bel1 _ _
  have hx1:W1.heap[W.heap.size]?=some (.cells (blkCells x (.slice a x.lab.after.length cap)) 58 (0,0)):=by rw[hW1];exact World.alloc_heap_new _ _
  have k0:W1.cell? ⟨W.heap.size,0,none⟩=some (.int .i64 x.id):=rowcell hx1
  have k1:W1.cell? ⟨cb,4,none⟩=some (.int .i64 b.ref):=rowcell ((hb1.block _ (hlt hq)).trans hq)
  have HW1:=Lib.hid hW1
  have HB1:=Lib.hid hb1
  clear hW1 hb1 hx1 hq
  go_enter Tryz.func83,Tryz.ntmps83
  go_upto_region 1 with fail
  rw[<-HW1.out]
  go_wp2_with fail
  go_ret
  exact⟨ret_bool (by rw[Bool.eq_iff_iff];simp),HB1.out⟩
def QuoPost (mem:Addr->Option Value) (s:StF) (lang:ByteArray) (b:Blk) (w:World) (e:Ending) (w':World):Prop:=∃ u,e=.returned (.tuple #[u,.string (bs (quoS s lang b).2)])/\BlkV mem u (quoS s lang b).1/\Below w.heap.size w w'
section
variable {s:StF} {lang:ByteArray} {b:Blk} {X:StyF} {E:EdnF}
theorem quo_none (hX:styOf s b.story=X) (h:X.eds=[]):quoS s lang b=(blk0,tRemoved):=by unfold quoS;rw[hX,if_pos h]
theorem quo_no (hX:styOf s b.story=X) (hE:edFor X lang=E) (h:X.eds≠[]) (h2:∀ x∈E.blocks,decide (x.id=b.ref)=false):quoS s lang b=(blk0,tRemoved):=by
 unfold quoS
 rw[hX,hE,if_neg h,List.find?_eq_none.2 (fun x hx=>by rw[h2 x hx];decide)]
theorem quo_at (hX:styOf s b.story=X) (hE:edFor X lang=E) (h:X.eds≠[]) (k:Nat) (hk:k<E.blocks.length) (h2:decide ((E.blocks[k]).id=b.ref)=true) (h3:∀ j (hj:j<k),decide ((E.blocks[j]'(Nat.lt_trans hj hk)).id=b.ref)=false):
 quoS s lang b=if X.retr then (blk0,tRetracted) else (E.blocks[k],[]):=by
 unfold quoS
 rw[hX,hE,if_neg h,find_at k hk h2 h3]
end
set_option maxRecDepth 100000 in
set_option maxHeartbeats 8000000 in
theorem quoted_any {mem:Addr->Option Value} {v:Value} {s:StF} (h:StateM mem v s) (lang:ByteArray) {b:Blk} {bu:Value} (hb:BlkV mem bu b) (w:World) (hs:Sees mem w):
 Calls Tryz.prog 53 #[v,.string lang,bu] w (QuoPost mem s lang b w):=by
 have HST:=Lib.hid h
 obtain⟨sv,tv,rfl,h1,h2⟩:=h
 obtain⟨sa,sc,rfl⟩:=SlM.slice h1
 obtain⟨ta,tc,rfl⟩:=SlM.slice h2
 obtain⟨ba,bc,rfl,hbi,_,_,hbid⟩:=hb
 have HS:=Lib.hid hs
 generalize hbn:b.lab.after.length=bn at *
 obtain⟨W1,hW1⟩:∃ W1,W1=((w.alloc (.cells #[.slice sa s.stories.length sc,.slice ta s.tpls.length tc] 27)).alloc (.cells (blkCells b (.slice ba bn bc)) 58)).alloc (.cells zBlkC 58):=⟨_,rfl⟩
 have hb1:Below w.heap.size w W1:=by rw[hW1];exact((bel1 w _).alloc (by simp) _).alloc (by simp;omega) _
 have HN0:Hid (W1.heap[w.heap.size]?=some (.cells #[.slice sa s.stories.length sc,.slice ta s.tpls.length tc] 27 (0,0))):=Lib.hid (by rw[hW1];exact(Below.heap_alloc _ _ _ (by simp;omega)).trans (heap_new1 w _ _))
 have HN1:Hid (W1.heap[w.heap.size+1]?=some (.cells (blkCells b (.slice ba bn bc)) 58 (0,0))):=Lib.hid (by
  rw[hW1]
  refine(Below.heap_alloc _ _ _ (by simp)).trans ?_
  have:=World.alloc_heap_new (w.alloc (.cells #[.slice sa s.stories.length sc,.slice ta s.tpls.length tc] 27)) (.cells (blkCells b (.slice ba bn bc)) 58)
  simpa using this)
 have HN2:Hid (W1.heap[w.heap.size+2]?=some (.cells zBlkC 58 (0,0))):=Lib.hid (by
  rw[hW1]
  have:=World.alloc_heap_new ((w.alloc (.cells #[.slice sa s.stories.length sc,.slice ta s.tpls.length tc] 27)).alloc (.cells (blkCells b (.slice ba bn bc)) 58)) (.cells zBlkC 58)
  simpa using this)
 have k3:W1.cell? ⟨w.heap.size+1,3,none⟩=some (.int .i64 b.story):=rowcell HN1.out
 have HB1:=Lib.hid hb1
 have HW1:=Lib.hid hW1
 have hw1:w.heap.size+2<W1.heap.size:=hlt HN2.out
 have cS:=Lib.hid (storyAt_any HST.out b.story W1 (hs.bel hb1))
 clear h1 h2 hs hb1 hW1
 go_enter Tryz.func53,Tryz.ntmps53
 go_upto_region 1 with fail
 rw[<-HW1.out]
 go_wp2_with ((with_reducible refine at_sload 27 _ rfl ?_);go_must (refine wpList_sload rfl S_state _ rfl (by simp[Act.eval]) #[.slice sa s.stories.length sc,.slice ta s.tpls.length tc] rfl HN0.out ?_))
 refine cS.out.mono ?_
 rintro e W2 ⟨u,rfl,hu,hb2⟩
 have HFS:Hid ((findS s b.story).isSome=false->styOf s b.story=sty0):=Lib.hid (fun e=>by
  unfold styOf
  cases hf:findS s b.story with
  |none=>rfl
  |some x=>rw[hf]at e;cases e)
 have HU:=Lib.hid hu
 obtain⟨hok,t0,e0,c0,rfl,hP⟩:=hu
 have HE0:=Lib.hid hP.2.1
 obtain⟨t1,t2,e1,e2,c1,c2,rfl,rfl,rfl⟩:=hP.shape
 have HB2:=Lib.hid hb2
 clear hok hP hb2 cS k3
 generalize hX:styOf s b.story=X at *
 have HX:=Lib.hid hX
 clear hX
 generalize hn1:X.topics.length=n1 at *
 generalize hn2:X.eds.length=n2 at *
 generalize hn3:X.corr.length=n3 at *
 go_upto_region 2 with ((with_reducible refine at_sstore 34 _ _ rfl ?_);go_must (refine wpList_snew rfl S_sty _ _ rfl rfl _ _ (styCells X (.slice t1 n1 t2) (.slice e1 n2 e2) (.slice c1 n3 c2)) (by simp[Act.eval]) (by simp[Act.eval]) rfl rfl (by simp[Value.oneCell']) ?_))
 obtain⟨W3,hW3⟩:∃ W3,W3=W2.alloc (.cells (styCells X (.slice t1 n1 t2) (.slice e1 n2 e2) (.slice c1 n3 c2)) 34):=⟨_,rfl⟩
 rw[<-hW3]
 have hb3:Below W2.heap.size W2 W3:=by rw[hW3];exact bel1 _ _
 have HN3:Hid (W3.heap[W2.heap.size]?=some (.cells (styCells X (.slice t1 n1 t2) (.slice e1 n2 e2) (.slice c1 n3 c2)) 34 (0,0))):=Lib.hid (by rw[hW3];exact World.alloc_heap_new _ _)
 have HB3:Hid (Below W1.heap.size W1 W3):=Lib.hid (HB2.out.trans (hb3.mono HB2.out.size))
 have q3:W3.cell? ⟨W2.heap.size,3,none⟩=some (.slice e1 n2 e2):=rowcell HN3.out
 have HZ3:=Lib.hid ((HB3.out.block _ hw1).trans HN2.out)
 clear hW3 hb3
 generalize (findS s b.story).isSome=found at *
 by_cases hz:found=false\/n2=0
 ·have HQ:Hid (quoS s lang b=(blk0,tRemoved)):=Lib.hid (quo_none HX.out (by
   rcases hz with hz | hz
   ·rw[HFS.out hz];rfl
   ·exact List.eq_nil_of_length_eq_zero (hn2.trans hz)))
  rcases hz with hz | hz
  ·subst hz
   have HFIN:=Lib.hid (HQ.out)
   go_wp2_with (first
    |((with_reducible refine at_sbuild 58 _ rfl ?_);go_must (refine wpList_buildTo rfl 58 _ rfl _ rfl _ (by simp[Act.eval];with_reducible exact built_blk0) ?_))
    |((with_reducible refine at_sstore 58 _ _ rfl ?_);go_must (refine wpList_sstore (cs:=blkCells blk0 (.slice none 0 0)) rfl S_blk _ _ rfl (by simp[Act.eval,Act.put]) (by simp[Act.eval,Act.put]) HZ3.out rfl rfl (by simp[Value.oneCell']) ?_)))
   refine bodyPost_ret (results_cell_row2 (p:=6) (u:=7) (ty:=58) (by kernel_rfl) _ _ (w.heap.size+2) _ _ (0,0) _ (by simp) (setRow_heap _ _ _ _ _ _ HZ3.out) Tryz.underlying58 rfl (by kernel_rfl)) rfl ?_
   unfold QuoPost
   rw[HFIN.out]
   exact⟨_,rfl,blk0_V,below_setRow (HB1.out.trans (HB3.out.mono HB1.out.size)) (by omega) _⟩
  ·subst hz
   have hf0:found=false\/found=true:=by cases found <;> simp
   rcases hf0 with hf0 | hf0
   ·subst hf0
    have HFIN:=Lib.hid (HQ.out)
    go_wp2_with (first
     |((with_reducible refine at_sbuild 58 _ rfl ?_);go_must (refine wpList_buildTo rfl 58 _ rfl _ rfl _ (by simp[Act.eval];with_reducible exact built_blk0) ?_))
     |((with_reducible refine at_sstore 58 _ _ rfl ?_);go_must (refine wpList_sstore (cs:=blkCells blk0 (.slice none 0 0)) rfl S_blk _ _ rfl (by simp[Act.eval,Act.put]) (by simp[Act.eval,Act.put]) HZ3.out rfl rfl (by simp[Value.oneCell']) ?_)))
    refine bodyPost_ret (results_cell_row2 (p:=6) (u:=7) (ty:=58) (by kernel_rfl) _ _ (w.heap.size+2) _ _ (0,0) _ (by simp) (setRow_heap _ _ _ _ _ _ HZ3.out) Tryz.underlying58 rfl (by kernel_rfl)) rfl ?_
    unfold QuoPost
    rw[HFIN.out]
    exact⟨_,rfl,blk0_V,below_setRow (HB1.out.trans (HB3.out.mono HB1.out.size)) (by omega) _⟩
   ·subst hf0
    have HFIN:=Lib.hid (HQ.out)
    go_wp2_with (first
     |((with_reducible refine at_sbuild 58 _ rfl ?_);go_must (refine wpList_buildTo rfl 58 _ rfl _ rfl _ (by simp[Act.eval];with_reducible exact built_blk0) ?_))
     |((with_reducible refine at_sstore 58 _ _ rfl ?_);go_must (refine wpList_sstore (cs:=blkCells blk0 (.slice none 0 0)) rfl S_blk _ _ rfl (by simp[Act.eval,Act.put]) (by simp[Act.eval,Act.put]) HZ3.out rfl rfl (by simp[Value.oneCell']) ?_)))
    refine bodyPost_ret (results_cell_row2 (p:=6) (u:=7) (ty:=58) (by kernel_rfl) _ _ (w.heap.size+2) _ _ (0,0) _ (by simp) (setRow_heap _ _ _ _ _ _ HZ3.out) Tryz.underlying58 rfl (by kernel_rfl)) rfl ?_
    unfold QuoPost
    rw[HFIN.out]
    exact⟨_,rfl,blk0_V,below_setRow (HB1.out.trans (HB3.out.mono HB1.out.size)) (by omega) _⟩
 ·have hft:found=true:=by cases found <;> simp at hz ⊢
  have hnz:n2≠0:=fun e=>hz (.inr e)
  subst hft
  have hel:n2<=9223372036854775807:=by
   obtain⟨_,_,_,_,e,h1,h2,_⟩:=SlM.open_ HE0.out
   rw[hn2]at h1
   unfold maxLen at h2;omega
  have hnz2:((n2:Int) == 0)=false:=by simpa using hnz
  have HNE:Hid (X.eds≠[]):=Lib.hid (fun e=>hnz (by rw[<-hn2,e];rfl))
  have cE:=Lib.hid (editionAt_any HU.out lang W3 (HS.out.bel (HB1.out.trans (HB3.out.mono HB1.out.size))))
  clear hz
  go_wp2_with ((with_reducible refine at_sload 34 _ rfl ?_);go_must (refine wpList_sload rfl S_sty _ rfl (by simp[Act.eval]) (styCells X (.slice t1 n1 t2) (.slice e1 n2 e2) (.slice c1 n3 c2)) rfl HN3.out ?_))
  refine cE.out.mono ?_
  rintro e W4 ⟨u,rfl,hu,hb4⟩
  have HEF:Hid (edFor X lang=(findE X.eds lang).getD (X.eds.headD edn0)):=Lib.hid rfl
  generalize findE X.eds lang=fe at *
  obtain⟨hok,b0,rfl,hP⟩:=hu
  obtain⟨b1,b2,rfl⟩:=hP.slice
  have HBM:=Lib.hid hP
  have HB4:Hid (Below W1.heap.size W1 W4):=Lib.hid (HB3.out.trans (hb4.mono HB3.out.size))
  have HN4:=Lib.hid ((hb4.block _ (hlt HN3.out)).trans HN3.out)
  clear hok hP hb4 cE q3
  generalize hE:fe.getD edn0=E at *
  generalize hnb:E.blocks.length=nb at *
  go_upto_region 5 with ((with_reducible refine at_sstore 39 _ _ rfl ?_);go_must (refine wpList_snew rfl S_edn _ _ rfl rfl _ _ (ednCells E (.slice b1 nb b2)) (by simp[Act.eval]) (by simp[Act.eval]) rfl rfl (by simp[Value.oneCell']) ?_))
  obtain⟨W5,hW5⟩:∃ W5,W5=W4.alloc (.cells (ednCells E (.slice b1 nb b2)) 39):=⟨_,rfl⟩
  rw[<-hW5]
  have hb5:Below W4.heap.size W4 W5:=by rw[hW5];exact bel1 _ _
  have hn5:W5.heap[W4.heap.size]?=some (.cells (ednCells E (.slice b1 nb b2)) 39 (0,0)):=by rw[hW5];exact World.alloc_heap_new _ _
  have HB5:Hid (Below W1.heap.size W1 W5):=Lib.hid (HB4.out.trans (hb5.mono HB4.out.size))
  have HN5:=Lib.hid hn5
  have HM5:=Lib.hid ((hb5.block _ (hlt HN4.out)).trans HN4.out)
  clear hW5 hb5 hn5
  cases hfe:fe with
  |some E0=>
   have hEF:edFor X lang=E:=by rw[HEF.out,hfe,<-hE,hfe];rfl
   have HEX:=Lib.hid hEF
   obtain⟨W6,hW6⟩:∃ W6,W6=W5:=⟨_,rfl⟩
   have HB6:Hid (Below W1.heap.size W1 W6):=Lib.hid (by rw[hW6];exact HB5.out)
   have HN6:Hid (W6.heap[W4.heap.size]?=some (.cells (ednCells E (.slice b1 nb b2)) 39 (0,0))):=Lib.hid (by rw[hW6];exact HN5.out)
   have HM6:Hid (W6.heap[W2.heap.size]?=some (.cells (styCells X (.slice t1 n1 t2) (.slice e1 n2 e2) (.slice c1 n3 c2)) 34 (0,0))):=Lib.hid (by rw[hW6];exact HM5.out)
   clear hEF hE
   rw[show (some E0:Option EdnF).isSome=true from rfl]
   go_upto_region 7 with fail
   rw[<-hW6]
   clear hW6
   have k63:W6.cell? ⟨W4.heap.size,3,none⟩=some (.slice b1 nb b2):=rowcell HN6.out
   have HSW:=Lib.hid (HS.out.bel (HB1.out.trans (HB6.out.mono HB1.out.size)))
   have hbm6:=HBM.out
   have cI:=Lib.hid (indexFunc_any hbm6 (says_quoted b (.slice ba bn bc) (w.heap.size+1)) W6 HSW.out ((HB6.out.block _ (by omega)).trans HN1.out))
   clear hbm6
   go_wp2_with fail
   refine cI.out.mono ?_
   rintro e W7 ⟨i,rfl,hi,hb7⟩
   have HB7:Hid (Below W1.heap.size W1 W7):=Lib.hid (HB6.out.trans (hb7.mono HB6.out.size))
   have HN7:=Lib.hid ((hb7.block _ (hlt HN6.out)).trans HN6.out)
   have HM7:=Lib.hid ((hb7.block _ (hlt HM6.out)).trans HM6.out)
   have HZ7:=Lib.hid ((HB7.out.block _ hw1).trans HN2.out)
   clear hb7 cI k63
   rcases hi with ⟨rfl,hno⟩ | ⟨k,rfl,hk,hyes,hbef⟩
   ·have HFIN:=Lib.hid (quo_no HX.out HEX.out HNE.out hno)
    clear hno
    go_wp2_with (first
     |((with_reducible refine at_sbuild 58 _ rfl ?_);go_must (refine wpList_buildTo rfl 58 _ rfl _ rfl _ (by simp[Act.eval];with_reducible exact built_blk0) ?_))
     |((with_reducible refine at_sstore 58 _ _ rfl ?_);go_must (refine wpList_sstore (cs:=blkCells blk0 (.slice none 0 0)) rfl S_blk _ _ rfl (by simp[Act.eval,Act.put]) (by simp[Act.eval,Act.put]) HZ7.out rfl rfl (by simp[Value.oneCell']) ?_)))
    refine bodyPost_ret (results_cell_row2 (p:=6) (u:=7) (ty:=58) (by kernel_rfl) _ _ (w.heap.size+2) _ _ (0,0) _ (by simp) (setRow_heap _ _ _ _ _ _ HZ7.out) Tryz.underlying58 rfl (by kernel_rfl)) rfl ?_
    unfold QuoPost
    rw[HFIN.out]
    exact⟨_,rfl,blk0_V,below_setRow (HB1.out.trans (HB7.out.mono HB1.out.size)) (by omega) _⟩
   ·have HFIN:=Lib.hid (quo_at HX.out HEX.out HNE.out k hk hyes hbef)
    have q6:W7.cell? ⟨W2.heap.size,6,none⟩=some (.bool X.retr):=rowcell HM7.out
    have k73:W7.cell? ⟨W4.heap.size,3,none⟩=some (.slice b1 nb b2):=rowcell HN7.out
    clear hyes hbef
    cases hr:X.retr with
    |true=>
     rw[hr]at q6 HFIN
     clear hr
     go_wp2_with (first
      |((with_reducible refine at_sbuild 58 _ rfl ?_);go_must (refine wpList_buildTo rfl 58 _ rfl _ rfl _ (by simp[Act.eval];with_reducible exact built_blk0) ?_))
      |((with_reducible refine at_sstore 58 _ _ rfl ?_);go_must (refine wpList_sstore (cs:=blkCells blk0 (.slice none 0 0)) rfl S_blk _ _ rfl (by simp[Act.eval,Act.put]) (by simp[Act.eval,Act.put]) HZ7.out rfl rfl (by simp[Value.oneCell']) ?_)))
     refine bodyPost_ret (results_cell_row2 (p:=6) (u:=7) (ty:=58) (by kernel_rfl) _ _ (w.heap.size+2) _ _ (0,0) _ (by simp) (setRow_heap _ _ _ _ _ _ HZ7.out) Tryz.underlying58 rfl (by kernel_rfl)) rfl ?_
     unfold QuoPost
     rw[HFIN.out]
     exact⟨_,rfl,blk0_V,below_setRow (HB1.out.trans (HB7.out.mono HB1.out.size)) (by omega) _⟩
    |false=>
     rw[hr]at q6 HFIN
     have HFIN:Hid (quoS s lang b=(E.blocks[k],[])):=Lib.hid (HFIN.out.trans (if_neg (by decide)))
     clear hr
     obtain⟨xa,xc,xb,xo,hxv,hx1,hx2,hxo,hxat⟩:=HBM.out.open_
     rw[hnb]at hxv hxo hx1
     injection hxv with hxv1 _ hxv3
     obtain rfl:=hxo (by omega)
     subst hxv1 hxv3
     obtain⟨⟨g1,g2,g3⟩,na,nc,hi9,hc9⟩:=(hxat k hk).nine (HS.out.bel (HB1.out.trans (HB7.out.mono HB1.out.size)))
     have HC9:=Lib.hid (cells9_see hc9)
     have HI9:=Lib.hid hi9
     have hkn:(k:Int)<(nb:Int):=by omega
     have hnbl:nb<=9223372036854775807:=by unfold maxLen at hx2;omega
     clear hxo hxat hi9 hc9
     generalize E.blocks[k]=y at *
     generalize hny:y.lab.after.length=ny at *
     go_wp2_with (first
      |((with_reducible refine at_sload 58 _ rfl ?_);go_must (refine wpList_smid rfl S_blk _ rfl (by simp[Act.eval]) (blkCells y (.slice na ny nc)) rfl HC9.out ?_))
      |((with_reducible refine at_sstore 58 _ _ rfl ?_);go_must (refine wpList_sstore (cs:=blkCells y (.slice na ny nc)) rfl S_blk _ _ rfl (by simp[Act.eval,Act.put]) (by simp[Act.eval,Act.put]) HZ7.out rfl rfl (by simp[Value.oneCell']) ?_)))
     refine bodyPost_ret (results_cell_row2 (p:=6) (u:=7) (ty:=58) (by kernel_rfl) _ _ (w.heap.size+2) _ _ (0,0) _ (by simp) (setRow_heap _ _ _ _ _ _ HZ7.out) Tryz.underlying58 rfl (by kernel_rfl)) rfl ?_
     unfold QuoPost
     rw[HFIN.out]
     refine⟨_,rfl,⟨na,nc,by rw[hny],by rw[hny];exact HI9.out,g1,g2,g3⟩,below_setRow (HB1.out.trans (HB7.out.mono HB1.out.size)) (by omega) _⟩
  |none=>
   have hEn:E=edn0:=by rw[<-hE,hfe];rfl
   obtain⟨ea,ec,eb,eo,hev,_,_,heo,hat⟩:=SlM.open_ HE0.out
   rw[hn2]at hev heo
   injection hev with hev1 hev2 hev3
   obtain rfl:=heo (by omega)
   subst hev1 hev3
   have h0:0<X.eds.length:=by omega
   obtain⟨hok2,bv2,hc2,hm2⟩:=hat 0 h0
   have hhead:X.eds.headD edn0=X.eds[0]:=by
    generalize X.eds=l at *
    cases l with
    |nil=>simp at h0
    |cons a r=>rfl
   have hEF:edFor X lang=X.eds[0]:=by rw[HEF.out,hfe,<-hhead];rfl
   obtain⟨d1,d2,rfl⟩:=hm2.slice
   rw[Nat.zero_mul,Nat.add_zero]at hc2
   have HCL:=Lib.hid (cells_see (sz:=5) (HS.out.bel (HB1.out.trans (HB5.out.mono HB1.out.size))) hc2 rfl)
   have HEX:=Lib.hid hEF
   have q35:W5.cell? ⟨W2.heap.size,3,none⟩=some (.slice (some ⟨eb,eo,none⟩) n2 e2):=rowcell HM5.out
   have hnz3:(0:Int)<(n2:Int):=by omega
   have hnz4:0<n2:=by omega
   clear hev2 heo hat hok2 hc2 hhead hEF HBM hnb hEn hE
   have HBM:=Lib.hid hm2
   clear hm2
   generalize X.eds[0]=E2 at *
   generalize hnb:E2.blocks.length=nb2 at *
   clear h0
   rw[show (none:Option EdnF).isSome=false from rfl]
   go_upto_region 7 with (first
    |((with_reducible refine at_sload 39 _ rfl ?_);go_must (refine wpList_smid rfl S_edn _ rfl (by simp[Act.eval]) (ednCells E2 (.slice d1 nb2 d2)) rfl HCL.out ?_))
    |((with_reducible refine at_sstore 39 _ _ rfl ?_);go_must (refine wpList_sstore (cs:=ednCells E2 (.slice d1 nb2 d2)) rfl S_edn _ _ rfl (by simp[Act.eval,Act.put]) (by simp[Act.eval,Act.put]) HN5.out rfl rfl (by simp[Value.oneCell']) ?_)))
   obtain⟨W6,hW6⟩:∃ W6,W6=W5.setRow W4.heap.size (ednCells E2 (.slice d1 nb2 d2)):=⟨_,rfl⟩
   have hw24:W2.heap.size<W4.heap.size:=hlt HN4.out
   have HB6:Hid (Below W1.heap.size W1 W6):=Lib.hid (by rw[hW6];exact below_setRow HB5.out HB4.out.size _)
   have HN6:Hid (W6.heap[W4.heap.size]?=some (.cells (ednCells E2 (.slice d1 nb2 d2)) 39 (0,0))):=Lib.hid (by rw[hW6];exact setRow_heap _ _ _ _ _ _ HN5.out)
   have HM6:Hid (W6.heap[W2.heap.size]?=some (.cells (styCells X (.slice t1 n1 t2) (.slice (some ⟨eb,eo,none⟩) n2 e2) (.slice c1 n3 c2)) 34 (0,0))):=Lib.hid (by rw[hW6];exact(setRow_other _ _ _ _ (by omega)).trans HM5.out)
   rw[<-hW6]
   clear q35 hW6
   have k63:W6.cell? ⟨W4.heap.size,3,none⟩=some (.slice d1 nb2 d2):=rowcell HN6.out
   have HSW:=Lib.hid (HS.out.bel (HB1.out.trans (HB6.out.mono HB1.out.size)))
   have hbm6:=HBM.out
   have cI:=Lib.hid (indexFunc_any hbm6 (says_quoted b (.slice ba bn bc) (w.heap.size+1)) W6 HSW.out ((HB6.out.block _ (by omega)).trans HN1.out))
   clear hbm6
   go_wp2_with fail
   refine cI.out.mono ?_
   rintro e W7 ⟨i,rfl,hi,hb7⟩
   have HB7:Hid (Below W1.heap.size W1 W7):=Lib.hid (HB6.out.trans (hb7.mono HB6.out.size))
   have HN7:=Lib.hid ((hb7.block _ (hlt HN6.out)).trans HN6.out)
   have HM7:=Lib.hid ((hb7.block _ (hlt HM6.out)).trans HM6.out)
   have HZ7:=Lib.hid ((HB7.out.block _ hw1).trans HN2.out)
   clear hb7 cI k63
   rcases hi with ⟨rfl,hno⟩ | ⟨k,rfl,hk,hyes,hbef⟩
   ·have HFIN:=Lib.hid (quo_no HX.out HEX.out HNE.out hno)
    clear hno
    go_wp2_with (first
     |((with_reducible refine at_sbuild 58 _ rfl ?_);go_must (refine wpList_buildTo rfl 58 _ rfl _ rfl _ (by simp[Act.eval];with_reducible exact built_blk0) ?_))
     |((with_reducible refine at_sstore 58 _ _ rfl ?_);go_must (refine wpList_sstore (cs:=blkCells blk0 (.slice none 0 0)) rfl S_blk _ _ rfl (by simp[Act.eval,Act.put]) (by simp[Act.eval,Act.put]) HZ7.out rfl rfl (by simp[Value.oneCell']) ?_)))
    refine bodyPost_ret (results_cell_row2 (p:=6) (u:=7) (ty:=58) (by kernel_rfl) _ _ (w.heap.size+2) _ _ (0,0) _ (by simp) (setRow_heap _ _ _ _ _ _ HZ7.out) Tryz.underlying58 rfl (by kernel_rfl)) rfl ?_
    unfold QuoPost
    rw[HFIN.out]
    exact⟨_,rfl,blk0_V,below_setRow (HB1.out.trans (HB7.out.mono HB1.out.size)) (by omega) _⟩
   ·have HFIN:=Lib.hid (quo_at HX.out HEX.out HNE.out k hk hyes hbef)
    have q6:W7.cell? ⟨W2.heap.size,6,none⟩=some (.bool X.retr):=rowcell HM7.out
    have k73:W7.cell? ⟨W4.heap.size,3,none⟩=some (.slice d1 nb2 d2):=rowcell HN7.out
    clear hyes hbef
    cases hr:X.retr with
    |true=>
     rw[hr]at q6 HFIN
     clear hr
     go_wp2_with (first
      |((with_reducible refine at_sbuild 58 _ rfl ?_);go_must (refine wpList_buildTo rfl 58 _ rfl _ rfl _ (by simp[Act.eval];with_reducible exact built_blk0) ?_))
      |((with_reducible refine at_sstore 58 _ _ rfl ?_);go_must (refine wpList_sstore (cs:=blkCells blk0 (.slice none 0 0)) rfl S_blk _ _ rfl (by simp[Act.eval,Act.put]) (by simp[Act.eval,Act.put]) HZ7.out rfl rfl (by simp[Value.oneCell']) ?_)))
     refine bodyPost_ret (results_cell_row2 (p:=6) (u:=7) (ty:=58) (by kernel_rfl) _ _ (w.heap.size+2) _ _ (0,0) _ (by simp) (setRow_heap _ _ _ _ _ _ HZ7.out) Tryz.underlying58 rfl (by kernel_rfl)) rfl ?_
     unfold QuoPost
     rw[HFIN.out]
     exact⟨_,rfl,blk0_V,below_setRow (HB1.out.trans (HB7.out.mono HB1.out.size)) (by omega) _⟩
    |false=>
     rw[hr]at q6 HFIN
     have HFIN:Hid (quoS s lang b=(E2.blocks[k],[])):=Lib.hid (HFIN.out.trans (if_neg (by decide)))
     clear hr
     obtain⟨xa,xc,xb,xo,hxv,hx1,hx2,hxo,hxat⟩:=HBM.out.open_
     rw[hnb]at hxv hxo hx1
     injection hxv with hxv1 _ hxv3
     obtain rfl:=hxo (by omega)
     subst hxv1 hxv3
     obtain⟨⟨g1,g2,g3⟩,na,nc,hi9,hc9⟩:=(hxat k hk).nine (HS.out.bel (HB1.out.trans (HB7.out.mono HB1.out.size)))
     have HC9:=Lib.hid (cells9_see hc9)
     have HI9:=Lib.hid hi9
     have hkn:(k:Int)<(nb2:Int):=by omega
     have hnbl:nb2<=9223372036854775807:=by unfold maxLen at hx2;omega
     clear hxo hxat hi9 hc9
     generalize E2.blocks[k]=y at *
     generalize hny:y.lab.after.length=ny at *
     go_wp2_with (first
      |((with_reducible refine at_sload 58 _ rfl ?_);go_must (refine wpList_smid rfl S_blk _ rfl (by simp[Act.eval]) (blkCells y (.slice na ny nc)) rfl HC9.out ?_))
      |((with_reducible refine at_sstore 58 _ _ rfl ?_);go_must (refine wpList_sstore (cs:=blkCells y (.slice na ny nc)) rfl S_blk _ _ rfl (by simp[Act.eval,Act.put]) (by simp[Act.eval,Act.put]) HZ7.out rfl rfl (by simp[Value.oneCell']) ?_)))
     refine bodyPost_ret (results_cell_row2 (p:=6) (u:=7) (ty:=58) (by kernel_rfl) _ _ (w.heap.size+2) _ _ (0,0) _ (by simp) (setRow_heap _ _ _ _ _ _ HZ7.out) Tryz.underlying58 rfl (by kernel_rfl)) rfl ?_
     unfold QuoPost
     rw[HFIN.out]
     refine⟨_,rfl,⟨na,nc,by rw[hny],by rw[hny];exact HI9.out,g1,g2,g3⟩,below_setRow (HB1.out.trans (HB7.out.mono HB1.out.size)) (by omega) _⟩
theorem bs_data (t:ByteArray):bs t.data.toList=t:=by cases t;simp[bs]
theorem digs_dec (i:Nat) (hi:i<100):Lib.decDigits i=digs i:=by
 unfold Lib.decDigits digs
 split
 ·rfl
 ·unfold Lib.decDigits
  rw[dif_pos (by omega)];rfl
theorem itoa_any (i:Nat) (hi:i<100) (w:World):Calls Tryz.prog 54 #[.int .i64 i] w fun e w'=>e=.returned (.string (bs (digs i)))/\w'=w:=by
 have:=Tryz.strconv_Itoa_small i hi w
 rw[digs_dec i hi]at this
 exact this
theorem quo_two (s:StF) (lang:ByteArray) (b:Blk):(quoS s lang b).2=[]\/(quoS s lang b).2=tRemoved\/(quoS s lang b).2=tRetracted:=by
 unfold quoS
 split
 ·exact .inr (.inl rfl)
 ·split
  ·exact .inr (.inl rfl)
  ·split
   ·exact .inr (.inr rfl)
   ·exact .inl rfl
set_option maxRecDepth 100000 in
set_option maxHeartbeats 8000000 in
theorem Resolve_any {mem:Addr->Option Value} {v:Value} {s:StF} (h:StateM mem v s) (hn:s.stories.length<100) (lang:ByteArray) {b:Blk} {bu:Value} (hb:BlkV mem bu b) (w:World) (hs:Sees mem w):
 Calls Tryz.prog 29 #[v,.string lang,bu] w fun e w'=>e=.returned (.string (bs (resS s lang b)))/\Below w.heap.size w w':=by
 have HST:=Lib.hid h
 obtain⟨sv,tv,rfl,h1,h2⟩:=h
 obtain⟨sa,sc,rfl⟩:=SlM.slice h1
 obtain⟨ta,tc,rfl⟩:=SlM.slice h2
 obtain⟨ba,bc,rfl,hbi,hb3⟩:=hb
 have HS:=Lib.hid hs
 have HIB:=Lib.hid (And.intro hbi hb3)
 obtain⟨W1,hW1⟩:∃ W1,W1=(w.alloc (.cells #[.slice sa s.stories.length sc,.slice ta s.tpls.length tc] 27)).alloc (.cells (blkCells b (.slice ba b.lab.after.length bc)) 58):=⟨_,rfl⟩
 have hb1:Below w.heap.size w W1:=by rw[hW1];exact(bel1 w _).alloc (by simp) _
 have HN0:Hid (W1.heap[w.heap.size]?=some (.cells #[.slice sa s.stories.length sc,.slice ta s.tpls.length tc] 27 (0,0))):=Lib.hid (by rw[hW1];exact heap_new1 w _ _)
 have HN1:Hid (W1.heap[w.heap.size+1]?=some (.cells (blkCells b (.slice ba b.lab.after.length bc)) 58 (0,0))):=Lib.hid (by
  rw[hW1]
  have:=World.alloc_heap_new (w.alloc (.cells #[.slice sa s.stories.length sc,.slice ta s.tpls.length tc] 27)) (.cells (blkCells b (.slice ba b.lab.after.length bc)) 58)
  simpa using this)
 have HB1:=Lib.hid hb1
 have HW1:=Lib.hid hW1
 clear h1 h2 hs hb1 hW1 hbi hb3
 go_enter Tryz.func29,Tryz.ntmps29
 go_upto_region 1 with fail
 rw[<-HW1.out]
 go_wp2_with fail
 go_loopw [7] (fun i wr=>∃ (n:Nat) (c:Blk) (ca:Option Addr) (cc:Nat),n<=8/\i=.int .i64 n/\Hid (resGo s lang (8 - n) c=resS s lang b)/\Hid (IntsM mem (.slice ca c.lab.after.length cc) c.lab.after/\c.text.size<=maxLen/\okI c.kind/\okI c.id)/\Hid (wr.heap[w.heap.size]?=some (.cells #[.slice sa s.stories.length sc,.slice ta s.tpls.length tc] 27 (0,0)))/\Hid (wr.heap[w.heap.size+1]?=some (.cells (blkCells c (.slice ca c.lab.after.length cc)) 58 (0,0)))/\Hid (Below w.heap.size w wr)) (fun i _=>8 - (intOf i).toNat)
 case atStart=>exact⟨0,b,ba,bc,by omega,rfl,Lib.hid rfl,HIB,HN0,HN1,HB1⟩
 case round=>
  obtain⟨n,c,ca,cc,hn8,rfl,HR,HI,HZ0,HZ1,HB⟩:=hrel
  have k1:wr.cell? ⟨w.heap.size+1,1,none⟩=some (.int .i64 c.kind):=rowcell HZ1.out
  have HBV:Hid (BlkV mem (.agg (blkCells c (.slice ca c.lab.after.length cc))) c):=Lib.hid ⟨ca,cc,rfl,HI.out⟩
  by_cases hk3:c.kind=3
  ·have HK3:=Lib.hid hk3
   rw[hk3]at k1
   clear hk3
   by_cases h8:n=8
   ·have HF:=Lib.hid (HR.out.symm.trans (show resGo s lang (8 - n) c=tCircular by rw[h8];exact resGo_circ s lang HK3.out))
    subst h8
    go_wp2_with fail
    go_ret
    exact⟨by rw[HF.out];rfl,HB.out⟩
   ·have hn9:((n:Int) == 8)=false:=by simp;omega
    have hn10:n<8:=by omega
    have cQ:=Lib.hid (quoted_any HST.out lang HBV.out wr (HS.out.bel HB.out))
    generalize hcl:c.lab.after.length=cl at *
    go_wp2_with (first
     |((with_reducible refine at_sload 27 _ rfl ?_);go_must (refine wpList_sload rfl S_state _ rfl (by simp[Act.eval]) #[.slice sa s.stories.length sc,.slice ta s.tpls.length tc] rfl HZ0.out ?_))
     |((with_reducible refine at_sload 58 _ rfl ?_);go_must (refine wpList_sload rfl S_blk _ rfl (by simp[Act.eval]) (blkCells c (.slice ca cl cc)) rfl HZ1.out ?_)))
    refine cQ.out.mono ?_
    rintro e W2 ⟨u,rfl,hu,hb2⟩
    have HQT:=Lib.hid (quo_two s lang c)
    have HQS:=Lib.hid (resGo_step s lang (8 - n - 1) HK3.out)
    have HQX:=Lib.hid (resGo_text s lang (8 - n - 1) HK3.out)
    have hne:8 - n - 1+1=8 - n:=by omega
    rw[hne]at HQS HQX
    clear hne
    generalize quoS s lang c=q at *
    obtain⟨qb,qt⟩:=q
    dsimp only at hu HQT HQS HQX
    obtain⟨xa,xc,rfl,hxi⟩:=hu
    have HXI:=Lib.hid hxi
    have HB2:Hid (Below w.heap.size w W2):=Lib.hid (HB.out.trans (hb2.mono HB.out.size))
    have HY0:=Lib.hid ((hb2.block _ (hlt HZ0.out)).trans HZ0.out)
    have HY1:=Lib.hid ((hb2.block _ (hlt HZ1.out)).trans HZ1.out)
    have hw2:wr.heap.size<=W2.heap.size:=hb2.size
    have hw1:w.heap.size+1<wr.heap.size:=hlt HZ1.out
    clear hxi hb2 cQ k1
    generalize hxl:qb.lab.after.length=xl at *
    go_upto_region 7 with ((with_reducible refine at_sstore 58 _ _ rfl ?_);go_must (refine wpList_snew rfl S_blk _ _ rfl rfl _ _ (blkCells qb (.slice xa xl xc)) (by simp[Act.eval]) (by simp[Act.eval]) rfl rfl (by simp[Value.oneCell']) ?_))
    obtain⟨W3,hW3⟩:∃ W3,W3=W2.alloc (.cells (blkCells qb (.slice xa xl xc)) 58):=⟨_,rfl⟩
    rw[<-hW3]
    have hb3:Below W2.heap.size W2 W3:=by rw[hW3];exact bel1 _ _
    have HN3:Hid (W3.heap[W2.heap.size]?=some (.cells (blkCells qb (.slice xa xl xc)) 58 (0,0))):=Lib.hid (by rw[hW3];exact World.alloc_heap_new _ _)
    have HB3:Hid (Below w.heap.size w W3):=Lib.hid (HB2.out.trans (hb3.mono HB2.out.size))
    have HX0:=Lib.hid ((hb3.block _ (hlt HY0.out)).trans HY0.out)
    have HX1:=Lib.hid ((hb3.block _ (hlt HY1.out)).trans HY1.out)
    clear hW3 hb3
    rcases HQT.out with h | h | h
    ·subst h
     rw[show bs ([]:List UInt8)=⟨#[]⟩ from rfl]
     have HNX:Hid (resGo s lang (8 - (n+1)) qb=resS s lang b):=Lib.hid (by
      have h1:=HQS.out rfl
      have h2:=HR.out
      rw[h1]at h2
      rw[show 8 - (n+1)=8 - n - 1 by omega]
      exact h2)
     go_wp2_with (first
      |((with_reducible refine at_sload 58 _ rfl ?_);go_must (refine wpList_sload rfl S_blk _ rfl (by simp[Act.eval]) (blkCells qb (.slice xa xl xc)) rfl HN3.out ?_))
      |((with_reducible refine at_sstore 58 _ _ rfl ?_);go_must (refine wpList_sstore (cs:=blkCells qb (.slice xa xl xc)) rfl S_blk _ _ rfl (by simp[Act.eval,Act.put]) (by simp[Act.eval,Act.put]) HX1.out rfl rfl (by simp[Value.oneCell']) ?_)))
     have hwr:IntKind.i64.wrap ((n:Int)+1)=(n:Int)+1:=IntWalk.i64_in _ (by omega)
     go_roundw
     case rel=>exact⟨n+1,qb,xa,xc,by omega,by go_num,HNX,by rw[hxl];exact HXI,Lib.hid ((setRow_other _ _ _ _ (by omega)).trans HX0.out),Lib.hid (by rw[hxl];exact setRow_heap _ _ _ _ _ _ HX1.out),Lib.hid (below_setRow HB3.out (by omega) _)⟩
     case measure=>simp[intOf];omega
    ·subst h
     have HF:=Lib.hid (HR.out.symm.trans (HQX.out (by decide)))
     rw[show bs tRemoved=⟨#[91,114,101,109,111,118,101,100,93]⟩ from rfl]
     go_wp2_with fail
     go_ret
     exact⟨by rw[HF.out];rfl,HB3.out⟩
    ·subst h
     have HF:=Lib.hid (HR.out.symm.trans (HQX.out (by decide)))
     rw[show bs tRetracted=⟨#[91,114,101,116,114,97,99,116,101,100,93]⟩ from rfl]
     go_wp2_with fail
     go_ret
     exact⟨by rw[HF.out];rfl,HB3.out⟩
  ·have HSH:=Lib.hid (HR.out.symm.trans (resGo_done s lang _ hk3))
   have hk4:(c.kind == 3)=false:=by simpa using hk3
   have k2:wr.cell? ⟨w.heap.size+1,2,none⟩=some (.string c.text):=rowcell HZ1.out
   have HSD:Hid (shown s c=if c.kind=5 then digs (countS s c.text) else c.text.data.toList):=Lib.hid rfl
   clear hk3
   by_cases hk5:c.kind=5
   ·have hcn:countS s c.text<100:=by
     have:countS s c.text<=s.stories.length:=List.length_filter_le _ _
     omega
    have HF:Hid (resS s lang b=digs (countS s c.text)):=Lib.hid (by rw[HSH.out,HSD.out,if_pos hk5])
    rw[hk5]at k1 hk4
    have cC:=Lib.hid (count_any HST.out c.text wr (HS.out.bel HB.out))
    clear hk5
    go_wp2_with ((with_reducible refine at_sload 27 _ rfl ?_);go_must (refine wpList_sload rfl S_state _ rfl (by simp[Act.eval]) #[.slice sa s.stories.length sc,.slice ta s.tpls.length tc] rfl HZ0.out ?_))
    refine cC.out.mono ?_
    rintro e W2 ⟨rfl,hb2⟩
    have HB2:Hid (Below w.heap.size w W2):=Lib.hid (HB.out.trans (hb2.mono HB.out.size))
    have cI:=Lib.hid (itoa_any (countS s c.text) hcn W2)
    clear hb2 cC
    go_wp2_with fail
    refine cI.out.mono ?_
    rintro e W3 ⟨rfl,rfl⟩
    go_wp2_with fail
    go_ret
    exact⟨by rw[HF.out];rfl,HB2.out⟩
   ·have hk6:(c.kind == 5)=false:=by simpa using hk5
    have HF:Hid (resS s lang b=c.text.data.toList):=Lib.hid (by rw[HSH.out,HSD.out,if_neg hk5])
    clear hk5
    go_wp2_with fail
    go_ret
    exact⟨by rw[HF.out,bs_data];rfl,HB.out⟩
end Go.Proofs.YtdkkhmjlamkgdaaGreatDoor

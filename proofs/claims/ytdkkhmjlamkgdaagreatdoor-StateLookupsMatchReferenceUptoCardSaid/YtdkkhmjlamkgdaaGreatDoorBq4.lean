/-
  WHAT IS PROVED HERE: 15 texts joined, each with its own head: what the walks of the program give. Conditions: each at its place.
-/
import Derived.Test.YtdkkhmjlamkgdaaGreatDoorBq3
namespace Go.Proofs.YtdkkhmjlamkgdaaGreatDoor
open Go.RowKit Mg Go.Shelf Go.Maps
theorem S_rule:StructT Tryz.prog 125 3:=⟨⟨_,Tryz.underlying125⟩,by kernel_rfl,by decide⟩
theorem rule_for {k:Int} (h:1<=k/\k<=5):∃ f q g,getL rulesL k=some (ruleV f q g)/\Enters Tryz.prog g/\∀ t:ByteArray,t.size<=1000000000000->∀ W,Calls Tryz.prog g #[.string t] W (LineOf k t W):=by
 have hk:k=1\/k=2\/k=3\/k=4\/k=5:=by omega
 rcases hk with rfl | rfl | rfl | rfl | rfl
 ·exact⟨_,_,_,rfl,enters_of Tryz.func97 (by kernel_rfl) rfl,fun t _ W=>line1_any t W⟩
 ·exact⟨_,_,_,rfl,enters_of Tryz.func98 (by kernel_rfl) rfl,fun t ht W=>line2_any t ht W⟩
 ·exact⟨_,_,_,rfl,enters_of Tryz.func101 (by kernel_rfl) rfl,fun t ht W=>line3_any t ht W⟩
 ·exact⟨_,_,_,rfl,enters_of Tryz.func102 (by kernel_rfl) rfl,fun t ht W=>line4_any t ht W⟩
 ·exact⟨_,_,_,rfl,enters_of Tryz.func104 (by kernel_rfl) rfl,fun t ht W=>line5_any t ht W⟩
theorem rule_no {k:Int} (h:¬ (1<=k/\k<=5)):getL rulesL k=none:=getL_none (by simp[keysL,rulesL];omega)
theorem lineOf_len (k:Int) (t:ByteArray):(lineOf k t).length<=t.size+3:=by
 unfold lineOf
 split
 ·have:=joinB_plain_len t
  have e:=size_list t
  unfold lineF
  repeat' split
  all_goals simp only[List.length_append,List.length_cons,List.length_nil];omega
 ·exact Nat.zero_le _
theorem plainB_snoc (l:List Blk) (x:Blk):plainB (l++[x])=plainB l++lineOf x.kind x.text:=by unfold plainB;rw[List.flatMap_append];simp
theorem plainB_len:∀ {l:List Blk},(∀ x∈l,x.text.size<=10000000000)->(plainB l).length<=l.length * 10000000003
 |[],_=>Nat.le_refl _
 |x::l,h=>by
  have h1:=plainB_len (fun y hy=>h y (List.mem_cons_of_mem _ hy))
  have h2:=lineOf_len x.kind x.text
  have h3:=h x List.mem_cons_self
  show (lineOf x.kind x.text++plainB l).length<=_
  rw[List.length_append,List.length_cons,Nat.succ_mul]
  omega
set_option maxRecDepth 100000 in
set_option maxHeartbeats 8000000 in
theorem plain_any {mem:Addr->Option Value} {v:Value} {l:List Blk} (h:BlksM mem v l) (hl:l.length<=1000) (ht:∀ x∈l,x.text.size<=10000000000) (w:World) (hs:Sees mem w):
 Calls Tryz.prog 44 #[v] w fun e w'=>e=.returned (.string (bs (plainB l)))/\Below w.heap.size w w':=by
 obtain⟨xa,xc,xb,xo,rfl,hcap,hm,hxa,hat⟩:=h.open_
 have HXA:=Lib.hid hxa
 have HAT:=Lib.hid hat
 have HS:=Lib.hid hs
 have HT:=Lib.hid ht
 have hll:l.length<=9223372036854775807:=by omega
 have cR:=Lib.hid (rules_any w)
 clear h hxa hat hs ht
 go_enter Tryz.func44,Tryz.ntmps44
 go_wp2_with fail
 refine cR.out.mono ?_
 rintro e W1 ⟨rfl,hrm,hb1⟩
 have hrl:=hrm.lt
 obtain⟨W2,hW2⟩:∃ W2,W2=W1.alloc (.cells #[.pointer none,.slice none 0 0] 82):=⟨_,rfl⟩
 have HBL:Hid (Bld W2 W1.heap.size []):=Lib.hid (by rw[hW2];exact Bld.new W1)
 have hb2:Below W1.heap.size W1 W2:=by rw[hW2];exact bel1 _ _
 have HRM:=Lib.hid (hrm.of_block (hb2.block _ hrl))
 have HB2:Hid (Below w.heap.size w W2):=Lib.hid (hb1.trans (hb2.mono hb1.size))
 have hb1s:=hb1.size
 have hb2s:=hb2.size
 have HW2:=Lib.hid hW2
 clear hrm hb1 hb2 hW2 cR
 go_upto_region 3 with fail
 rw[<-HW2.out]
 go_wp2_with fail
 go_loopw [12] (fun i wr=>∃ k:Nat,k<=l.length/\i=.int .i64 k/\Hid (Bld wr W1.heap.size (plainB (l.take k)))/\Hid (Below W1.heap.size W2 wr)) (fun i _=>l.length - (intOf i).toNat)
 case atStart=>exact⟨0,Nat.zero_le _,rfl,Lib.hid (by rw[List.take_zero];exact HBL.out),Lib.hid (Below.refl _ _)⟩
 case round=>
  obtain⟨k,hk,rfl,HL,HB⟩:=hrel
  have HBW:Hid (Below w.heap.size w wr):=Lib.hid (HB2.out.trans (HB.out.mono hb1s))
  by_cases hlt:k<l.length
  ·obtain rfl:=HXA.out (by omega)
   obtain⟨⟨g1,g2,g3⟩,na,nc,hi9,hc9⟩:=(HAT.out k hlt).nine (HS.out.bel HBW.out)
   have HC9:=Lib.hid (cells9_see hc9)
   have htx:=HT.out _ (List.getElem_mem hlt)
   have HTK:Hid (plainB (l.take (k+1))=plainB (l.take k)++lineOf l[k].kind l[k].text):=Lib.hid (by rw[List.take_succ_eq_append_getElem hlt,plainB_snoc])
   have hpl:(plainB (l.take k)).length<=1000 * 10000000003:=by
    have h1:=plainB_len (l:=l.take k) (fun x hx=>HT.out x (List.mem_of_mem_take hx))
    have h2:(l.take k).length<=1000:=by rw[List.length_take];omega
    exact Nat.le_trans h1 (Nat.mul_le_mul_right _ h2)
   have hll2:=lineOf_len l[k].kind l[k].text
   clear hi9 hc9
   generalize l[k]=x at *
   generalize hnx:x.lab.after.length=nx at *
   go_upto_region 6 with (first
    |((with_reducible refine at_sload 58 _ rfl ?_);go_must (refine wpList_smid rfl S_blk _ rfl (by simp[Act.eval]) (blkCells x (.slice na nx nc)) rfl HC9.out ?_))
    |((with_reducible refine at_sstore 58 _ _ rfl ?_);go_must (refine wpList_snew rfl S_blk _ _ rfl rfl _ _ (blkCells x (.slice na nx nc)) (by simp[Act.eval]) (by simp[Act.eval]) rfl rfl (by simp[Value.oneCell']) ?_)))
   obtain⟨W4,hW4⟩:∃ W4,W4=wr.alloc (.cells (blkCells x (.slice na nx nc)) 58):=⟨_,rfl⟩
   rw[<-hW4]
   have hb4:Below wr.heap.size wr W4:=by rw[hW4];exact bel1 _ _
   have hn4:W4.heap[wr.heap.size]?=some (.cells (blkCells x (.slice na nx nc)) 58 (0,0)):=by rw[hW4];exact World.alloc_heap_new _ _
   have q1:W4.cell? ⟨wr.heap.size,1,none⟩=some (.int .i64 x.kind):=rowcell hn4
   have HN4:=Lib.hid hn4
   have HB4:Hid (Below W1.heap.size W2 W4):=Lib.hid (HB.out.trans (hb4.mono (by have:=HB.out.size;omega)))
   have HL4:=Lib.hid (HL.out.bel hb4)
   have HM4:Hid (RMap W4 w.heap.size):=Lib.hid (HRM.out.of_block (HB4.out.block _ hrl))
   have hw4:W1.heap.size<=W4.heap.size:=by have:=HB4.out.size;omega
   clear hW4 hb4 hn4
   by_cases hkn:1<=x.kind/\x.kind<=5
   ·obtain⟨f,q,g,hg,hen0,hL⟩:=rule_for hkn
    have hen:∀ args w,(callFunc g args).run Tryz.prog w=.ok (.enter g args) w:=hen0
    have HG:=Lib.hid hg
    have HLN:=Lib.hid (hL x.text (by omega))
    have HLO:Hid (lineOf x.kind x.text=lineF x.kind x.text++[10]):=Lib.hid (by unfold lineOf;rw[if_pos hkn])
    clear hkn hg hL
    go_upto_region 7 with (first
     |(at_lookup;go_must (refine wpList_imap_lookOk _ rfl _ _ 120 rfl 3 125 Tryz.underlying3 Tryz.underlying120 (zero_rule _) w.heap.size rulesL rfl HM4.out x.kind rfl g2 (.agg #[.func (.func f) #[] #[],.bool q,.func (.func g) #[] #[]]) true (by rw[HG.out];rfl) (by rw[HG.out];rfl) ?_))
     |((with_reducible refine at_sstore 125 _ _ rfl ?_);go_must (refine wpList_snew rfl S_rule _ _ rfl rfl _ _ #[.func (.func f) #[] #[],.bool q,.func (.func g) #[] #[]] (by simp[Act.eval]) (by simp[Act.eval]) rfl rfl (by simp[Value.oneCell']) ?_)))
    obtain⟨W5,hW5⟩:∃ W5,W5=W4.alloc (.cells #[.func (.func f) #[] #[],.bool q,.func (.func g) #[] #[]] 125):=⟨_,rfl⟩
    rw[<-hW5]
    have hb5:Below W4.heap.size W4 W5:=by rw[hW5];exact bel1 _ _
    have hn5:W5.heap[W4.heap.size]?=some (.cells #[.func (.func f) #[] #[],.bool q,.func (.func g) #[] #[]] 125 (0,0)):=by rw[hW5];exact World.alloc_heap_new _ _
    have r2:W5.cell? ⟨W4.heap.size,2,none⟩=some (.func (.func g) #[] #[]):=rowcell hn5
    have q2:W5.cell? ⟨wr.heap.size,2,none⟩=some (.string x.text):=rowcell ((hb5.block _ (qh HN4.out)).trans HN4.out)
    have HL5:=Lib.hid (HL4.out.bel hb5)
    have HB5:Hid (Below W1.heap.size W2 W5):=Lib.hid (HB4.out.trans (hb5.mono hw4))
    have cL:=Lib.hid (HLN.out W5)
    clear hW5 hb5 hn5 q1
    go_wp2_with fail
    refine cL.out.mono ?_
    rintro e W6 ⟨rfl,hb6⟩
    have HL6:=Lib.hid (HL5.out.bel hb6)
    have HB6:Hid (Below W1.heap.size W2 W6):=Lib.hid (HB5.out.trans (hb6.mono (by have:=HB5.out.size;omega)))
    have hll3:(lineF x.kind x.text).length+1<=x.text.size+3:=by rw[HLO.out,List.length_append]at hll2;exact hll2
    have cW:=Lib.hid (write_str HL6.out (bs (lineF x.kind x.text)) (by rw[bs_size];omega))
    clear hb6 cL r2 q2 hen
    go_wp2_with fail
    refine cW.out.mono ?_
    rintro e W7 ⟨rfl,hl7,hb7⟩
    rw[bs_list]at hl7
    have HB7:Hid (Below W1.heap.size W2 W7):=Lib.hid (HB6.out.trans (hb7.mono (Nat.le_refl _)))
    have cB:=Lib.hid (write_byte hl7 10 (by rw[List.length_append];omega))
    clear hl7 hb7 cW
    go_wp2_with fail
    refine cB.out.mono ?_
    rintro e W8 ⟨rfl,hl8,hb8⟩
    have HL8:Hid (Bld W8 W1.heap.size (plainB (l.take (k+1)))):=Lib.hid (by rw[HTK.out,HLO.out,<-List.append_assoc];exact hl8)
    have HB8:Hid (Below W1.heap.size W2 W8):=Lib.hid (HB7.out.trans hb8)
    clear hl8 hb8 cB
    go_wp2_with fail
    go_roundw
    case rel=>exact⟨k+1,by omega,by go_num,HL8,HB8⟩
    case measure=>simp[intOf];omega
   ·have HG:=Lib.hid (rule_no hkn)
    have HTK2:Hid (plainB (l.take (k+1))=plainB (l.take k)):=Lib.hid (by
     rw[HTK.out]
     unfold lineOf
     rw[if_neg hkn,List.append_nil])
    clear hkn
    go_upto_region 7 with (first
     |(at_lookup;go_must (refine wpList_imap_lookOk _ rfl _ _ 120 rfl 3 125 Tryz.underlying3 Tryz.underlying120 (zero_rule _) w.heap.size rulesL rfl HM4.out x.kind rfl g2 (.agg #[.nilFunc,.bool false,.nilFunc]) false (by rw[HG.out];rfl) (by rw[HG.out];rfl) ?_))
     |((with_reducible refine at_sstore 125 _ _ rfl ?_);go_must (refine wpList_snew rfl S_rule _ _ rfl rfl _ _ #[.nilFunc,.bool false,.nilFunc] (by simp[Act.eval]) (by simp[Act.eval]) rfl rfl (by simp[Value.oneCell']) ?_)))
    obtain⟨W5,hW5⟩:∃ W5,W5=W4.alloc (.cells #[.nilFunc,.bool false,.nilFunc] 125):=⟨_,rfl⟩
    rw[<-hW5]
    have hb5:Below W4.heap.size W4 W5:=by rw[hW5];exact bel1 _ _
    have HL5:Hid (Bld W5 W1.heap.size (plainB (l.take (k+1)))):=Lib.hid (by rw[HTK2.out];exact HL4.out.bel hb5)
    have HB5:Hid (Below W1.heap.size W2 W5):=Lib.hid (HB4.out.trans (hb5.mono hw4))
    clear hW5 hb5 q1
    go_wp2_with fail
    go_roundw
    case rel=>exact⟨k+1,by omega,by go_num,HL5,HB5⟩
    case measure=>simp[intOf];omega
  ·have e':k=l.length:=by omega
   subst e'
   have hf:=HL.out
   rw[List.take_length]at hf
   have cS:=Lib.hid (bld_string hf)
   clear hf
   go_wp2_with fail
   refine cS.out.mono ?_
   rintro e W9 ⟨rfl,hb9⟩
   have HB9:Hid (Below w.heap.size w W9):=Lib.hid (HBW.out.trans (hb9.mono hb1s))
   clear hb9 cS
   go_wp2_with fail
   go_ret
   exact⟨rfl,HB9.out⟩
theorem upd_setCells (g:Nat):∀ (vs:List Value) (o:Nat) (w:World),Upd (fun k=>k=g) w (w.setCells g o vs)
 |[],_,w=>Upd.refl _ w
 |v::r,o,w=>(upd_cell w g o v).trans (upd_setCells g r (o+1) _) (fun _ h=>.inl h)
def setFrom (c:Array Value):Nat->List Value->Array Value
 |_,[]=>c
 |t,v::r=>setFrom (c.setIfInBounds t v) (t+1) r
theorem GRow.setCells {B:Nat} {e:TypeId} {sz g n cap j:Nat} (vs:List Value):∀ (t:Nat) (w:World) (cs:List (Array Value)),GRow w B e sz (.slice (some ⟨g,0,none⟩) n cap) cs->∀ (hj:j<cs.length),t+vs.length<=sz->(∀ u∈vs,u.oneCell'=true) →
 GRow (w.setCells g (j * sz+t) vs) B e sz (.slice (some ⟨g,0,none⟩) n cap) (cs.set j (setFrom (cs[j]'hj) t vs)):=by
 induction vs with
 |nil=>
  intro t w cs h hj _ _
  show GRow w B e sz _ (cs.set j cs[j])
  rw[List.set_getElem_self];exact h
 |cons v r ih=>
  intro t w cs h hj ht ho
  rw[List.length_cons]at ht
  have h1:=h.set_ j t hj (by omega) (u:=v) (ho v List.mem_cons_self)
  have h2:=ih (t+1) _ _ h1 (by rw[List.length_set];exact hj) (by omega) (fun u hu=>ho u (List.mem_cons_of_mem _ hu))
  rw[List.getElem_set_self,List.set_set]at h2
  exact h2
theorem set9 {mem:Addr->Option Value} {x:Blk} {c:Array Value} (h:CellsOf mem x c) (a0 a1 a2 a3 a4 a5 a6 a7 a8:Value):setFrom c 0 [a0,a1,a2,a3,a4,a5,a6,a7,a8]=#[a0,a1,a2,a3,a4,a5,a6,a7,a8]:=by
 obtain⟨a,cap,rfl,_⟩:=h
 apply Array.ext'
 simp[setFrom]
def ShowI (mem:Addr->Option Value) (s:StF) (lang:ByteArray) (l:List Blk) (w:World) (B k:Nat) (v:Value):Prop:=
 ∃ cs,GRow w B 58 9 v cs/\cs.length=l.length/\∀ j (h:j<l.length) (h2:j<cs.length),CellsOf mem (if j<k then shownB s lang l[j] else l[j]) cs[j]
theorem ShowI.bel {mem:Addr->Option Value} {s:StF} {lang:ByteArray} {l:List Blk} {w w':World} {B k:Nat} {v:Value} (h:ShowI mem s lang l w B k v) (hb:Below w.heap.size w w'):ShowI mem s lang l w' B k v:=by
 obtain⟨cs,h1,h2⟩:=h
 exact⟨cs,h1.bel hb,h2⟩
theorem ShowI.next {mem:Addr->Option Value} {s:StF} {lang:ByteArray} {l:List Blk} {w:World} {B k:Nat} {v:Value} {cs:List (Array Value)} {c:Array Value} (hk:k<l.length) (h2:cs.length=l.length) (h3:∀ j (h:j<l.length) (h2:j<cs.length),CellsOf mem (if j<k then shownB s lang l[j] else l[j]) cs[j])
 (hc:CellsOf mem (shownB s lang l[k]) c) (hr:GRow w B 58 9 v (cs.set k c)):ShowI mem s lang l w B (k+1) v:=by
 refine⟨_,hr,by rw[List.length_set];exact h2,fun j hj hj2=>?_⟩
 by_cases e:j=k
 ·subst e
  rw[if_pos (by omega),List.getElem_set_self];exact hc
 ·rw[List.getElem_set_ne (Ne.symm e)]
  have:=h3 j hj (by rw[List.length_set]at hj2;exact hj2)
  by_cases hjk:j<k
  ·rw[if_pos hjk]at this;rw[if_pos (by omega)];exact this
  ·rw[if_neg hjk]at this;rw[if_neg (by omega)];exact this
theorem ShowI.skip {mem:Addr->Option Value} {s:StF} {lang:ByteArray} {l:List Blk} {w:World} {B k:Nat} {v:Value} (h:ShowI mem s lang l w B k v) (hk:k<l.length) (he:shownB s lang l[k]=l[k]):ShowI mem s lang l w B (k+1) v:=by
 obtain⟨cs,h1,h2,h3⟩:=h
 refine⟨cs,h1,h2,fun j hj hj2=>?_⟩
 have:=h3 j hj hj2
 by_cases e:j=k
 ·subst e
  rw[if_neg (by omega)]at this
  rw[if_pos (by omega),he];exact this
 ·by_cases hjk:j<k
  ·rw[if_pos hjk]at this;rw[if_pos (by omega)];exact this
  ·rw[if_neg hjk]at this;rw[if_neg (by omega)];exact this
theorem shownB_ok {s:StF} {lang:ByteArray} {x:Blk} (h:okI x.kind/\okI x.id):okI (shownB s lang x).kind/\okI (shownB s lang x).id:=by
 unfold shownB
 split
 ·exact h
 ·split
  ·exact⟨(⟨by omega,by omega⟩:okI 2),okI_zero⟩
  ·exact h
theorem ShowI.done {mem:Addr->Option Value} {s:StF} {lang:ByteArray} {l:List Blk} {w:World} {B:Nat} {v:Value} (h:ShowI mem s lang l w B l.length v) (hs:Sees mem w) (hp:∀ x∈l,okI x.kind/\okI x.id) (ht:∀ x∈l,(shownB s lang x).text.size<=maxLen):BlksM (fun a=>w.cell? a) v (l.map (shownB s lang)):=by
 obtain⟨cs,h1,h2,h3⟩:=h
 obtain⟨b,q1,q2⟩:=h1.cellsFr (F:=fun _=>False) (fun _ _ h=>h)
 rw[h2]at q1
 refine⟨b,0,by rw[List.length_map];exact q1,fun j hj=>?_⟩
 have hjl:j<l.length:=by rw[List.length_map]at hj;exact hj
 have hjc:j<cs.length:=by rw[h2];exact hjl
 have hce:=h3 j hjl hjc
 rw[if_pos hjl]at hce
 obtain⟨a,cap,e,hi⟩:=hce
 have hq:∀ t,t<9->w.cell? ⟨b,0+j * 9+t,none⟩=(blkCells (shownB s lang l[j]) (.slice a (shownB s lang l[j]).lab.after.length cap))[t]?:=fun t ht=>by
  have:=q2 j hjc t ht
  rw[e]at this
  rw[Array.getElem?_eq_getElem (by simpa using ht)]at this ⊢
  exact memFr_sees w _ _ _ this
 rw[List.getElem_map]
 have hpj:=shownB_ok (s:=s) (lang:=lang) (hp l[j] (List.getElem_mem hjl))
 exact⟨⟨hq 0 (by omega),hq 1 (by omega),hq 2 (by omega),hq 3 (by omega),hq 4 (by omega)⟩,⟨hq 5 (by omega),hq 7 (by omega),hq 8 (by omega)⟩,⟨ht _ (List.getElem_mem hjl),hpj.1,hpj.2⟩,_,hq 6 (by omega),hi.mono (fun x u h=>hs x u h)⟩
theorem Blf.upd {w w':World} {b g:Nat} {l:List UInt8} {cells:Array Value} (h:Blf w b l) (hu:Upd (fun k=>k=g) w w') (hg:w.heap[g]?=some (.cells cells 58 (0,0))):Blf w' b l:=by
 refine⟨?_,Nat.lt_of_lt_of_le h.2 hu.size⟩
 have key:∀ {p:Value},Lib.BuilderAtF 82 5 b b p (Lib.byteCells l) w->Lib.BuilderAtF 82 5 b b p (Lib.byteCells l) w':=fun {p} hp=>by
  have hlt:=hp.lt
  obtain⟨hB,v,hv,hown,hne⟩:=hp
  have hbg:b≠g:=rows_apart hv hg (by decide)
  refine⟨hB,v,(hu.block b hlt hbg).trans hv,⟨hown.1,?_⟩,hne⟩
  rcases hown.2 with hq | ⟨g',cap,cur,fz,rfl,h1,h2,rest⟩
  ·exact .inl hq
  ·exact .inr ⟨g',cap,cur,fz,rfl,h1,(hu.block g' (Array.getElem?_eq_some_iff.1 h2).1 (fun e=>by
    subst e
    rw[hg]at h2
    injection h2 with h2
    injection h2 with _ h2
    exact absurd h2 (by decide))).trans h2,rest⟩
 exact h.1.elim (fun x=>.inl (key x)) (fun x=>.inr (key x))
theorem results_tmp2 {P:Program} {fn:Func} {u v:Tmp} (h:fn.results=#[.tmp u,.tmp v]) (tmps:Array Value) (w:World):(results fn tmps).run P w=.ok (.tuple #[tmps.getD u undef,tmps.getD v undef]) w:=by
 simp[results,h]
theorem built_cnt (t:ByteArray):Tryz.prog.built 58 [(1,.int .i64 2),(2,.string t)]=some (blkCells { blk0 with kind:=2,text:=t } (.slice none 0 0)):=by kernel_rfl
theorem exec_sbuild2 {P:Program} {o:Oper} {a:Act} {W:World} (t:TypeId) (parts:Array (Nat × Operand)) (ho:o.op=.build t parts) (cells:Array Value) (hf:P.built t (parts.map fun (i,x)=>(i,a.eval x)).toList=some cells):(execOp a.eval o).run P W=.ok (.value (.agg cells)) W:=by
 unfold execOp
 simp only[ho,Sem.run_bind,run_build W t _ cells hf,Result.andThen_ok]
 rfl
theorem fill2 (x y:ByteArray):Instr.fill (fun i=>some (i * 1,1)) ((Array.range (2 * 1)).map ((Value.string .empty).cells[· % (Value.string .empty).cells.size]!)) [(0,.string x),(1,.string y)]=some #[.string x,.string y]:=by kernel_rfl
theorem wpList_two_strs {ops:Array Oper} {rest:List Oper} {o:Oper} {a:Act} {w:World} {Q:Exit->Act->World->Prop} (hgd:o.guard=none) (parts:Array (Nat × Operand)) (ho:o.op=.buildSlice 30 2 parts) (x y:ByteArray) (hf:(parts.map fun (i,x)=>(i,a.eval x)).toList=[(0,.string x),(1,.string y)])
 (hK:wpList Tryz.prog ops Q rest (a.put o.dst (.slice (some ⟨w.heap.size,0,none⟩) 2 2)) (w.alloc (.cells #[.string x,.string y] 9))):wpList Tryz.prog ops Q (o::rest) a w:=
 wpList_plain hgd fun _ hK'=>by
  obtain⟨i0,hi0,hz0,hz1,hz2⟩:=info_parts E_str.inf
  refine wp_buildSlice 30 9 2 parts ho #[.string x,.string y] i0 (.string .empty) E_str.und hi0 hz0 (by rw[hz1];omega) (by rw[hz1];omega) ?_ (hK' _ _ hK)
  rw[hf,hz1]
  exact fill2 x y
abbrev cntCells (t:ByteArray):Array Value:=blkCells { blk0 with kind:=2,text:=t } (.slice none 0 0)
theorem cnt_cells {mem:Addr->Option Value} {x:Blk} {c:Array Value} (t:ByteArray) (h:CellsOf mem x c):CellsOf mem { blk0 with kind:=2,text:=t } (setFrom c 0 (cntCells t).toList):=by
 have e:(cntCells t).toList=[.int .i64 blk0.id,.int .i64 2,.string t,.int .i64 blk0.story,.int .i64 blk0.ref,.int .i64 blk0.lab.till,.slice none 0 0,.int .i64 blk0.lab.appr,.int .i64 blk0.lab.denied]:=rfl
 rw[e,set9 h]
 exact⟨none,0,rfl,IntsM.nil _⟩
theorem cnt_one (t:ByteArray):∀ u∈(cntCells t).toList,u.oneCell'=true:=by
 intro u hu
 simp at hu
 rcases hu with rfl | rfl | rfl | rfl | rfl | rfl | rfl | rfl | rfl <;> rfl
theorem cnt_len (t:ByteArray):0+(cntCells t).toList.length<=9:=Nat.le_refl 9
theorem hlt_ {W:World} {g:Nat} {o:Obj} (h:W.heap[g]?=some o):g<W.heap.size:=hlt h
theorem blksOk {mem:Addr->Option Value} {v:Value} {l:List Blk} (h:BlksM mem v l):∀ x∈l,x.text.size<=maxLen/\okI x.kind/\okI x.id:=fun x hx=>by
 obtain⟨_,_,_,_,_,_,_,_,hb⟩:=h.open_
 obtain⟨j,hj,rfl⟩:=List.getElem_of_mem hx
 exact(hb j hj).2.2.1
def TxE (e:EdnF):Prop:=e.title.size<=1000000000000/\e.blocks.length<=100
structure TxY (x:StyF):Prop where
 eds:∀ e∈x.eds,TxE e
 cor:∀ c∈x.corr,c.text.size<=1000
 ncor:x.corr.length<=50000
theorem txy0:TxY sty0:=⟨(by intro e he;cases he),(by intro e he;cases he),Nat.zero_le _⟩
theorem txy_of {s:StF} (h:∀ x∈s.stories,TxY x) (id:Int):TxY (styOf s id):=by
 unfold styOf
 cases hf:findS s id with
 |none=>exact txy0
 |some x=>exact h x (List.mem_of_find?_eq_some hf)
def TextPost (s:StF) (id:Int) (lang:ByteArray) (w:World) (e:Ending) (w':World):Prop:=e=.returned (.tuple #[.string (bs ((textS s id lang).getD [])),.bool (textS s id lang).isSome])/\Below w.heap.size w w'
theorem textS_none {s:StF} {id:Int} {lang:ByteArray} (h:findE (styOf s id).eds lang=none):textS s id lang=none:=by unfold textS ednOf;rw[h];rfl
theorem textS_some {s:StF} {id:Int} {lang:ByteArray} {e:EdnF} (h:findE (styOf s id).eds lang=some e):textS s id lang=some (textE s (styOf s id) e lang):=by unfold textS ednOf;rw[h];rfl
set_option maxRecDepth 100000 in
set_option maxHeartbeats 16000000 in
theorem Text_any {mem:Addr->Option Value} {v:Value} {s:StF} (h:StateM mem v s) (hn:s.stories.length<100) (hx:∀ x∈s.stories,TxY x) (htx:TxS s 1000000000) (id:Int) (lang:ByteArray) (w:World) (hs:Sees mem w):
 Calls Tryz.prog 23 #[v,.int .i64 id,.string lang] w (TextPost s id lang w):=by
 have HST:=Lib.hid h
 obtain⟨sv,tv,rfl,h1,h2⟩:=h
 obtain⟨sa,sc,rfl⟩:=SlM.slice h1
 obtain⟨ta,tc,rfl⟩:=SlM.slice h2
 have HS:=Lib.hid hs
 have HTXS:=Lib.hid htx
 have HX:=Lib.hid (txy_of hx id)
 have HTE:=Lib.hid (htx.of id)
 obtain⟨W1,hW1⟩:∃ W1,W1=w.alloc (.cells #[.slice sa s.stories.length sc,.slice ta s.tpls.length tc] 27):=⟨_,rfl⟩
 have hb1:Below w.heap.size w W1:=by rw[hW1];exact bel1 w _
 have HN0:Hid (W1.heap[w.heap.size]?=some (.cells #[.slice sa s.stories.length sc,.slice ta s.tpls.length tc] 27 (0,0))):=Lib.hid (by rw[hW1];exact World.alloc_heap_new w _)
 have HB1:=Lib.hid hb1
 have HW1:=Lib.hid hW1
 have cS:=Lib.hid (storyAt_any HST.out id W1 (hs.bel hb1))
 have HNO:=Lib.hid (textS_none (s:=s) (id:=id) (lang:=lang))
 have HYE:=Lib.hid (fun e=>textS_some (s:=s) (id:=id) (lang:=lang) (e:=e))
 clear h1 h2 hs hb1 hW1 hx htx
 go_enter Tryz.func23,Tryz.ntmps23
 go_upto_region 1 with fail
 rw[<-HW1.out]
 go_wp2_with ((with_reducible refine at_sload 27 _ rfl ?_);go_must (refine wpList_sload rfl S_state _ rfl (by simp[Act.eval]) #[.slice sa s.stories.length sc,.slice ta s.tpls.length tc] rfl HN0.out ?_))
 refine cS.out.mono ?_
 rintro e W2 ⟨u,rfl,hu,hb2⟩
 generalize styOf s id=X at *
 have HU:=Lib.hid hu
 obtain⟨hok,t0,e0,c0,rfl,hP⟩:=hu
 have HCR:=Lib.hid hP.2.2
 obtain⟨t1,t2,e1,e2,c1,c2,rfl,rfl,rfl⟩:=hP.shape
 have HB2:=Lib.hid hb2
 clear hok hP hb2 cS
 generalize hn1:X.topics.length=n1 at *
 generalize hn2:X.eds.length=n2 at *
 generalize hn3:X.corr.length=n3 at *
 go_upto_region 2 with ((with_reducible refine at_sstore 34 _ _ rfl ?_);go_must (refine wpList_snew rfl S_sty _ _ rfl rfl _ _ (styCells X (.slice t1 n1 t2) (.slice e1 n2 e2) (.slice c1 n3 c2)) (by simp[Act.eval]) (by simp[Act.eval]) rfl rfl (by simp[Value.oneCell']) ?_))
 obtain⟨W3,hW3⟩:∃ W3,W3=W2.alloc (.cells (styCells X (.slice t1 n1 t2) (.slice e1 n2 e2) (.slice c1 n3 c2)) 34):=⟨_,rfl⟩
 rw[<-hW3]
 have hb3:Below W2.heap.size W2 W3:=by rw[hW3];exact bel1 _ _
 have HN3:Hid (W3.heap[W2.heap.size]?=some (.cells (styCells X (.slice t1 n1 t2) (.slice e1 n2 e2) (.slice c1 n3 c2)) 34 (0,0))):=Lib.hid (by rw[hW3];exact World.alloc_heap_new _ _)
 have HB3:Hid (Below W1.heap.size W1 W3):=Lib.hid (HB2.out.trans (hb3.mono HB2.out.size))
 have cE:=Lib.hid (editionAt_any HU.out lang W3 (HS.out.bel (HB1.out.trans (HB3.out.mono HB1.out.size))))
 clear hW3 hb3
 go_wp2_with ((with_reducible refine at_sload 34 _ rfl ?_);go_must (refine wpList_sload rfl S_sty _ rfl (by simp[Act.eval]) (styCells X (.slice t1 n1 t2) (.slice e1 n2 e2) (.slice c1 n3 c2)) rfl HN3.out ?_))
 refine cE.out.mono ?_
 rintro e W4 ⟨u,rfl,hu,hb4⟩
 have HTI:Hid (∀ E,findE X.eds lang=some E->TxE E/\∀ y∈E.blocks,y.text.size<=1000000000):=Lib.hid (fun E hE=>⟨HX.out.eds E (List.mem_of_find?_eq_some hE),HTE.out E (List.mem_of_find?_eq_some hE)⟩)
 generalize findE X.eds lang=fe at *
 obtain⟨hok,b0,rfl,hP⟩:=hu
 obtain⟨b1,b2,rfl⟩:=hP.slice
 have HBM:=Lib.hid hP
 have HB4:Hid (Below W1.heap.size W1 W4):=Lib.hid (HB3.out.trans (hb4.mono HB3.out.size))
 have HN4:=Lib.hid ((hb4.block _ (hlt HN3.out)).trans HN3.out)
 clear hok hP hb4 cE
 generalize hE:fe.getD edn0=E at *
 generalize hnb:E.blocks.length=nb at *
 go_upto_region 3 with ((with_reducible refine at_sstore 39 _ _ rfl ?_);go_must (refine wpList_snew rfl S_edn _ _ rfl rfl _ _ (ednCells E (.slice b1 nb b2)) (by simp[Act.eval]) (by simp[Act.eval]) rfl rfl (by simp[Value.oneCell']) ?_))
 obtain⟨W5,hW5⟩:∃ W5,W5=W4.alloc (.cells (ednCells E (.slice b1 nb b2)) 39):=⟨_,rfl⟩
 rw[<-hW5]
 have hb5:Below W4.heap.size W4 W5:=by rw[hW5];exact bel1 _ _
 have hn5:W5.heap[W4.heap.size]?=some (.cells (ednCells E (.slice b1 nb b2)) 39 (0,0)):=by rw[hW5];exact World.alloc_heap_new _ _
 have HB5:Hid (Below W1.heap.size W1 W5):=Lib.hid (HB4.out.trans (hb5.mono HB4.out.size))
 have HN5:=Lib.hid hn5
 have HM5:=Lib.hid ((hb5.block _ (hlt HN4.out)).trans HN4.out)
 clear hW5 hb5 hn5
 cases hfe:fe with
 |none=>
  have HF:=Lib.hid (HNO.out hfe)
  rw[show (none:Option EdnF).isSome=false from rfl]
  go_wp2_with fail
  refine bodyPost_ret (results_tmp2 (u:=6) (v:=7) (by kernel_rfl) _ _) rfl ?_
  unfold TextPost
  rw[HF.out]
  exact⟨rfl,HB1.out.trans (HB5.out.mono HB1.out.size)⟩
 |some E0=>
  have hE0:E0=E:=by rw[<-hE,hfe];rfl
  subst hE0
  have HF:=Lib.hid (HYE.out E0 hfe)
  obtain⟨⟨hti,hbl⟩,htb⟩:=HTI.out E0 hfe
  have HTB:=Lib.hid htb
  clear hE hfe htb
  rw[show (some E0:Option EdnF).isSome=true from rfl]
  go_upto_region 6 with fail
  obtain⟨W6,hW6⟩:∃ W6,W6=W5.alloc (.cells #[.pointer none,.slice none 0 0] 82):=⟨_,rfl⟩
  rw[<-hW6]
  have hb6:Below W5.heap.size W5 W6:=by rw[hW6];exact bel1 _ _
  have HL6:Hid (Blf W6 W5.heap.size []):=Lib.hid (by rw[hW6];exact(Bld.new W5).f)
  have HB6:Hid (Below W1.heap.size W1 W6):=Lib.hid (HB5.out.trans (hb6.mono HB5.out.size))
  have HN6:=Lib.hid ((hb6.block _ (hlt HN5.out)).trans HN5.out)
  have HM6:=Lib.hid ((hb6.block _ (hlt HM5.out)).trans HM5.out)
  have q2:W6.cell? ⟨W4.heap.size,2,none⟩=some (.string E0.title):=rowcell HN6.out
  have hen:∀ args w,(callFunc 40 args).run Tryz.prog w=.ok (.enter 40 args) w:=enters_of Tryz.func40 (by kernel_rfl) rfl
  have HZ5:Hid (W4.heap.size<W5.heap.size/\W2.heap.size<W4.heap.size):=Lib.hid ⟨hlt HN5.out,hlt HN4.out⟩
  have HB56:Hid (Below W5.heap.size W5 W6):=Lib.hid hb6
  clear hW6 hb6
  have cL:=Lib.hid (line_any (HL6.out.bel (bel1 W6 (.cells #[.string E0.title] 9))) [E0.title] W6.heap.size 1 #[.string E0.title] (World.alloc_heap_new _ _) (fun j hj=>by
   obtain rfl:j=0:=by simp at hj;omega
   rfl) (by have:=HL6.out.2;omega) (by simp) (by show 0+(E0.title.data.toList++[]).length+1<=_;simp;omega))
  go_wp2_with ((with_reducible refine at_sslice 30 _ _ rfl ?_);go_must (refine wpList_one_slice rfl E_str _ rfl (.string E0.title) rfl (by simp[Act.eval]) ?_))
  refine cL.out.mono ?_
  rintro e W7 ⟨rfl,hl7,hb7,hk7⟩
  have hb57:Below W5.heap.size W5 W7:=by
   have h1:=HB56.out
   exact(h1.trans ((bel1 W6 _).mono h1.size)).trans hb7
  have HL7:Hid (Blf W7 W5.heap.size (E0.title.data.toList++[10])):=Lib.hid (by
   have e:[]++catF [E0.title]++[10]=E0.title.data.toList++[10]:=by simp[catF]
   rw[e]at hl7;exact hl7)
  have HB57:=Lib.hid hb57
  have HN7:=Lib.hid ((hb57.block _ (hlt HN5.out)).trans HN5.out)
  have HM7:=Lib.hid ((hb57.block _ (hlt HM5.out)).trans HM5.out)
  have q6:W7.cell? ⟨W2.heap.size,6,none⟩=some (.bool X.retr):=rowcell HM7.out
  clear hb57 hl7 hb7 hk7 cL q2
  cases hr:X.retr with
  |true=>
   rw[hr]at q6
   have HTX:Hid (textE s X E0 lang=E0.title.data.toList++[10]++(tWas++[10])):=Lib.hid (by unfold textE;rw[hr];rfl)
   clear hr
   have cL:=Lib.hid (line_any (HL7.out.bel (bel1 W7 (.cells #[.string (bs tWas)] 9))) [bs tWas] W7.heap.size 1 #[.string (bs tWas)] (World.alloc_heap_new _ _) (fun j hj=>by
    obtain rfl:j=0:=by simp at hj;omega
    rfl) (by have:=HL7.out.2;omega) (by simp) (by
    show (E0.title.data.toList++[10]).length+25+1<=_
    simp;omega))
   go_wp2_with ((with_reducible refine at_sslice 30 _ _ rfl ?_);go_must (refine wpList_one_slice rfl E_str _ rfl (.string (bs tWas)) rfl (by simp[Act.eval];rfl) ?_))
   refine cL.out.mono ?_
   rintro e W8 ⟨rfl,hl8,hb8,_⟩
   have HB58:Hid (Below W5.heap.size W5 W8):=Lib.hid ((HB57.out.trans ((bel1 W7 _).mono HB57.out.size)).trans hb8)
   have cT:=Lib.hid (blf_string hl8)
   clear hl8 hb8 cL q6
   go_wp2_with fail
   refine cT.out.mono ?_
   rintro e W9 ⟨rfl,hb9⟩
   have HB9:Hid (Below W5.heap.size W5 W9):=Lib.hid (HB58.out.trans hb9)
   have HEQ:Hid (bs (E0.title.data.toList++[10]++catF [bs tWas]++[10])=bs (textE s X E0 lang)):=Lib.hid (by
    rw[HTX.out,<-List.append_assoc]
    congr 3)
   clear hb9 cT
   rw[HEQ.out]
   go_wp2_with fail
   refine bodyPost_ret (results_tmp2 (u:=6) (v:=7) (by kernel_rfl) _ _) rfl ?_
   unfold TextPost
   rw[HF.out]
   exact⟨rfl,HB1.out.trans ((HB5.out.trans (HB9.out.mono HB5.out.size)).mono HB1.out.size)⟩
  |false=>
   rw[hr]at q6
   have HTX:Hid (textE s X E0 lang=E0.title.data.toList++[10]++(plainB (E0.blocks.map (shownB s lang))++corrLines lang X.corr)):=Lib.hid (by unfold textE;rw[hr];rfl)
   clear hr
   have hbm:=HBM.out
   rw[<-hnb]at hbm
   have hs7:Sees mem W7:=HS.out.bel (HB1.out.trans ((HB5.out.trans (HB57.out.mono HB5.out.size)).mono HB1.out.size))
   obtain⟨cs,r1,r2,r3,r4⟩:=reads_blks hbm hs7
   obtain rfl:nb=cs.length:=by rw[r1,hnb]
   have HR3:=Lib.hid r3
   have HR4:=Lib.hid r4
   have HOKB:=Lib.hid (blksOk hbm)
   have q3:W7.cell? ⟨W4.heap.size,3,none⟩=some (.slice b1 cs.length b2):=rowcell HN7.out
   have hcl:cs.length<=100:=by omega
   have hcl2:cs.length<=9223372036854775807:=by omega
   have HR1:=Lib.hid r1
   have HR2:=Lib.hid r2
   clear hbm hs7 r2 r3 r4
   clear r1
   go_upto_region 12 with ((with_reducible refine at_sappend _ _ _ rfl ?_);go_must (refine wpList_app_row rfl E_blk _ _ rfl (by simp[Act.eval]) (GRow.nil W7 W7.heap.size _ _) b1 b2 cs HR3.out (by simp[Act.eval]) HR4.out (by show 0+_<=100000;omega) (Nat.le_refl _) ?_);intro v8 w8 hr8 hg8 hob8;rw[List.nil_append]at hr8;obtain⟨va,vc,rfl⟩:=hr8.shape)
   have hb8:Below W7.heap.size W7 w8:=(Below.refl _ W7).grown hg8 (Nat.le_refl _) (fun k e=>by cases e)
   have HSH:Hid (ShowI mem s lang E0.blocks w8 W7.heap.size 0 (.slice va cs.length vc)):=Lib.hid ⟨cs,hr8,HR1.out,fun j hj hj2=>by rw[if_neg (by omega)];exact HR2.out j hj hj2⟩
   have HL8:=Lib.hid (HL7.out.bel hb8)
   have HB8:Hid (Below W5.heap.size W5 w8):=Lib.hid (HB57.out.trans (hb8.mono HB57.out.size))
   have hw57:W5.heap.size<W7.heap.size:=HL7.out.2
   clear hb8 hr8 hg8 hob8 q3 q6
   go_wp2_with fail
   go_loopw [50] (fun i wr=>∃ k:Nat,k<=cs.length/\i=.int .i64 k/\Hid (ShowI mem s lang E0.blocks wr W7.heap.size k (.slice va cs.length vc))/\Hid (Blf wr W5.heap.size (E0.title.data.toList++[10]))/\Hid (Below W5.heap.size W5 wr)) (fun i _=>cs.length - (intOf i).toNat)
   case atStart=>exact⟨0,Nat.zero_le _,rfl,HSH,HL8,HB8⟩
   case round=>
    obtain⟨k,hk,rfl,HI,HL,HB⟩:=hrel
    have HBW:Hid (Below w.heap.size w wr):=Lib.hid (HB1.out.trans ((HB5.out.trans (HB.out.mono HB5.out.size)).mono HB1.out.size))
    have hwr:W5.heap.size<wr.heap.size:=HL.out.2
    by_cases hlt:k<cs.length
    ·obtain⟨ds,d1,d2,d3⟩:=HI.out
     have hke:k<E0.blocks.length:=by have:=HR1.out;omega
     have hkd:k<ds.length:=by rw[d2];exact hke
     have hck:=d3 k hke hkd
     rw[if_neg (by omega)]at hck
     have HCK:=Lib.hid hck
     obtain⟨a,c,hce,hci⟩:=hck
     obtain⟨g,gc,hgv,hgB,hgl,hg1,hg2,hgc,hgf⟩:=d1.at_ k hkd
     injection hgv with hgv1 hgv2 hgv3
     subst hgv1 hgv3
     clear hgv2
     have HD:=Lib.hid (And.intro d1 (And.intro d2 d3))
     rw[hce]at hgc
     have HC9:=Lib.hid hgc
     have HGF:=Lib.hid hgf
     have htx:=HTB.out _ (List.getElem_mem hke)
     have hok:=HOKB.out _ (List.getElem_mem hke)
     have HBV:Hid (BlkV mem (.agg (blkCells E0.blocks[k] (.slice a E0.blocks[k].lab.after.length c))) E0.blocks[k]):=Lib.hid ⟨a,c,rfl,hci,hok⟩
     have HCI:=Lib.hid hci
     have hrl:=resS_len HTXS.out lang htx
     have HSB:Hid (shownB s lang E0.blocks[k]=if E0.blocks[k].kind=3 then { E0.blocks[k] with text:=bs (resS s lang E0.blocks[k]) } else if E0.blocks[k].kind=5 then { blk0 with kind:=2,text:=bs (E0.blocks[k].text.data.toList++[58,32]++resS s lang E0.blocks[k]) } else E0.blocks[k]):=Lib.hid rfl
     obtain⟨gcells,hgblk⟩:=d1.blk g rfl
     have HGB:=Lib.hid hgblk
     have HSK:Hid (shownB s lang E0.blocks[k]=E0.blocks[k]->ShowI mem s lang E0.blocks wr W7.heap.size (k+1) (.slice (some ⟨g,0,none⟩) cs.length vc)):=Lib.hid (fun e=>HI.out.skip hke e)
     have HNX:Hid (∀ (w':World) (c':Array Value),CellsOf mem (shownB s lang E0.blocks[k]) c'->GRow w' W7.heap.size 58 9 (.slice (some ⟨g,0,none⟩) cs.length vc) (ds.set k c')->ShowI mem s lang E0.blocks w' W7.heap.size (k+1) (.slice (some ⟨g,0,none⟩) cs.length vc)):=Lib.hid (fun w' c' hc hr=>ShowI.next hke d2 d3 hc hr)
     clear d1 d2 d3 hci hgc hgf hgblk
     generalize hx:E0.blocks[k]=x at *
     generalize hxl:x.lab.after.length=xl at *
     go_upto_region 15 with (first
      |((with_reducible refine at_sload 58 _ rfl ?_);go_must (refine wpList_smid rfl S_blk _ rfl (by simp[Act.eval]) (blkCells x (.slice a xl c)) rfl HC9.out ?_))
      |((with_reducible refine at_sstore 58 _ _ rfl ?_);go_must (refine wpList_snew rfl S_blk _ _ rfl rfl _ _ (blkCells x (.slice a xl c)) (by simp[Act.eval]) (by simp[Act.eval]) rfl rfl (by simp[Value.oneCell']) ?_)))
     obtain⟨W9,hW9⟩:∃ W9,W9=wr.alloc (.cells (blkCells x (.slice a xl c)) 58):=⟨_,rfl⟩
     rw[<-hW9]
     have hb9:Below wr.heap.size wr W9:=by rw[hW9];exact bel1 _ _
     have HN9:Hid (W9.heap[wr.heap.size]?=some (.cells (blkCells x (.slice a xl c)) 58 (0,0))):=Lib.hid (by rw[hW9];exact World.alloc_heap_new _ _)
     have q1:W9.cell? ⟨wr.heap.size,1,none⟩=some (.int .i64 x.kind):=rowcell HN9.out
     have HB9:=Lib.hid hb9
     have HBW9:Hid (Below w.heap.size w W9):=Lib.hid (HBW.out.trans (hb9.mono HBW.out.size))
     have HST9:Hid (W9.heap[w.heap.size]?=some (.cells #[.slice sa s.stories.length sc,.slice ta s.tpls.length tc] 27 (0,0))):=Lib.hid (by
      have hw1:=hlt_ HN0.out
      exact(hb9.block _ (by have:=HB1.out.size;have:=HB5.out.size;omega)).trans ((HB.out.block _ (by have:=HB5.out.size;omega)).trans ((HB5.out.block _ hw1).trans HN0.out)))
     clear hW9 hb9
     have cR:=Lib.hid (fun W (hW:Below w.heap.size w W)=>Resolve_any HST.out hn lang HBV.out W (HS.out.bel hW))
     by_cases hk3:x.kind=3
     ·have HSB3:Hid (shownB s lang x={ x with text:=bs (resS s lang x) }):=Lib.hid (HSB.out.trans (if_pos hk3))
      rw[hk3]at q1
      clear hk3
      go_wp2_with (first
       |((with_reducible refine at_sload 27 _ rfl ?_);go_must (refine wpList_sload rfl S_state _ rfl (by simp[Act.eval]) #[.slice sa s.stories.length sc,.slice ta s.tpls.length tc] rfl HST9.out ?_))
       |((with_reducible refine at_sload 58 _ rfl ?_);go_must (refine wpList_sload rfl S_blk _ rfl (by simp[Act.eval]) (blkCells x (.slice a xl c)) rfl HN9.out ?_)))
      refine(cR.out W9 HBW9.out).mono ?_
      rintro e W10 ⟨rfl,hb10⟩
      have HB10:Hid (Below wr.heap.size wr W10):=Lib.hid (HB9.out.trans (hb10.mono HB9.out.size))
      have p2:W10.cell? ⟨g,k * 9+2,none⟩=some (.string x.text):=(HB10.out.cell (p:=⟨g,k * 9+2,none⟩) hgl).trans (HC9.out 2 (by omega))
      have z2:W10.frozen? ⟨g,k * 9+2,none⟩=false:=(HB10.out.frozen (p:=⟨g,k * 9+2,none⟩) hgl).trans (HGF.out _)
      clear hb10 q1
      go_wp2_with fail
      have HI2:Hid (ShowI mem s lang E0.blocks (W10.setCell ⟨g,k * 9+2,none⟩ (.string (bs (resS s lang x)))) W7.heap.size (k+1) (.slice (some ⟨g,0,none⟩) cs.length vc)):=Lib.hid (by
       have h1:=(HD.out.1.bel HB10.out).set_ k 2 hkd (by omega) (u:=.string (bs (resS s lang x))) rfl
       rw[hce]at h1
       refine HNX.out _ _ ?_ h1
       rw[HSB3.out]
       exact⟨a,c,by dsimp only;rw[hxl];rfl,by dsimp only;rw[hxl];exact HCI.out⟩)
      have hu2:=upd_cell W10 g (k * 9+2) (.string (bs (resS s lang x)))
      have HL2:=Lib.hid ((HL.out.bel HB10.out).upd hu2 ((HB10.out.block g hgl).trans HGB.out))
      have HB2:Hid (Below W5.heap.size W5 (W10.setCell ⟨g,k * 9+2,none⟩ (.string (bs (resS s lang x))))):=Lib.hid ((HB.out.trans (HB10.out.mono HB.out.size)).setCell (by show W5.heap.size<=g;omega) _)
      clear hu2
      go_roundw
      case rel=>exact⟨k+1,by omega,by go_num,HI2,HL2,HB2⟩
      case measure=>simp[intOf];omega
     ·by_cases hk5:x.kind=5
      ·have hk3':(x.kind == 3)=false:=by simpa using hk3
       have HSB5:Hid (shownB s lang x={ blk0 with kind:=2,text:=bs (x.text.data.toList++[58,32]++resS s lang x) }):=Lib.hid (HSB.out.trans ((if_neg hk3).trans (if_pos hk5)))
       rw[hk5]at q1 hk3'
       clear hk3 hk5
       have h2s:ByteArray.size ⟨#[58,32]⟩=2:=rfl
       have hrs:(bs (resS s lang x)).size<=1000000012:=by rw[bs_size];exact hrl
       have HSS:Hid (W9.drew.cell? ⟨wr.heap.size,2,none⟩=some (.string x.text)/\W9.drew.heap[w.heap.size]?=some (.cells #[.slice sa s.stories.length sc,.slice ta s.tpls.length tc] 27 (0,0))/\W9.drew.heap[wr.heap.size]?=some (.cells (blkCells x (.slice a xl c)) 58 (0,0))):=Lib.hid ⟨rowcell HN9.out,HST9.out,HN9.out⟩
       go_upto_region 19 with fail
       refine wp_mix [mT,mT,mT,mT,mT,mT,mT,mT,mF,mT,mT,mF,mL] 12 (fun W'=>W'.cell? ⟨wr.heap.size,2,none⟩=some (.string x.text)/\W'.heap[w.heap.size]?=some (.cells #[.slice sa s.stories.length sc,.slice ta s.tpls.length tc] 27 (0,0))/\W'.heap[wr.heap.size]?=some (.cells (blkCells x (.slice a xl c)) 58 (0,0))) (by kernel_rfl) (by kernel_rfl) HSS.out ?_
       refine wpMix_take (.slice (some ⟨g,0,none⟩) cs.length vc) (fun _ _ _ _ h=>h) HSS.out (by rfl) (fun W2 hW=>by go_simp) ?_
       simp only[Act.put,List.setIfInBounds_toArray,List.set_cons_zero,List.set_cons_succ]
       refine wpMix_take (.int .i64 k) (fun _ _ _ _ h=>h) HSS.out (by rfl) (fun W2 hW=>by go_simp) ?_
       simp only[Act.put,List.setIfInBounds_toArray,List.set_cons_zero,List.set_cons_succ]
       refine wpMix_take (.pointer (some ⟨wr.heap.size,2,none⟩)) (fun _ _ _ _ h=>h) HSS.out (by rfl) (fun W2 hW=>by go_simp) ?_
       simp only[Act.put,List.setIfInBounds_toArray,List.set_cons_zero,List.set_cons_succ]
       refine wpMix_take (.string x.text) (fun _ _ _ _ h=>h) HSS.out (by rfl) (fun W2 hW=>by have q0:=hW.1;go_simp) ?_
       simp only[Act.put,List.setIfInBounds_toArray,List.set_cons_zero,List.set_cons_succ]
       refine wpMix_take (.string (x.text++⟨#[58,32]⟩)) (fun _ _ _ _ h=>h) HSS.out (by rfl) (fun W2 hW=>by go_simp;omega) ?_
       simp only[Act.put,List.setIfInBounds_toArray,List.set_cons_zero,List.set_cons_succ]
       refine wpMix_take (.agg #[.slice sa s.stories.length sc,.slice ta s.tpls.length tc]) (fun _ _ _ _ h=>h) HSS.out (by rfl) (fun W2 hW=>by exact exec_smid S_state _ rfl (by simp[Act.eval]) _ rfl (whole_cells hW.2.1)) ?_
       simp only[Act.put,List.setIfInBounds_toArray,List.set_cons_zero,List.set_cons_succ]
       refine wpMix_take (.string lang) (fun _ _ _ _ h=>h) HSS.out (by rfl) (fun W2 hW=>by go_simp) ?_
       simp only[Act.put,List.setIfInBounds_toArray,List.set_cons_zero,List.set_cons_succ]
       refine wpMix_take (.agg (blkCells x (.slice a xl c))) (fun _ _ _ _ h=>h) HSS.out (by rfl) (fun W2 hW=>by exact exec_smid S_blk _ rfl (by simp[Act.eval]) _ rfl (whole_cells hW.2.2)) ?_
       simp only[Act.put,List.setIfInBounds_toArray,List.set_cons_zero,List.set_cons_succ]
       refine wpMix_step (fun K hK=>?_)
       go_simp
       refine(cR.out W9.drew HBW9.out.drew).mono ?_
       rintro e' W10 ⟨rfl,hb10⟩
       dsimp only
       have HB10:Hid (Below wr.heap.size wr W10):=Lib.hid (HB9.out.drew.trans (hb10.mono HB9.out.size))
       have HSS2:Hid (W10.cell? ⟨wr.heap.size,2,none⟩=some (.string x.text)/\W10.heap[w.heap.size]?=some (.cells #[.slice sa s.stories.length sc,.slice ta s.tpls.length tc] 27 (0,0))/\W10.heap[wr.heap.size]?=some (.cells (blkCells x (.slice a xl c)) 58 (0,0))):=Lib.hid ⟨sees_bel hb10 _ _ HSS.out.1,(hb10.block _ (hlt_ HST9.out)).trans HST9.out,(hb10.block _ (hlt_ HN9.out)).trans HN9.out⟩
       clear hb10
       refine hK _ _ HSS2.out ?_
       clear hK K
       refine wpMix_take (.string (x.text++⟨#[58,32]⟩++bs (resS s lang x))) (fun _ _ _ _ h=>h) HSS2.out (by rfl) (fun W2 hW=>by go_simp;omega) ?_
       simp only[Act.put,List.setIfInBounds_toArray,List.set_cons_zero,List.set_cons_succ]
       have hcat:x.text++⟨#[58,32]⟩++bs (resS s lang x)=bs (x.text.data.toList++[58,32]++resS s lang x):=str_ext (by simp)
       rw[hcat]
       clear hcat
       generalize bs (x.text.data.toList++[58,32]++resS s lang x)=tt at *
       refine wpMix_take (.agg (cntCells tt)) (fun _ _ _ _ h=>h) HSS2.out (by rfl) (fun W2 hW=>exec_sbuild2 _ _ rfl _ (by simp[Act.eval];with_reducible exact built_cnt _)) ?_
       simp only[Act.put,List.setIfInBounds_toArray,List.set_cons_zero,List.set_cons_succ]
       refine wpMix_step (fun K hK=>?_);go_simp;refine hK _ _ HSS2.out ?_;clear hK K
       refine wpMix_last (fun K hK=>?_)
       rw[if_pos (by rfl)]
       have hthere:∀ W,Below W10.heap.size W10 W->W.there g (k * 9) 9:=fun W hW j hj=>by
        have h1:=HC9.out j hj
        have hg10:g<W10.heap.size:=Nat.lt_of_lt_of_le hgl HB10.out.size
        refine⟨?_,((hW.frozen (p:=⟨g,k * 9+j,none⟩) hg10).trans (HB10.out.frozen (p:=⟨g,k * 9+j,none⟩) hgl)).trans (HGF.out _)⟩
        rw[((hW.cell (p:=⟨g,k * 9+j,none⟩) hg10).trans (HB10.out.cell (p:=⟨g,k * 9+j,none⟩) hgl)).trans h1,Array.getElem?_eq_getElem (by simpa using hj)];rfl
       refine wp_store_mid 58 _ _ rfl g (k * 9) (cntCells tt) (by simp[Act.eval]) (by simp[Act.eval]) (hthere _ (Below.refl _ _)) S_blk.size (by simp[Value.oneCell']) ?_
       refine hK _ _ ?_
       clear hK K hthere
       refine wpMix_nil ?_
       have hu2:=upd_setCells g (cntCells tt).toList (k * 9) W10
       have HI2:Hid (ShowI mem s lang E0.blocks (W10.setCells g (k * 9) (cntCells tt).toList) W7.heap.size (k+1) (.slice (some ⟨g,0,none⟩) cs.length vc)):=Lib.hid (by
        have h1:=GRow.setCells (cntCells tt).toList 0 W10 _ (HD.out.1.bel HB10.out) hkd (cnt_len tt) (cnt_one tt)
        rw[Nat.add_zero]at h1
        refine HNX.out _ _ ?_ h1
        rw[HSB5.out]
        exact cnt_cells tt HCK.out)
       have HL2:=Lib.hid ((HL.out.bel HB10.out).upd hu2 ((HB10.out.block g hgl).trans HGB.out))
       have HB2:Hid (Below W5.heap.size W5 (W10.setCells g (k * 9) (cntCells tt).toList)):=Lib.hid ((HB.out.trans (HB10.out.mono HB.out.size)).trans (hu2.below (fun j e=>by omega) (by have:=HB.out.size;have:=HB10.out.size;omega)))
       clear hu2
       go_wp2_with fail
       go_roundw
       case rel=>exact⟨k+1,by omega,by go_num,HI2,HL2,HB2⟩
       case measure=>simp[intOf];omega
      ·have hk3':(x.kind == 3)=false:=by simpa using hk3
       have hk5':(x.kind == 5)=false:=by simpa using hk5
       have HI2:=Lib.hid ((HSK.out (HSB.out.trans ((if_neg hk3).trans (if_neg hk5)))).bel HB9.out)
       have HL2:=Lib.hid (HL.out.bel HB9.out)
       have HB2:Hid (Below W5.heap.size W5 W9):=Lib.hid (HB.out.trans (HB9.out.mono HB.out.size))
       clear hk3 hk5
       go_wp2_with fail
       go_roundw
       case rel=>exact⟨k+1,by omega,by go_num,HI2,HL2,HB2⟩
       case measure=>simp[intOf];omega
    ·have e':k=cs.length:=by omega
     subst e'
     obtain⟨wo,rfl⟩:∃ wo,wo=wr:=⟨_,rfl⟩
     have hi:=HI.out
     have hcE:cs.length=E0.blocks.length:=HR1.out
     have hbm:=ShowI.done (v:=.slice va cs.length vc) (w:=wo) (by rw[<-hcE];exact hi) (HS.out.bel HBW.out) (fun x hx=>(HOKB.out x hx).2) (fun x hx=>by
      have:=shownB_len HTXS.out lang (HTB.out x hx)
      unfold maxLen;omega)
     have hlen:(E0.blocks.map (shownB s lang)).length<=100:=by rw[List.length_map,<-hcE];exact hcl
     have htt:∀ y∈E0.blocks.map (shownB s lang),y.text.size<=10000000000:=fun y hy=>by
      obtain⟨x,hx,rfl⟩:=List.mem_map.1 hy
      have:=shownB_len HTXS.out lang (HTB.out x hx)
      omega
     have cP:=Lib.hid (plain_any hbm (by omega) htt wo (Sees.self wo))
     have hpl:(plainB (E0.blocks.map (shownB s lang))).length<=100 * 10000000003:=Nat.le_trans (plainB_len htt) (Nat.mul_le_mul_right _ hlen)
     generalize plainB (E0.blocks.map (shownB s lang))=PL at *
     clear hi hcE hbm hlen htt
     go_wp2_with fail
     refine cP.out.mono ?_
     rintro e W11 ⟨rfl,hb11⟩
     have hl11:=HL.out.bel hb11
     have HB11:Hid (Below W5.heap.size W5 W11):=Lib.hid (HB.out.trans (hb11.mono HB.out.size))
     have htl:(E0.title.data.toList++[10]).length<=1000000000001:=by simp;omega
     have cW:=Lib.hid (writeF_str hl11 (bs PL) (by rw[bs_size];omega))
     clear hb11 hl11 cP
     go_wp2_with fail
     refine cW.out.mono ?_
     rintro e W12 ⟨rfl,hl12,hb12,_⟩
     rw[bs_list]at hl12
     have HB12:Hid (Below W5.heap.size W5 W12):=Lib.hid (HB11.out.trans hb12)
     have HL12:Hid (Blf W12 W5.heap.size (E0.title.data.toList++[10]++PL++corrLines lang (X.corr.take 0))):=Lib.hid (by rw[List.take_zero];show Blf _ _ (_++[]);rw[List.append_nil];exact hl12)
     have k5:W12.cell? ⟨W2.heap.size,5,none⟩=some (.slice c1 n3 c2):=rowcell ((HB12.out.block _ (hlt_ HM5.out)).trans HM5.out)
     have hn3l:n3<=50000:=by rw[<-hn3];exact HX.out.ncor
     have hpre:(E0.title.data.toList++[10]++PL).length<=1000000000001+1000000000300:=by rw[List.length_append];omega
     obtain⟨ca,ccap,cb,co,hcv,_,_,hca,hcat⟩:=SlM.open_ HCR.out
     rw[hn3]at hcv hca
     injection hcv with hcv1 _ hcv3
     subst hcv1 hcv3
     have HCA:=Lib.hid hca
     have HCT:=Lib.hid hcat
     clear hl12 hb12 cW hca hcat
     generalize hT0:E0.title.data.toList++[10]++PL=T0 at *
     go_wp2_with fail
     clear k5
     go_loopw [88] (fun i wr=>∃ k:Nat,k<=n3/\i=.int .i64 k/\Hid (Blf wr W5.heap.size (T0++corrLines lang (X.corr.take k)))/\Hid (Below W5.heap.size W5 wr)) (fun i _=>n3 - (intOf i).toNat)
     case atStart=>exact⟨0,Nat.zero_le _,rfl,HL12,HB12⟩
     case round=>
      obtain⟨k,hk,rfl,HL,HB⟩:=hrel
      by_cases hlt:k<n3
      ·obtain rfl:=HCA.out (by omega)
       have hkc:k<X.corr.length:=by omega
       have hcells:=HCT.out k hkc
       have HCL:=Lib.hid (cells_see (sz:=5) (HS.out.bel (HB1.out.trans ((HB5.out.trans (HB.out.mono HB5.out.size)).mono HB1.out.size))) hcells.2 rfl)
       have hct:=HX.out.cor _ (List.getElem_mem hkc)
       have HTK:Hid (corrLines lang (X.corr.take (k+1))=corrLines lang (X.corr.take k)++(if X.corr[k].lang=lang then tCorr++X.corr[k].text.data.toList++[10] else [])):=Lib.hid (by rw[List.take_succ_eq_append_getElem hkc,corrLines_snoc])
       have hcln:(corrLines lang (X.corr.take k)).length<=50000 * 1013:=by
        refine Nat.le_trans (corrLines_len (fun c hc=>HX.out.cor c (List.mem_of_mem_take hc))) (Nat.mul_le_mul_right _ ?_)
        rw[List.length_take];omega
       clear hcells
       generalize X.corr[k]=c at *
       go_upto_region 25 with (first
        |((with_reducible refine at_sload 69 _ rfl ?_);go_must (refine wpList_smid rfl S_corr _ rfl (by simp[Act.eval]) (corrCells c) rfl HCL.out ?_))
        |((with_reducible refine at_sstore 69 _ _ rfl ?_);go_must (refine wpList_snew rfl S_corr _ _ rfl rfl _ _ (corrCells c) (by simp[Act.eval]) (by simp[Act.eval]) rfl rfl (by simp[Value.oneCell']) ?_)))
       obtain⟨W13,hW13⟩:∃ W13,W13=wr.alloc (.cells (corrCells c) 69):=⟨_,rfl⟩
       rw[<-hW13]
       have hb13:Below wr.heap.size wr W13:=by rw[hW13];exact bel1 _ _
       have hn13:W13.heap[wr.heap.size]?=some (.cells (corrCells c) 69 (0,0)):=by rw[hW13];exact World.alloc_heap_new _ _
       have p0:W13.cell? ⟨wr.heap.size,0,none⟩=some (.string c.lang):=rowcell hn13
       have p3:W13.cell? ⟨wr.heap.size,3,none⟩=some (.string c.text):=rowcell hn13
       have HL13:=Lib.hid (HL.out.bel hb13)
       have HB13:Hid (Below W5.heap.size W5 W13):=Lib.hid (HB.out.trans (hb13.mono HB.out.size))
       clear hW13 hb13 hn13
       by_cases hc:c.lang=lang
       ·have HTK2:Hid (corrLines lang (X.corr.take (k+1))=corrLines lang (X.corr.take k)++(tCorr++c.text.data.toList++[10])):=Lib.hid (HTK.out.trans (by rw[if_pos hc]))
        rw[hc]at p0
        clear hc HTK
        have cL:=Lib.hid (line_any (HL13.out.bel (bel1 W13 (.cells #[.string (bs tCorr),.string c.text] 9))) [bs tCorr,c.text] W13.heap.size 2 #[.string (bs tCorr),.string c.text] (World.alloc_heap_new _ _) (fun j hj=>by
         have hj2:j=0\/j=1:=by simp at hj;omega
         rcases hj2 with rfl | rfl <;> rfl) (by have:=HL13.out.2;omega) (by simp) (by
         have e:(catF [bs tCorr,c.text]).length=12+c.text.size:=by
          unfold catF
          simp[tCorr]
          omega
         rw[e,List.length_append];omega))
        go_wp2_with ((with_reducible refine at_sslice 30 _ _ rfl ?_);go_must (refine wpList_two_strs rfl _ rfl (bs tCorr) c.text (by simp[Act.eval];rfl) ?_))
        refine cL.out.mono ?_
        rintro e W14 ⟨rfl,hl14,hb14,_⟩
        have HL14:Hid (Blf W14 W5.heap.size (T0++corrLines lang (X.corr.take (k+1)))):=Lib.hid (by
         have e:T0++corrLines lang (X.corr.take k)++catF [bs tCorr,c.text]++[10]=T0++corrLines lang (X.corr.take (k+1)):=by
          rw[HTK2.out]
          unfold catF
          simp
         rw[e]at hl14;exact hl14)
        have HB14:Hid (Below W5.heap.size W5 W14):=Lib.hid ((HB13.out.trans ((bel1 W13 _).mono HB13.out.size)).trans hb14)
        clear hl14 hb14 cL p0 p3
        go_wp2_with fail
        go_roundw
        case rel=>exact⟨k+1,by omega,by go_num,HL14,HB14⟩
        case measure=>simp[intOf];omega
       ·have HL14:Hid (Blf W13 W5.heap.size (T0++corrLines lang (X.corr.take (k+1)))):=Lib.hid (by rw[HTK.out,if_neg hc,List.append_nil];exact HL13.out)
        have hne:(c.lang.toList == lang.toList)=false:=by
         have:c.lang.toList≠lang.toList:=fun e=>hc (str_ext (by rw[<-ByteArray.toList_eq,<-ByteArray.toList_eq];exact e))
         simpa using this
        clear hc HTK
        go_wp2_with fail
        go_roundw
        case rel=>exact⟨k+1,by omega,by go_num,HL14,HB13⟩
        case measure=>simp[intOf];omega
      ·have e':k=n3:=by omega
       subst e'
       have hf:=HL.out
       rw[<-hn3,List.take_length]at hf
       have HEQ:Hid (T0++corrLines lang X.corr=textE s X E0 lang):=Lib.hid (by rw[HTX.out,<-hT0,List.append_assoc])
       rw[HEQ.out]at hf
       have cT:=Lib.hid (blf_string hf)
       clear hf
       go_wp2_with fail
       refine cT.out.mono ?_
       rintro e W15 ⟨rfl,hb15⟩
       have HB15:Hid (Below W5.heap.size W5 W15):=Lib.hid (HB.out.trans hb15)
       clear hb15 cT
       go_wp2_with fail
       refine bodyPost_ret (results_tmp2 (u:=6) (v:=7) (by kernel_rfl) _ _) rfl ?_
       unfold TextPost
       rw[HF.out]
       exact⟨rfl,HB1.out.trans ((HB5.out.trans (HB15.out.mono HB5.out.size)).mono HB1.out.size)⟩
structure Folded (l:List Fct) (w:World) (sv tv:Value) (s:StF) (w':World):Prop where
 is:FoldIs l s
 st:StateM (memFr w' (fun k=>k<w.heap.size+1)) (.agg #[sv,tv]) s
 bel:Below w.heap.size w w'
 good:∀ x∈s.stories,StyGood x
 len:s.stories.length<=l.length
theorem Folded.of {l:List Fct} {w w':World} {e:Ending} (h:FoldPost l w e w'):∃ sv tv s,e=.returned (.agg #[sv,tv])/\Folded l w sv tv s w':=by
 obtain⟨sv,tv,s,A,E,rfl,h1,h2,h3,h4,h5,h6,h7⟩:=h
 refine⟨sv,tv,s,rfl,h1,⟨sv,tv,rfl,h2.stys h3,h4.mono (memFr_mono (Upd.refl (fun _=>False) w') fun k _ hf=>⟨fun q=>hf (.inl q),fun q=>q⟩)⟩,h5,h6,h7⟩
theorem Folded.shapes {l:List Fct} {w w':World} {sv tv:Value} {s:StF} (h:Folded l w sv tv s w'):∃ a c b d,sv=.slice a s.stories.length c/\tv=.slice b s.tpls.length d:=by
 obtain⟨sv',tv',e,h1,h2⟩:=h.st
 injection e with e
 have e1:sv=sv':=by have:=congrArg (fun x=>x[0]?) e;simpa using this
 have e2:tv=tv':=by have:=congrArg (fun x=>x[1]?) e;simpa using this
 obtain⟨a,c,r1⟩:=SlM.slice h1
 obtain⟨b,d,r2⟩:=SlM.slice h2
 exact⟨a,c,b,d,e1.trans r1,e2.trans r2⟩
theorem gsty_all {s:StF} (h:∀ x∈s.stories,StyGood x):∀ x∈s.stories,GSty x:=fun x hx=>(h x hx).gsty
theorem gst_all {s:StF} (h:∀ x∈s.stories,StyGood x):GSt s:=fun x hx e he=>((h x hx).blks e he).gl
theorem txs_all {s:StF} (h:∀ x∈s.stories,StyGood x):TxS s 1000000000:=fun x hx e he y hy=>(((h x hx).blks e he).2 y hy).1
theorem txy_all {s:StF} (h:∀ x∈s.stories,StyGood x) (ht:∀ x∈s.stories,∀ e∈x.eds,e.title.size<=1000000000000):∀ x∈s.stories,TxY x:=fun x hx=>
 ⟨fun e he=>⟨ht x hx e he,((h x hx).blks e he).1⟩,(h x hx).corr,(h x hx).ncor⟩
theorem x_title:∀ x∈xS.stories,∀ e∈x.eds,e.title.size<=1000000000000:=by
 intro x hx e he
 obtain rfl:x=xSt:=by simpa [xS] using hx
 obtain rfl:e=xE:=by simpa [xSt] using he
 decide +kernel
theorem gb_d {l:List Blk} (h:(decide (l.length<=100) && l.all fun x=>decide (x.text.size<=1000) && decide (x.lab.after.length<=1000))=true):GB l:=by
 simp only[Bool.and_eq_true,decide_eq_true_eq,List.all_eq_true]at h
 exact⟨h.1,h.2⟩
theorem x_fgood (f:Fct) (h:f=xF1\/f=xF2\/f=xF3\/f=xF4):FGood f:=by
 rcases h with rfl | rfl | rfl | rfl
 all_goals exact⟨gb_d (by decide +kernel),by decide +kernel,by decide +kernel⟩
theorem bs_xText:bs ((textS xS 2 sEn).getD [])=xText:=by rw[x_text];exact bs_of _
theorem is_xText:(textS xS 2 sEn).isSome=true:=by rw[x_text];rfl
theorem is_no:(textS xS 2 sFr).isSome=false:=by rw[x_no];rfl
theorem edn_x:(ednOf xS 2 sEn).getD edn0=xE:=by rw[x_edn];rfl
theorem edn_xs:(ednOf xS 2 sEn).isSome=true:=by rw[x_edn];rfl
theorem find_xs:(findS xS 2).isSome=true:=by rw[x_find];rfl
theorem sty_x:styOf xS 2=xSt:=by unfold styOf;rw[x_find];rfl
def qB (r:Int):Blk:={ blk0 with kind:=3,story:=2,ref:=r }
theorem built_q1:Tryz.prog.built 58 [(1,.int .i64 3),(3,.int .i64 2),(4,.int .i64 1)]=some (blkCells (qB 1) nilS):=by kernel_rfl
theorem built_q3:Tryz.prog.built 58 [(1,.int .i64 3),(3,.int .i64 2),(4,.int .i64 3)]=some (blkCells (qB 3) nilS):=by kernel_rfl
theorem qB_V {mem:Addr->Option Value} (r:Int):BlkV mem (.agg (blkCells (qB r) nilS)) (qB r):=⟨none,0,rfl,IntsM.nil _,ml_d rfl,okI_d rfl,okI_d rfl⟩
theorem built_f4:Tryz.prog.built 50 [(0,.int .i64 4),(2,.int .i64 6),(3,.int .i64 2)]=some (fctCells xF4 nilS nilS nilS):=by kernel_rfl
def xE4:FctE:=⟨xF4,none,0,none,0,none,0⟩
theorem xE4_ok {M:Addr->Option Value}:xE4.ok M:=⟨x_fok _ (.inr (.inr (.inr rfl))),no_parts rfl rfl rfl⟩
theorem x_rev3:∀ id,∀ e∈(Mg.foldG xL id).eds,e.revs.length<=1:=rev_one (by decide +kernel)
theorem x_rev1:∀ id,∀ e∈(Mg.foldG [xF1] id).eds,e.revs.length<=1:=rev_one (by decide +kernel)
theorem x_rev4:∀ id,∀ e∈(Mg.foldG [xF1,xF2,xF3,xF4] id).eds,e.revs.length<=1:=rev_one (by decide +kernel)
theorem fold_xs {w w1:World} {v:Value} {es:List FctE} (hr:FRow w1 w.heap.size v es) (hok:∀ x∈es,x.ok (fun a=>w1.cell? a)) (hl:es.length<=20000) (hg:∀ x∈es,FGood x.f) (h1:∀ id,∀ e∈(Mg.foldG (es.map FctE.f) id).eds,e.revs.length<=1):
 Calls Tryz.prog 26 #[v] w1 (FoldPost (es.map FctE.f) w1):=
 Fold_any (hr.es hok) hl hg h1 w1 (Sees.self w1) (cells_lt w1)
theorem x_text_eq:(xText.toList == [82,97,105,110,10,73,116,32,114,97,105,110,101,100,46,32,73,116,32,115,116,111,112,112,101,100,46,10,114,97,105,110,58,32,49,10,67,111,114,114,101,99,116,105,111,110,58,32,73,116,32,115,116,111,112,112,101,100,46,10])=true:=by rw[ByteArray.toList_eq];decide +kernel
theorem x_body_eq:(xBody2.toList == [73,116,32,114,97,105,110,101,100,46,32,73,116,32,115,116,111,112,112,101,100,46])=true:=by rw[ByteArray.toList_eq];decide +kernel
def xRem:ByteArray:=bs tRemoved
theorem x_rem_eq:(xRem.toList == [91,114,101,109,111,118,101,100,93])=true:=by rw[ByteArray.toList_eq];decide +kernel
theorem field_stories (a b:Option Addr) (n m c d:Nat) (w:World):(Instr.field 27 (.agg #[.slice a n c,.slice b m d]) 0).run Tryz.prog w=.ok (.slice a n c) w:=by kernel_rfl
theorem frow_some {w:World} {B:Nat} {v:Value} {es:List FctE} (h:FRow w B v es) (hp:0<es.length):∃ g cap,v=.slice (some ⟨g,0,none⟩) es.length cap/\es.length<=cap/\cap<=maxLen:=by
 rcases h.2 with ⟨_,hz⟩ | ⟨g,cap,cur,rfl,_,_,hn,hc,_⟩
 ·omega
 ·exact⟨g,cap,rfl,hn,hc⟩
theorem EsM.take {mem:Addr->Option Value} {ao:Option Addr} {cap:Nat} {es:List FctE} (h:EsM mem (.slice ao es.length cap) es) (k:Nat) (hk:k<=es.length):EsM mem (.slice ao k cap) (es.take k):=by
 obtain⟨b,o,⟨h1,ao',cap',e,h2,h3,h4⟩,h5⟩:=h
 injection e with e1 _ e3
 subst e1 e3
 have hl:(es.take k).length=k:=by rw[List.length_take];omega
 refine⟨b,o,⟨by omega,ao,cap,by rw[hl],by omega,h3,fun hp=>h4 (by omega)⟩,fun j hj=>?_⟩
 rw[List.getElem_take]
 exact h5 j (by omega)
structure ExIn (w:World) (B:Nat) (v:Value) (es:List FctE):Prop where
 row:FRow w B v es
 ok:∀ x∈es,x.ok (memFr w (fun k=>k<B\/v.ownBlock=some k))
theorem ExIn.bel {w w':World} {B:Nat} {v:Value} {es:List FctE} (h:ExIn w B v es) (hb:Below w.heap.size w w'):ExIn w' B v es:=
 ⟨h.row.same fun k hk=>hb.block k (h.row.ge k hk).2,fun x hx=>(h.ok x hx).mono (memFr_below hb)⟩
theorem ExIn.see {w:World} {B:Nat} {v:Value} {es:List FctE} (h:ExIn w B v es):∀ x∈es,x.ok (fun a=>w.cell? a):=fun x hx=>(h.ok x hx).mono (memFr_sees w _)
theorem xEs_f (h:Nat):(xEs h).map FctE.f=xL:=rfl
theorem xEs_good (h:Nat):∀ x∈xEs h,FGood x.f:=by
 intro x hx
 simp only[xEs,List.mem_cons,List.mem_nil_iff,or_false]at hx
 rcases hx with rfl | rfl | rfl
 ·exact x_fgood _ (.inl rfl)
 ·exact x_fgood _ (.inr (.inl rfl))
 ·exact x_fgood _ (.inr (.inr (.inl rfl)))
set_option maxRecDepth 100000 in
set_option maxHeartbeats 16000000 in
theorem sane_any (w:World):Calls Tryz.prog 16 #[] w fun e w'=>e=.returned (.bool true)/\Below w.heap.size w w':=by
 have cX:=Lib.hid (example_any w)
 go_enter Tryz.func16,Tryz.ntmps16
 go_wp2_with fail
 refine cX.out.mono ?_
 rintro e W1 ⟨v,rfl,hr1,hok1,hb1⟩
 have HEX1:Hid (ExIn W1 w.heap.size v (xEs w.heap.size)):=Lib.hid ⟨hr1,hok1⟩
 have HB1:=Lib.hid hb1
 obtain⟨vg,vc,rfl,hc3,hcm⟩:=frow_some hr1 (by show 0<3;omega)
 rw[show (xEs w.heap.size).length=3 from rfl]at *
 have cF:=Lib.hid (fold_xs HEX1.out.row HEX1.out.see (by show 3<=20000;omega) (xEs_good _) x_rev3)
 clear hr1 hok1 hb1 cX
 go_wp2_with fail
 refine cF.out.mono ?_
 intro e W2 hp
 obtain⟨sv,tv,s,rfl,hF⟩:=Folded.of hp
 obtain rfl:=x_is (by rw[<-xEs_f w.heap.size];exact hF.is)
 obtain⟨sa,sc,ta,tc,rfl,rfl⟩:=hF.shapes
 rw[show xS.stories.length=1 from rfl,show xS.tpls.length=0 from rfl]at *
 have HST:=Lib.hid hF.st
 have HGO:=Lib.hid hF.good
 have HB2:Hid (Below W1.heap.size W1 W2):=Lib.hid hF.bel
 clear hp hF cF
 go_upto_region 3 with ((with_reducible refine at_sstore 27 _ _ rfl ?_);go_must (refine wpList_snew rfl S_state _ _ rfl rfl _ _ #[.slice sa 1 sc,.slice ta 0 tc] (by simp[Act.eval]) (by simp[Act.eval]) rfl rfl (by simp[Value.oneCell']) ?_))
 obtain⟨W3,hW3⟩:∃ W3,W3=W2.alloc (.cells #[.slice sa 1 sc,.slice ta 0 tc] 27):=⟨_,rfl⟩
 rw[<-hW3]
 have hb3:Below W2.heap.size W2 W3:=by rw[hW3];exact bel1 _ _
 have HN3:Hid (W3.heap[W2.heap.size]?=some (.cells #[.slice sa 1 sc,.slice ta 0 tc] 27 (0,0))):=Lib.hid (by rw[hW3];exact World.alloc_heap_new _ _)
 have HS3:Hid (Sees (memFr W2 (fun k=>k<W1.heap.size+1)) W3):=Lib.hid ((memFr_sees W2 _).bel hb3)
 have HB3:Hid (Below W1.heap.size W1 W3):=Lib.hid (HB2.out.trans (hb3.mono HB2.out.size))
 clear hW3 hb3
 have cT:=Lib.hid (Text_any HST.out (by decide) (txy_all HGO.out x_title) (txs_all HGO.out) 2 ⟨#[101,110]⟩ W3 HS3.out)
 go_wp2_with ((with_reducible refine at_sload 27 _ rfl ?_);go_must (refine wpList_sload rfl S_state _ rfl (by simp[Act.eval]) #[.slice sa 1 sc,.slice ta 0 tc] rfl HN3.out ?_))
 refine cT.out.mono ?_
 rintro e W4 ⟨rfl,hb4⟩
 rw[show bs ((textS xS 2 ⟨#[101,110]⟩).getD [])=xText from bs_xText,show (textS xS 2 ⟨#[101,110]⟩).isSome=true from is_xText]
 have HN4:=Lib.hid ((hb4.block _ (hlt HN3.out)).trans HN3.out)
 have HS4:=Lib.hid (HS3.out.bel hb4)
 have HB4:Hid (Below W1.heap.size W1 W4):=Lib.hid (HB3.out.trans (hb4.mono HB3.out.size))
 clear hb4 cT
 have cT:=Lib.hid (Text_any HST.out (by decide) (txy_all HGO.out x_title) (txs_all HGO.out) 2 ⟨#[102,114]⟩ W4 HS4.out)
 go_wp2_with ((with_reducible refine at_sload 27 _ rfl ?_);go_must (refine wpList_sload rfl S_state _ rfl (by simp[Act.eval]) #[.slice sa 1 sc,.slice ta 0 tc] rfl HN4.out ?_))
 refine cT.out.mono ?_
 rintro e W5 ⟨rfl,hb5⟩
 rw[show (textS xS 2 ⟨#[102,114]⟩).isSome=false from is_no]
 generalize bs ((textS xS 2 ⟨#[102,114]⟩).getD [])=tno
 have HN5:=Lib.hid ((hb5.block _ (hlt HN4.out)).trans HN4.out)
 have HS5:=Lib.hid (HS4.out.bel hb5)
 have HB5:Hid (Below W1.heap.size W1 W5):=Lib.hid (HB4.out.trans (hb5.mono HB4.out.size))
 clear hb5 cT
 have cE:=Lib.hid (Edition_any HST.out (gst_all HGO.out) 2 ⟨#[101,110]⟩ W5 HS5.out)
 go_wp2_with ((with_reducible refine at_sload 27 _ rfl ?_);go_must (refine wpList_sload rfl S_state _ rfl (by simp[Act.eval]) #[.slice sa 1 sc,.slice ta 0 tc] rfl HN5.out ?_))
 refine cE.out.mono ?_
 rintro e W6 ⟨bv,rfl,_,hbr,hb6⟩
 rw[show (ednOf xS 2 ⟨#[101,110]⟩).getD edn0=xE from edn_x]at hbr ⊢
 rw[show (ednOf xS 2 ⟨#[101,110]⟩).isSome=true from edn_xs]
 obtain⟨ba,bn,bc,rfl⟩:=hbr.sl
 have HN6:=Lib.hid ((hb6.block _ (hlt HN5.out)).trans HN5.out)
 have HS6:=Lib.hid (HS5.out.bel hb6)
 have HB6:Hid (Below W1.heap.size W1 W6):=Lib.hid (HB5.out.trans (hb6.mono HB5.out.size))
 clear hb6 cE hbr
 go_upto_region 6 with ((with_reducible refine at_sstore 39 _ _ rfl ?_);go_must (refine wpList_snew rfl S_edn _ _ rfl rfl _ _ (ednCells xE (.slice ba bn bc)) (by simp[Act.eval]) (by simp[Act.eval]) rfl rfl (by simp[Value.oneCell']) ?_))
 obtain⟨W7,hW7⟩:∃ W7,W7=W6.alloc (.cells (ednCells xE (.slice ba bn bc)) 39):=⟨_,rfl⟩
 rw[<-hW7]
 have hb7:Below W6.heap.size W6 W7:=by rw[hW7];exact bel1 _ _
 have HE7:Hid (W7.heap[W6.heap.size]?=some (.cells (ednCells xE (.slice ba bn bc)) 39 (0,0))):=Lib.hid (by rw[hW7];exact World.alloc_heap_new _ _)
 have HN7:=Lib.hid ((hb7.block _ (hlt HN6.out)).trans HN6.out)
 have HS7:=Lib.hid (HS6.out.bel hb7)
 have HB7:Hid (Below W1.heap.size W1 W7):=Lib.hid (HB6.out.trans (hb7.mono HB6.out.size))
 clear hW7 hb7
 have cI:=Lib.hid (Find_any HST.out (gsty_all HGO.out) 2 W7 HS7.out)
 go_wp2_with ((with_reducible refine at_sload 27 _ rfl ?_);go_must (refine wpList_sload rfl S_state _ rfl (by simp[Act.eval]) #[.slice sa 1 sc,.slice ta 0 tc] rfl HN7.out ?_))
 refine cI.out.mono ?_
 rintro e W8 ⟨xt,xe,xc,rfl,_,_,_,hxt,hxe,hxc,hb8⟩
 rw[show styOf xS 2=xSt from sty_x]at *
 rw[show (findS xS 2).isSome=true from find_xs]
 obtain⟨xta,xtc,rfl⟩:=lrow_shape hxt
 obtain⟨xea,xec,rfl⟩:=hxe.shape
 obtain⟨xca,xcc,hxcv⟩:=hxc.shape
 subst hxcv
 rw[show (xSt.corr.map corrCells).length=1 from rfl,show xSt.topics.length=1 from rfl,show xSt.eds.length=1 from rfl]at *
 have HN8:=Lib.hid ((hb8.block _ (hlt HN7.out)).trans HN7.out)
 have HE8:=Lib.hid ((hb8.block _ (hlt HE7.out)).trans HE7.out)
 have HS8:=Lib.hid (HS7.out.bel hb8)
 have HB8:Hid (Below W1.heap.size W1 W8):=Lib.hid (HB7.out.trans (hb8.mono HB7.out.size))
 clear hb8 cI hxt hxe hxc
 go_upto_region 7 with ((with_reducible refine at_sstore 34 _ _ rfl ?_);go_must (refine wpList_snew rfl S_sty _ _ rfl rfl _ _ (styCells xSt (.slice xta 1 xtc) (.slice xea 1 xec) (.slice xca 1 xcc)) (by simp[Act.eval]) (by simp[Act.eval]) rfl rfl (by simp[Value.oneCell']) ?_))
 obtain⟨W9,hW9⟩:∃ W9,W9=W8.alloc (.cells (styCells xSt (.slice xta 1 xtc) (.slice xea 1 xec) (.slice xca 1 xcc)) 34):=⟨_,rfl⟩
 rw[<-hW9]
 have hb9:Below W8.heap.size W8 W9:=by rw[hW9];exact bel1 _ _
 have HX9:Hid (W9.heap[W8.heap.size]?=some (.cells (styCells xSt (.slice xta 1 xtc) (.slice xea 1 xec) (.slice xca 1 xcc)) 34 (0,0))):=Lib.hid (by rw[hW9];exact World.alloc_heap_new _ _)
 have HN9:=Lib.hid ((hb9.block _ (hlt HN8.out)).trans HN8.out)
 have HE9:=Lib.hid ((hb9.block _ (hlt HE8.out)).trans HE8.out)
 have HS9:=Lib.hid (HS8.out.bel hb9)
 have HB9:Hid (Below W1.heap.size W1 W9):=Lib.hid (HB8.out.trans (hb9.mono HB8.out.size))
 clear hW9 hb9
 have cQ:=Lib.hid (Resolve_any HST.out (by decide) ⟨#[102,114]⟩ (qB_V 1) W9 HS9.out)
 go_wp2_with (first
  |((with_reducible refine at_sload 27 _ rfl ?_);go_must (refine wpList_sload rfl S_state _ rfl (by simp[Act.eval]) #[.slice sa 1 sc,.slice ta 0 tc] rfl HN9.out ?_))
  |((with_reducible refine at_sbuild 58 _ rfl ?_);go_must (refine wpList_buildTo rfl 58 _ rfl _ rfl _ (by simp[Act.eval,Act.put];with_reducible exact built_q1) ?_)))
 refine cQ.out.mono ?_
 rintro e W10 ⟨rfl,hb10⟩
 rw[show bs (resS xS ⟨#[102,114]⟩ (qB 1))=xBody2 from (congrArg bs x_q).trans (bs_of _)]
 have HN10:=Lib.hid ((hb10.block _ (hlt HN9.out)).trans HN9.out)
 have HE10:=Lib.hid ((hb10.block _ (hlt HE9.out)).trans HE9.out)
 have HX10:=Lib.hid ((hb10.block _ (hlt HX9.out)).trans HX9.out)
 have HS10:=Lib.hid (HS9.out.bel hb10)
 have HB10:Hid (Below W1.heap.size W1 W10):=Lib.hid (HB9.out.trans (hb10.mono HB9.out.size))
 clear hb10 cQ
 have cQ:=Lib.hid (Resolve_any HST.out (by decide) ⟨#[101,110]⟩ (qB_V 3) W10 HS10.out)
 go_wp2_with (first
  |((with_reducible refine at_sload 27 _ rfl ?_);go_must (refine wpList_sload rfl S_state _ rfl (by simp[Act.eval]) #[.slice sa 1 sc,.slice ta 0 tc] rfl HN10.out ?_))
  |((with_reducible refine at_sbuild 58 _ rfl ?_);go_must (refine wpList_buildTo rfl 58 _ rfl _ rfl _ (by simp[Act.eval,Act.put];with_reducible exact built_q3) ?_)))
 refine cQ.out.mono ?_
 rintro e W11 ⟨rfl,hb11⟩
 rw[show bs (resS xS ⟨#[101,110]⟩ (qB 3))=xRem from congrArg bs x_r]
 have HE11:=Lib.hid ((hb11.block _ (hlt HE10.out)).trans HE10.out)
 have HX11:=Lib.hid ((hb11.block _ (hlt HX10.out)).trans HX10.out)
 have HB11:Hid (Below W1.heap.size W1 W11):=Lib.hid (HB10.out.trans (hb11.mono HB10.out.size))
 have HEX11:=Lib.hid (HEX1.out.bel HB11.out)
 clear hb11 cQ
 have HTK:=Lib.hid ((HEX11.out.row.es HEX11.out.see).take 1 (by show 1<=3;omega))
 have cF:=Lib.hid (Fold_any HTK.out (by show 1<=20000;omega) (fun x hx=>xEs_good _ x (List.mem_of_mem_take hx)) x_rev1 W11 (Sees.self W11) (cells_lt W11))
 have hcm2:vc<=9223372036854775807:=by unfold maxLen at hcm;exact hcm
 have hc1:1<=vc:=by
  have:3<=vc:=hc3
  omega
 go_wp2_with fail
 refine cF.out.mono ?_
 intro e W12 hp
 obtain⟨sv2,tv2,s2,rfl,hF⟩:=Folded.of hp
 have hz:=x_one hF.is
 obtain⟨a2,c2,b2,d2,rfl,rfl⟩:=hF.shapes
 rw[hz]at *
 have hb12:=hF.bel
 have HB12:Hid (Below W1.heap.size W1 W12):=Lib.hid (HB11.out.trans (hb12.mono HB11.out.size))
 have HE12:=Lib.hid ((hb12.block _ (hlt HE11.out)).trans HE11.out)
 have HX12:=Lib.hid ((hb12.block _ (hlt HX11.out)).trans HX11.out)
 have HEX12:=Lib.hid (HEX11.out.bel hb12)
 clear hp hF hz hb12 cF
 generalize s2.tpls.length=n2 at *
 have hw12:w.heap.size<=W12.heap.size:=by
  have h1:=HB1.out.size
  have h2:=HB12.out.size
  omega
 have hfd:=field_stories
 go_upto_region 10 with fail
 clear hfd
 go_wp2_with (first
  |((with_reducible refine at_sbuild 50 _ rfl ?_);go_must (refine wpList_buildTo rfl 50 _ rfl _ rfl _ (by simp[Act.eval];with_reducible exact built_f4) ?_))
  |((with_reducible refine at_sslice 22 _ _ rfl ?_);go_must (refine wpList_fct_slice rfl _ rfl xE4 (by simp[Act.eval,Act.put] <;> rfl) ?_))
  |((with_reducible refine at_sappend _ _ 22 rfl ?_);go_must (refine wpList_app_fct rfl _ _ rfl w.heap.size _ (xEs w.heap.size) (by simp[Act.eval,Act.put] <;> rfl) (HEX12.out.bel (bel1 _ _)).row xE4 W12.heap.size 1 (by simp[Act.eval,Act.put]) (World.alloc_heap_new _ _) (by show 3<=100000;omega) (by rw[World.size_alloc];omega) ?_);intro v13 w13 hr13 hg13 hob13))
 have hu13:Upd (fun k=>(Value.slice (some ⟨vg,0,none⟩) 3 vc).ownBlock=some k) W12 w13:=((Upd.refl _ W12).alloc _).grown hg13 (fun k e=>.inl e)
 have hvg:vg<W1.heap.size:=(HEX1.out.row.ge vg rfl).2
 have hs12:W1.heap.size<=W12.heap.size:=HB12.out.size
 have HEX13:Hid (ExIn w13 w.heap.size v13 (xEs w.heap.size++[xE4])):=Lib.hid ⟨hr13,fun x hx=>by
  rcases List.mem_append.1 hx with hx | hx
  ·refine(HEX12.out.ok x hx).mono (memFr_mono hu13 fun k hk hf=>⟨fun q=>?_,fun q=>hf (.inr q)⟩)
   rcases q with q | q
   ·exact hf (.inl q)
   ·rcases hob13 with e | e
    ·rw[e]at q;exact hf (.inr q)
    ·rw[e,World.size_alloc]at q;injection q with q;omega
  ·rw[List.mem_singleton.1 hx];exact xE4_ok⟩
 have hk13:∀ k,W1.heap.size<=k->k<W12.heap.size->w13.heap[k]?=W12.heap[k]?:=fun k h1 h2=>hu13.block k h2 (fun e=>by
  injection e with e
  have e:vg=k:=e
  omega)
 have hw6:W1.heap.size<=W6.heap.size:=HB6.out.size
 have hw8:W1.heap.size<=W8.heap.size:=HB8.out.size
 have HE13:=Lib.hid ((hk13 _ hw6 (hlt HE12.out)).trans HE12.out)
 have HX13:=Lib.hid ((hk13 _ hw8 (hlt HX12.out)).trans HX12.out)
 have hwv:w.heap.size<=vg:=(HEX1.out.row.ge vg rfl).1
 have HB13:Hid (Below w.heap.size w w13):=Lib.hid ((HB1.out.trans (HB12.out.mono HB1.out.size)).trans (hu13.below (fun k e=>by
  injection e with e
  have e:vg=k:=e
  omega) hw12))
 clear hu13 hk13 hr13 hg13 hob13
 have cF:=Lib.hid (Fold_any (HEX13.out.row.es HEX13.out.see) (by show 4<=20000;omega) (fun x hx=>by
  rcases List.mem_append.1 hx with hx | hx
  ·exact xEs_good _ x hx
  ·rw[List.mem_singleton.1 hx];exact x_fgood _ (.inr (.inr (.inr rfl)))) x_rev4 w13 (Sees.self w13) (cells_lt w13))
 refine cF.out.mono ?_
 intro e W14 hp
 obtain⟨sv3,tv3,s3,rfl,hF⟩:=Folded.of hp
 have hz:=x_down hF.is
 obtain⟨sv3',tv3',e3,hsv,htv⟩:=hF.st
 injection e3 with e3
 obtain rfl:sv3=sv3':=by have:=congrArg (fun x=>x[0]?) e3;simpa using this
 obtain rfl:tv3=tv3':=by have:=congrArg (fun x=>x[1]?) e3;simpa using this
 clear e3
 rw[hz]at hsv
 obtain⟨a3,c3,b3,o3,rfl,hc31,hc32,ha3,hat3⟩:=SlM.open_ hsv
 obtain⟨ta3,tc3,rfl⟩:=SlM.slice htv
 obtain rfl:=ha3 (by show 0<1;omega)
 obtain⟨_,tv4,ev4,cv4,hcells,hP4⟩:=hat3 0 (by show 0<1;omega)
 obtain⟨t41,t42,e41,e42,c41,c42,rfl,rfl,rfl⟩:=hP4.shape
 rw[Nat.zero_mul,Nat.add_zero]at hcells
 have hcl:=cells_see (sz:=8) (memFr_sees W14 _) hcells rfl
 have HCL:=Lib.hid hcl
 have HB14:Hid (Below w13.heap.size w13 W14):=Lib.hid hF.bel
 have HE14:=Lib.hid ((hF.bel.block _ (hlt HE13.out)).trans HE13.out)
 have HX14:=Lib.hid ((hF.bel.block _ (hlt HX13.out)).trans HX13.out)
 rw[show ([⟨2,str0,[],[],2,[],false,true⟩]:List StyF).length=1 from rfl]at *
 clear hp hF hz hsv htv hat3 hcells hP4 hcl cF ha3
 generalize s3.tpls.length=n3 at *
 go_upto_region 11 with ((with_reducible refine at_sstore 27 _ _ rfl ?_);go_must (refine wpList_snew rfl S_state _ _ rfl rfl _ _ #[.slice (some ⟨b3,o3,none⟩) 1 c3,.slice ta3 n3 tc3] (by simp[Act.eval]) (by simp[Act.eval]) rfl rfl (by simp[Value.oneCell']) ?_))
 obtain⟨W15,hW15⟩:∃ W15,W15=W14.alloc (.cells #[.slice (some ⟨b3,o3,none⟩) 1 c3,.slice ta3 n3 tc3] 27):=⟨_,rfl⟩
 rw[<-hW15]
 have hb15:Below W14.heap.size W14 W15:=by rw[hW15];exact bel1 _ _
 have hn15:W15.heap[W14.heap.size]?=some (.cells #[.slice (some ⟨b3,o3,none⟩) 1 c3,.slice ta3 n3 tc3] 27 (0,0)):=by rw[hW15];exact World.alloc_heap_new _ _
 have p0:W15.cell? ⟨W14.heap.size,0,none⟩=some (.slice (some ⟨b3,o3,none⟩) 1 c3):=rowcell hn15
 have p1:W15.cell? ⟨W6.heap.size,4,none⟩=some (.int .i64 3):=rowcell ((hb15.block _ (hlt HE14.out)).trans HE14.out)
 have p2:W15.cell? ⟨W6.heap.size,1,none⟩=some (.int .i64 1):=rowcell ((hb15.block _ (hlt HE14.out)).trans HE14.out)
 have p3:W15.cell? ⟨W8.heap.size,4,none⟩=some (.int .i64 2):=rowcell ((hb15.block _ (hlt HX14.out)).trans HX14.out)
 have p4:W15.cell? ⟨W8.heap.size,5,none⟩=some (.slice xca 1 xcc):=rowcell ((hb15.block _ (hlt HX14.out)).trans HX14.out)
 have p5:W15.cell? ⟨b3,o3+7,none⟩=some (.bool true):=sees_bel hb15 _ _ (HCL.out 7 (by omega))
 have p6:W15.cell? ⟨b3,o3+3,none⟩=some (.slice e41 0 e42):=sees_bel hb15 _ _ (HCL.out 3 (by omega))
 have HB15:Hid (Below w.heap.size w W15):=Lib.hid (HB13.out.trans ((HB14.out.trans (hb15.mono HB14.out.size)).mono HB13.out.size))
 have ht1:=x_text_eq
 have ht2:=x_body_eq
 have ht3:=x_rem_eq
 clear hW15 hb15 hn15
 go_wp2_with fail
 go_ret
 exact⟨rfl,HB15.out⟩
end Go.Proofs.YtdkkhmjlamkgdaaGreatDoor
namespace Go.Proofs.YtdkkhmjlamkgdaaGreatDoor.Mg
def cutT (t:ByteArray):ByteArray:=t.extract 0 (min (t.size:Int) 300).toNat
def shortB (b:Blk):Blk:={ b with text:=cutT b.text,lab:={ b.lab with after:=b.lab.after.take 64 } }
def shortF (f:Fct):Fct:={ f with text:=cutT f.text,topics:=f.topics.take 10,blocks:=(f.blocks.take 10).map shortB }
def shortL7 (l:List Fct):List Fct:=(l.take 40).map shortF
theorem cutT_size (t:ByteArray):(cutT t).size<=300/\(cutT t).size<=t.size:=by
 unfold cutT
 rw[ByteArray.size_extract]
 omega
theorem shortB_GB (l:List Blk):GB ((l.take 10).map shortB):=by
 refine⟨by rw[List.length_map,List.length_take];omega,fun x hx=>?_⟩
 obtain⟨y,_,rfl⟩:=List.mem_map.1 hx
 refine⟨by have:=(cutT_size y.text).1;show (cutT y.text).size<=_;omega,?_⟩
 show (y.lab.after.take 64).length<=_
 rw[List.length_take];omega
theorem shortF_good (f:Fct):FGood (shortF f):=
 ⟨shortB_GB _,by have:=(cutT_size f.text).1;show (cutT f.text).size<=_;omega,by show (f.topics.take 10).length<=_;rw[List.length_take];omega⟩
theorem shortL7_good (l:List Fct):∀ f∈shortL7 l,FGood f:=fun f hf=>by
 obtain⟨y,_,rfl⟩:=List.mem_map.1 hf
 exact shortF_good y
theorem shortL7_len (l:List Fct):(shortL7 l).length<=40:=by
 unfold shortL7
 rw[List.length_map,List.length_take];omega
end Go.Proofs.YtdkkhmjlamkgdaaGreatDoor.Mg
namespace Go.Proofs.YtdkkhmjlamkgdaaGreatDoor
open Go.RowKit Mg Go.Shelf Go.Maps
section
variable {P:Program} {t e:TypeId} {z:Value} {sz bytes:Nat} {w:World} {ops:Array Oper} {rest:List Oper} {o:Oper} {a:Act} {Q:Exit->Act->World->Prop}
theorem wpList_empty_slice (hgd:o.guard=none) (T:ElemT P t e z sz bytes) (parts:Array (Nat × Operand)) (ho:o.op=.buildSlice t 0 parts) (hp:parts=#[])
 (hK:wpList P ops Q rest (a.put o.dst (.slice (some ⟨w.heap.size,0,none⟩) 0 0)) (w.alloc (.cells #[] e))):wpList P ops Q (o::rest) a w:=
 wpList_plain hgd fun _ hK'=>by
  obtain⟨i0,hi0,hz0,hz1,hz2⟩:=info_parts T.inf
  subst hp
  have hr:(Instr.buildSlice t 0 #[]).run P w=.ok (.slice (some ⟨w.heap.size,0,none⟩) 0 0) (w.alloc (.cells #[] e)):=by
   simp[Instr.buildSlice,run_underlying T.und,sizeOf,typeInfo,hi0,Instr.fill,newRow]
   rw[show Array.range 0=#[] from by simp[Array.range]]
   simp
  unfold Oper.wp execOp
  simp only[ho,List.map_toArray,List.map_nil,Sem.run_bind,hr,Result.andThen_ok]
  exact hK' _ _ hK
theorem GRow.empty (w:World) (B:Nat) (hB:B<=w.heap.size) (_hz:0<sz):GRow (w.alloc (.cells #[] e)) B e sz (.slice (some ⟨w.heap.size,0,none⟩) 0 0) []:=
 ⟨⟨by simp,.inr ⟨w.heap.size,0,#[],rfl,hB,World.alloc_heap_new _ _,Nat.le_refl _,Nat.zero_le _,by simp,by simp⟩⟩,by simp⟩
end
theorem addr_add0 (p:Addr):p.add 0=p:=by unfold Addr.add;rw[if_pos rfl]
theorem run_cut {P:Program} {t e:TypeId} {z:Value} {sz bytes:Nat} (T:ElemT P t e z sz bytes) (ht:P.underlying t=some (.slice (P.elem t))) (a:Option Addr) (len cap:Nat) (h:Int) (h0:0<=h) (h2:h<=cap) (w:World):(Instr.slice t (.slice a len cap) none (some (.int .i64 h)) none).run P w=.ok (.slice a h.toNat cap) w:=by
 obtain⟨i0,hi0,hz0,hz1,hz2⟩:=info_parts T.inf
 have he:P.elem t=e:=by
  have:=T.und
  rw[ht]at this
  injection this with this
  injection this
 rw[run_slice_h w t a len cap ht .i64 h h0 h2,he]
 have:(if cap=0 then a else a.map (·.add (0 * i0.size)))=a:=by
  split
  ·rfl
  ·rw[Nat.zero_mul]
   cases a with
   |none=>rfl
   |some p=>exact congrArg some (addr_add0 p)
 simp[sizeOf,typeInfo,hi0,sliced]
 simpa using this
theorem StrsM.take {mem:Addr->Option Value} {ao:Option Addr} {cap:Nat} {l:List ByteArray} (h:StrsM mem (.slice ao l.length cap) l) (k:Nat) (hk:k<=l.length):StrsM mem (.slice ao k cap) (l.take k):=by
 obtain⟨b,o,⟨h1,ao',cap',e,h2,h3,h4⟩,h5,h6⟩:=h
 injection e with e1 _ e3
 subst e1 e3
 have hl:(l.take k).length=k:=by rw[List.length_take];omega
 refine⟨b,o,⟨by omega,ao,cap,by rw[hl],by omega,h3,fun hp=>h4 (by omega)⟩,fun s hs=>h5 s (List.mem_of_mem_take hs),fun j hj=>?_⟩
 rw[List.getElem_take]
 exact h6 j (by omega)
theorem IntsM.take {mem:Addr->Option Value} {ao:Option Addr} {cap:Nat} {l:List Int} (h:IntsM mem (.slice ao l.length cap) l) (k:Nat) (hk:k<=l.length):IntsM mem (.slice ao k cap) (l.take k):=by
 obtain⟨b,o,⟨h1,ao',cap',e,h2,h3,h4⟩,h6⟩:=h
 injection e with e1 _ e3
 subst e1 e3
 have hl:(l.take k).length=k:=by rw[List.length_take];omega
 refine⟨b,o,⟨by omega,ao,cap,by rw[hl],by omega,h3,fun hp=>h4 (by omega)⟩,fun j hj=>?_⟩
 rw[List.getElem_take]
 exact h6 j (by omega)
theorem E_int:ElemT Tryz.prog 46 3 (.int .i64 0) 1 8:=⟨Tryz.underlying46,by kernel_rfl,rfl,by decide,by decide,by decide⟩
section
variable {ops:Array Oper} {rest:List Oper} {o:Oper} {a:Act} {w:World} {Q:Exit->Act->World->Prop} {mem:Addr->Option Value}
theorem wpList_app_after2 (hgd:o.guard=none) (s x:Operand) (ho:o.op=.call { callee:=.builtin .append,args:=#[s,x],argTypes:=#[46,46] })
 (g:Nat) (hs:a.eval s=.slice (some ⟨g,0,none⟩) 0 0) (hg:w.heap[g]?=some (.cells #[] 3 (0,0))) (ao:Option Addr) (cap:Nat) (l:List Int) (hx:a.eval x=.slice ao l.length cap) (hi:IntsM mem (.slice ao l.length cap) l) (hsee:Sees mem w) (hlen:l.length * 8<=140737488351232)
 (h:∀ v' w',IRow w' g v' l->w.grownBy w' (some g)->wpList Tryz.prog ops Q rest (a.put o.dst v') w'):wpList Tryz.prog ops Q (o::rest) a w:=by
 obtain⟨i0,hi0,hz0,hz1,hz2⟩:=info_parts int_info
 have hlt:g<w.heap.size:=(Array.getElem?_eq_some_iff.1 hg).1
 have hown:w.ownsRow g 3 1 (.slice (some ⟨g,0,none⟩) 0 0) 0 []:=⟨rfl,.inr ⟨g,0,#[],rfl,Nat.le_refl _,hg,Nat.le_refl _,Nat.zero_le _,rfl,rfl⟩⟩
 refine wpList_append_any w hgd s x 46 ho g 3 i0 (.int .i64 0) 1 8 Tryz.underlying46 hi0 hz0 hz1 hz2 rfl (by decide) _ 0 [] hs hown w.heap.size ao l.length cap (l.map encI) hx (reads_ints hi hsee) (one_cell l) (by unfold maxLen;omega) (by omega) (by omega) ?_
 intro v' w' h1 h2 _
 refine h v' w' ?_ h2
 unfold IRow
 simpa using h1
end
theorem take_min' {α:Type} (l:List α) (k:Nat):l.take (min l.length k)=l.take k:=by
 rcases Nat.le_total l.length k with h | h
 ·rw[Nat.min_eq_left h,List.take_length,List.take_of_length_le h]
 ·rw[Nat.min_eq_right h]
theorem topics_ready {w6 w7:World} {g:Nat} {cs0:Array Value} {T:TypeId} {v7:Value} {l:List ByteArray} (hx:w6.heap[g]?=some (.cells cs0 T (0,0))) (hr:GRow w7 w6.heap.size 9 1 v7 (l.map fun x=>(#[.string x]:Array Value))) (hl:∀ s∈l,s.size<=maxLen) {o:Obj} (hg:(w6.alloc o).grownBy w7 (some w6.heap.size)):
 w7.heap[g]?=some (.cells cs0 T (0,0))/\Below w6.heap.size w6 w7/\StrsM (memFr w7 (fun k=>k<w6.heap.size)) v7 l:=by
 have hb:Below w6.heap.size w6 w7:=(bel1 w6 o).grown hg (by rw[World.size_alloc];omega) (fun k e=>by injection e with e;omega)
 refine⟨(hb.block g (qh hx)).trans hx,hb,lrow_strs hr hl (fun k hk q=>?_)⟩
 have:=(hr.ge k hk).1
 omega
def ShortPost (l:List Fct) (w:World) (e:Ending) (w':World):Prop:=∃ r fs,e=.returned r/\FRow w' w.heap.size r fs/\fs.map FctE.f=shortL7 l/\(∀ x∈fs,x.ok (memNo w' (fun k=>r.ownBlock=some k)))/\Below w.heap.size w w'
noncomputable def memSh (mem:Addr->Option Value) (N:Nat) (W:World) (F:Nat->Prop) (a:Addr):Option Value:=if a.block<N then mem a else memNo W F a
theorem memSh_low {mem:Addr->Option Value} {N:Nat} {W:World} {F:Nat->Prop} {a:Addr} {u:Value} (h:mem a=some u) (hl:a.block<N):memSh mem N W F a=some u:=by
 unfold memSh;rw[if_pos hl];exact h
theorem memSh_new {mem:Addr->Option Value} {N:Nat} {W:World} {F:Nat->Prop} {a:Addr} {u:Value} (h:memNo W F a=some u) (hl:N<=a.block):memSh mem N W F a=some u:=by
 unfold memSh;rw[if_neg (by omega)];exact h
theorem memSh_cases {mem:Addr->Option Value} {N:Nat} {W:World} {F:Nat->Prop} {a:Addr} {u:Value} (h:memSh mem N W F a=some u):(a.block<N/\mem a=some u)\/(N<=a.block/\memNo W F a=some u):=by
 unfold memSh at h
 split at h
 ·next e=>exact .inl ⟨e,h⟩
 ·next e=>exact .inr ⟨by omega,h⟩
def ShortPost2 (mem:Addr->Option Value) (l:List Fct) (w:World) (e:Ending) (w':World):Prop:=∃ r fs,e=.returned r/\FRow w' w.heap.size r fs/\fs.map FctE.f=shortL7 l/\(∀ x∈fs,x.ok (memSh mem w.heap.size w' (fun k=>r.ownBlock=some k)))/\Below w.heap.size w w'
structure ShI (mem:Addr->Option Value) (w:World) (es:List FctE) (k:Nat) (r:Value) (wr:World):Prop where
 bel:Below w.heap.size w wr
 row:∃ fs,FRow wr w.heap.size r fs/\fs.map FctE.f=((es.take k).map FctE.f).map shortF/\fs.length=k/\∀ x∈fs,x.ok (memSh mem w.heap.size wr (fun k=>r.ownBlock=some k))
structure ShJ (w:World) (l:List Blk) (k:Nat) (r:Value) (wr:World):Prop where
 bel:Below w.heap.size w wr
 row:BRow wr w.heap.size r ((l.take k).map shortB)
theorem shortF_fok {f:Fct} (h:FOK f):FOK (shortF f):={ h with
 s18:=Nat.le_trans (cutT_size f.text).2 h.s18
 bl:=fun x hx=>by
  obtain⟨y,hy,rfl⟩:=List.mem_map.1 hx
  have h1:=h.bl y (List.mem_of_mem_take hy)
  exact⟨Nat.le_trans (cutT_size y.text).2 h1.1,h1.2⟩ }
theorem ShI.snoc {mem:Addr->Option Value} {w wo W16 w':World} {es:List FctE} {k:Nat} {r v':Value} {xe:FctE} {fs:List FctE} (hs:Sees mem w) (hbel:Below w.heap.size w wo) (hrow:FRow wo w.heap.size r fs) (hok:∀ x∈fs,x.ok (memSh mem w.heap.size wo (fun k=>r.ownBlock=some k))) (hb:Below wo.heap.size wo W16)
 (hr':FRow w' w.heap.size v' (fs++[xe])) (hg:W16.grownBy w' r.ownBlock) (hob:v'.ownBlock=r.ownBlock\/v'.ownBlock=some W16.heap.size) (hx:FOK xe.f) (hT:StrsM (memFr W16 (fun k=>k<=wo.heap.size)) xe.tv xe.f.topics) (hB:BlksM (memFr W16 (fun k=>k<=wo.heap.size)) xe.bv xe.f.blocks) (hA:IntsM mem xe.av xe.f.lab.after)
 (hm:(fs++[xe]).map FctE.f=((es.take (k+1)).map FctE.f).map shortF) (hl:fs.length=k):ShI mem w es (k+1) v' w':=by
 have hge:=hrow.ge
 have hsz:=hb.size
 have hm1:∀ a u,memFr W16 (fun k=>k<=wo.heap.size) a=some u->memSh mem w.heap.size w' (fun k=>v'.ownBlock=some k) a=some u:=fun a u e=>by
  obtain⟨h1,h2,_⟩:=memFr_lt a u e
  have h3:=memFr_sees W16 _ a u e
  have hne:r.ownBlock≠some a.block:=fun q=>by have:=(hge _ q).2;omega
  have hwo:=hbel.size
  refine memSh_new (memNo_of ((World.cell?_of_block (hg.block a.block h1 (fun q=>hne q.symm))).trans h3) (fun q=>?_)) (by omega)
  rcases hob with e | e
  ·exact hne (e ▸ q)
  ·rw[e]at q;injection q with q;omega
 have hb1:Below w.heap.size w w':=(hbel.trans (hb.mono hbel.size)).grown hg (Nat.le_trans hbel.size hsz) (fun k e=>(hge k e).1)
 have hm2:∀ a u,mem a=some u->memSh mem w.heap.size w' (fun k=>v'.ownBlock=some k) a=some u:=fun a u e=>memSh_low e (World.block_lt_of_cell? w a (hs a u e))
 have hm3:∀ a u,memSh mem w.heap.size wo (fun k=>r.ownBlock=some k) a=some u->memSh mem w.heap.size w' (fun k=>v'.ownBlock=some k) a=some u:=fun a u e=>by
  rcases memSh_cases e with ⟨q1,q2⟩ | ⟨q1,q2⟩
  ·exact memSh_low q2 q1
  ·obtain⟨h1,h2⟩:=memNo_get q2
   have h3:=World.block_lt_of_cell? wo a h1
   have h4:=(World.cell?_of_block (w:=wo) (hb.block a.block h3)).trans h1
   refine memSh_new (memNo_of ((World.cell?_of_block (hg.block a.block (by omega) (fun q=>h2 q.symm))).trans h4) (fun q=>?_)) q1
   rcases hob with e | e
   ·exact h2 (e ▸ q)
   ·rw[e]at q;injection q with q;omega
 refine⟨hb1,fs++[xe],hr',hm,by rw[List.length_append,hl];rfl,fun x hx'=>?_⟩
 rcases List.mem_append.1 hx' with h | h
 ·exact(hok x h).mono hm3
 ·rw[List.mem_singleton.1 h]
  exact⟨hx,hT.mono hm1,hB.mono hm1,hA.mono hm2⟩
set_option maxRecDepth 100000 in
set_option maxHeartbeats 16000000 in
theorem short_any2 {mem:Addr->Option Value} {v:Value} {es:List FctE} (h:EsM mem v es) (w:World) (hs:Sees mem w):
 Calls Tryz.prog 18 #[v] w (ShortPost2 mem (es.map FctE.f) w):=by
 obtain⟨va,vc,vb,vo,rfl,hvm,hva,hve⟩:=h.open_
 have HVA:=Lib.hid hva
 have HVE:=Lib.hid hve
 have HS:=Lib.hid hs
 have HI0:Hid (ShI mem w es 0 (.slice none 0 0) w):=Lib.hid ⟨Below.refl _ _,[],FRow.nil _ _,by rw[List.take_zero];rfl,rfl,by intro x hx;cases hx⟩
 have hel:es.length<=9223372036854775807:=by unfold maxLen at hvm;omega
 clear h hva hve hs
 go_enter Tryz.func18,Tryz.ntmps18
 go_wp2_with fail
 go_loopw [4,3] (fun i r wr=>∃ k:Nat,k<=es.length/\k<=40/\i=.int .i64 k/\(∃ ra rn rc,r=.slice ra rn rc)/\Hid (ShI mem w es k r wr)) (fun i _ _=>40 - (intOf i).toNat)
 case atStart=>exact⟨0,Nat.zero_le _,by omega,rfl,⟨_,_,_,rfl⟩,HI0⟩
 case round=>
  obtain⟨k,hk,hk40,rfl,⟨ra,rn,rc,rfl⟩,HI⟩:=hrel
  by_cases hlt:k<es.length
  ·by_cases hlt2:k<40
   ·obtain rfl:=HVA.out (by omega)
    obtain⟨hxo,hxa⟩:=HVE.out k hlt
    have HSW:=Lib.hid (HS.out.bel HI.out.bel)
    have HAT:Hid (es[k].at (fun p=>wr.cell? p) vb (vo+k * 23)):=Lib.hid (fun j u hj=>HSW.out _ _ (hxa j u hj))
    have HXO:=Lib.hid hxo
    have HTK:Hid (((es.take (k+1)).map FctE.f).map shortF=((es.take k).map FctE.f).map shortF++[shortF es[k].f]):=Lib.hid (by rw[List.take_succ_eq_append_getElem hlt,List.map_append,List.map_append];rfl)
    have HSZ:Hid (es[k].cells.size=23):=Lib.hid rfl
    have HON:=Lib.hid (es[k].one)
    clear hxo hxa
    generalize es[k]=x at *
    go_upto_region 6 with (first
     |((with_reducible refine at_fload _ rfl ?_);go_must (refine wpList_fct_mid rfl _ rfl (by simp[Act.eval]) HAT.out ?_))
     |((with_reducible refine at_fstore _ _ rfl ?_);go_must (refine wpList_fct_new rfl _ _ rfl rfl _ _ _ (by simp[Act.eval]) (by simp[Act.eval]) (by rfl) HSZ.out HON.out ?_)))
    obtain⟨W5,hW5⟩:∃ W5,W5=wr.alloc (.cells x.cells 50):=⟨_,rfl⟩
    rw[<-hW5]
    have hb5:Below wr.heap.size wr W5:=by rw[hW5];exact bel1 wr _
    have hx5:W5.heap[wr.heap.size]?=some (.cells (fctCells x.f x.tv x.bv x.av) 50 (0,0)):=by rw[hW5,<-FctE.cells_eq];exact World.alloc_heap_new wr _
    have c18:W5.cell? ⟨wr.heap.size,18,none⟩=some (.string x.f.text):=rowcell hx5
    have z18:W5.frozen? ⟨wr.heap.size,18,none⟩=false:=rowfree hx5
    have htx:=HXO.out.fok.s18
    have HX5:=Lib.hid hx5
    have HB5:=Lib.hid hb5
    clear hW5 hb5 hx5
    go_upto_region 7 with fail
    rw[show x.f.text.extract 0 (min (x.f.text.size:Int) 300).toNat=cutT x.f.text from rfl]
    have HX6:=Lib.hid (blk_set (j:=18) (u:=.string (cutT x.f.text)) HX5.out)
    have hb6:Below wr.heap.size wr (W5.setCell ⟨wr.heap.size,18,none⟩ (.string (cutT x.f.text))):=HB5.out.setCell (Nat.le_refl _) _
    obtain⟨W6,hW6⟩:∃ W6,W6=W5.setCell ⟨wr.heap.size,18,none⟩ (.string (cutT x.f.text)):=⟨_,rfl⟩
    rw[<-hW6]at HX6 hb6 ⊢
    have HB6:=Lib.hid hb6
    have k9:W6.cell? ⟨wr.heap.size,9,none⟩=some (.slice x.ta x.f.topics.length x.tc):=rowcell HX6.out
    obtain⟨hp1,hp2,hp3⟩:=HXO.out.parts
    have htm:x.tc<=9223372036854775807:=by
     obtain⟨_,_,_,_,ht0,ht1,ht2,_⟩:=hp1.open_ HSW.out
     injection ht0 with _ _ ht0
     subst ht0
     unfold maxLen at ht2
     exact ht2
    have hcl:x.f.topics.length<=x.tc:=by
     obtain⟨_,_,⟨_,_,_,e,h2,h3,_⟩,_⟩:=hp1
     injection e with _ _ e
     omega
    have HP1:=Lib.hid (hp1.take (min x.f.topics.length 10) (Nat.min_le_left _ _))
    have HPS:Hid (∀ s∈x.f.topics.take (min x.f.topics.length 10),s.size<=maxLen):=Lib.hid (fun s hs=>by
     obtain⟨_,_,_,h5,_⟩:=HP1.out
     exact h5 s hs)
    obtain⟨ya,yc,yb,yo,hyv,hy1,hy2,hyo,hyat⟩:=hp2.open_
    injection hyv with hyv1 _ hyv3
    subst hyv1 hyv3
    have HYO:=Lib.hid hyo
    have HYA:=Lib.hid hyat
    clear hyo hyat
    have HP3:=Lib.hid hp3
    have HSX:=Lib.hid (HSW.out.bel hb6)
    have HTL:Hid (∀ W,Below W6.heap.size W6 W->Reads W W.heap.size 1 x.ta ((x.f.topics.take (min x.f.topics.length 10)).map fun x=>(#[.string x]:Array Value)).length (((x.f.topics.take (min x.f.topics.length 10)).map fun x=>(#[.string x]:Array Value)).flatMap Array.toList)):=Lib.hid (fun W hW=>by
     have hl:(x.f.topics.take (min x.f.topics.length 10)).length=min x.f.topics.length 10:=by rw[List.length_take];omega
     have h1:=HP1.out
     rw[<-hl]at h1
     exact reads_topics (by rw[hl]at h1 ⊢;exact h1) (HSX.out.bel hW))
    have hT6:wr.heap.size<W6.heap.size:=qh HX6.out
    have hmin:(min (x.f.topics.length:Int) 10).toNat=min x.f.topics.length 10:=by omega
    have hlen10:((x.f.topics.take (min x.f.topics.length 10)).map fun x=>(#[.string x]:Array Value)).length=min x.f.topics.length 10:=by rw[List.length_map,List.length_take];omega
    have hcut:=fun W=>run_cut E_str Tryz.underlying30 x.ta x.f.topics.length x.tc (min (x.f.topics.length:Int) 10) (by omega) (by omega) W
    rw[hmin]at hcut
    clear hW6 hb6 c18 z18 htx hp1 hp2 hp3
    go_upto_region 8 with (first
     |((with_reducible refine at_sslice 30 _ _ rfl ?_);go_must (refine wpList_empty_slice rfl E_str _ rfl rfl ?_))
     |((with_reducible refine at_sappend _ _ 30 rfl ?_);go_must (refine wpList_app_row rfl E_str _ _ rfl (by simp[Act.eval]) (GRow.empty W6 W6.heap.size (Nat.le_refl _) (by decide)) x.ta x.tc ((x.f.topics.take (min x.f.topics.length 10)).map fun x=>(#[.string x]:Array Value)) (strs_one _) (by rw[hlen10];simp[Act.eval]) (HTL.out _ (bel1 _ _)) (by rw[hlen10,List.length_nil];omega) (by rw[World.size_alloc];exact Nat.le_succ _) ?_);intro v7 w7 hr7 hg7 hob7;rw[List.nil_append]at hr7;have hs7:=hr7.shape;rw[hlen10]at hs7;obtain⟨a7,c7,rfl⟩:=hs7;obtain⟨hx7,hb7,ht7⟩:=topics_ready HX6.out hr7 HPS.out hg7;have y9:w7.cell? ⟨wr.heap.size,9,none⟩=some (.slice x.ta x.f.topics.length x.tc):=rowcell hx7;have z9:w7.frozen? ⟨wr.heap.size,9,none⟩=false:=rowfree hx7;have HX7:=Lib.hid hx7;have HB7:=Lib.hid hb7;have HT7:=Lib.hid ht7;clear hx7 hb7 ht7 hr7 hg7 hob7))
    have HX8:=Lib.hid (blk_set (j:=9) (u:=.slice a7 (min x.f.topics.length 10) c7) HX7.out)
    have hb8:Below wr.heap.size wr (w7.setCell ⟨wr.heap.size,9,none⟩ (.slice a7 (min x.f.topics.length 10) c7)):=(HB6.out.trans (HB7.out.mono (by omega))).setCell (Nat.le_refl _) _
    have HT8:=Lib.hid (HT7.out.mono (memFr_mono (upd_cell w7 wr.heap.size 9 (.slice a7 (min x.f.topics.length 10) c7)) (fun k hk hf=>⟨hf,fun q=>hf (by omega)⟩)))
    obtain⟨W8,hW8⟩:∃ W8,W8=w7.setCell ⟨wr.heap.size,9,none⟩ (.slice a7 (min x.f.topics.length 10) c7):=⟨_,rfl⟩
    rw[<-hW8]at HX8 hb8 HT8 ⊢
    have HB8:=Lib.hid hb8
    clear hW8 hb8 y9 z9 k9
    have HJ0:Hid (ShJ W8 x.f.blocks 0 (.slice none 0 0) W8):=Lib.hid ⟨Below.refl _ _,by rw[List.take_zero];exact BRow.nil _ _⟩
    obtain⟨wo,rfl⟩:∃ wo,wo=wr:=⟨_,rfl⟩
    go_wp2_with fail
    go_loopw [7,6] (fun i r wq=>∃ m:Nat,m<=x.f.blocks.length/\m<=10/\i=.int .i64 m/\(∃ ra rn rc,r=.slice ra rn rc)/\Hid (ShJ W8 x.f.blocks m r wq)) (fun i _ _=>10 - (intOf i).toNat)
    case atStart=>exact⟨0,Nat.zero_le _,by omega,rfl,⟨_,_,_,rfl⟩,HJ0⟩
    case round=>
     obtain⟨m,hm,hm10,rfl,⟨sa,sn,sc,rfl⟩,HJ⟩:=hrel
     have HBQ:=Lib.hid (HB8.out.trans (HJ.out.bel.mono HB8.out.size))
     have HX9:=Lib.hid ((HJ.out.bel.block _ (qh HX8.out)).trans HX8.out)
     have k10:wr.cell? ⟨wo.heap.size,10,none⟩=some (.slice x.ba x.f.blocks.length x.bc):=rowcell HX9.out
     by_cases hlm:m<x.f.blocks.length
     ·by_cases hl10:m<10
      ·rw[HYO.out (by omega)]at k10
       have HSQ:=Lib.hid (HSW.out.bel HBQ.out)
       obtain⟨⟨g1,g2,g3⟩,na,nc,hi9,hc9⟩:=(HYA.out m hlm).nine HSQ.out
       have HC9:=Lib.hid (cells9_see hc9)
       have HI9:=Lib.hid (hi9.take (min x.f.blocks[m].lab.after.length 64) (Nat.min_le_left _ _))
       have HR9:=Lib.hid HJ.out.row
       have HBJ:=Lib.hid HJ.out.bel
       have HTM:Hid ((x.f.blocks.take (m+1)).map shortB=(x.f.blocks.take m).map shortB++[shortB x.f.blocks[m]]):=Lib.hid (by rw[List.take_succ_eq_append_getElem hlm,List.map_append];rfl)
       have hLl:((x.f.blocks.take m).map shortB).length<=100000:=by rw[List.length_map,List.length_take];omega
       have hbl:x.f.blocks.length<=9223372036854775807:=by unfold maxLen at hy2;omega
       have hncm:x.f.blocks[m].lab.after.length<=nc/\nc<=9223372036854775807:=by
        obtain⟨_,_,⟨_,_,_,e,h2,h3,_⟩,_⟩:=hi9
        injection e with _ _ e
        unfold maxLen at h3
        omega
       clear hi9 hc9
       generalize x.f.blocks[m]=y at *
       generalize hLk:(x.f.blocks.take m).map shortB=Lk at *
       go_upto_region 13 with (first
        |((with_reducible refine at_sload 58 _ rfl ?_);go_must (refine wpList_smid rfl S_blk _ rfl (by simp[Act.eval]) (blkCells y (.slice na y.lab.after.length nc)) rfl HC9.out ?_))
        |((with_reducible refine at_sstore 58 _ _ rfl ?_);go_must (refine wpList_snew rfl S_blk _ _ rfl rfl _ _ (blkCells y (.slice na y.lab.after.length nc)) (by simp[Act.eval]) (by simp[Act.eval]) rfl rfl (by simp[Value.oneCell']) ?_)))
       obtain⟨W9,hW9⟩:∃ W9,W9=wr.alloc (.cells (blkCells y (.slice na y.lab.after.length nc)) 58):=⟨_,rfl⟩
       rw[<-hW9]
       have hb9:Below wr.heap.size wr W9:=by rw[hW9];exact bel1 _ _
       have hn9:W9.heap[wr.heap.size]?=some (.cells (blkCells y (.slice na y.lab.after.length nc)) 58 (0,0)):=by rw[hW9];exact World.alloc_heap_new _ _
       have q2:W9.cell? ⟨wr.heap.size,2,none⟩=some (.string y.text):=rowcell hn9
       have z2:W9.frozen? ⟨wr.heap.size,2,none⟩=false:=rowfree hn9
       have HN9:=Lib.hid hn9
       have HB9:=Lib.hid hb9
       clear hW9 hb9 hn9
       go_upto_region 14 with fail
       rw[show y.text.extract 0 (min (y.text.size:Int) 300).toNat=cutT y.text from rfl]
       have HN10:=Lib.hid (blk_set (j:=2) (u:=.string (cutT y.text)) HN9.out)
       have hb10:Below wr.heap.size wr (W9.setCell ⟨wr.heap.size,2,none⟩ (.string (cutT y.text))):=HB9.out.setCell (Nat.le_refl _) _
       obtain⟨W10,hW10⟩:∃ W10,W10=W9.setCell ⟨wr.heap.size,2,none⟩ (.string (cutT y.text)):=⟨_,rfl⟩
       rw[<-hW10]at HN10 hb10 ⊢
       have q6:W10.cell? ⟨wr.heap.size,6,none⟩=some (.slice na y.lab.after.length nc):=rowcell HN10.out
       have hT10:wr.heap.size<W10.heap.size:=qh HN10.out
       have hmin2:(min (y.lab.after.length:Int) 64).toNat=min y.lab.after.length 64:=by omega
       have hlen64:(y.lab.after.take 64).length=min y.lab.after.length 64:=by rw[List.length_take];omega
       have hcut2:=fun W=>run_cut E_int Tryz.underlying46 na y.lab.after.length nc (min (y.lab.after.length:Int) 64) (by omega) (by omega) W
       rw[hmin2]at hcut2
       have HI10:Hid (IntsM mem (.slice na (y.lab.after.take 64).length nc) (y.lab.after.take 64)):=Lib.hid (by
        have h1:=HI9.out
        rw[take_min']at h1
        rw[hlen64];exact h1)
       have HSZ10:=Lib.hid (HSQ.out.bel hb10)
       have HB10:=Lib.hid hb10
       clear hW10 hb10 q2 z2
       go_upto_region 15 with (first
        |((with_reducible refine at_sslice 46 _ _ rfl ?_);go_must (refine wpList_empty_slice rfl E_int _ rfl rfl ?_))
        |((with_reducible refine at_sappend _ _ 46 rfl ?_);go_must (refine wpList_app_after2 rfl _ _ rfl W10.heap.size (by simp[Act.eval]) (World.alloc_heap_new _ _) na nc (y.lab.after.take 64) (by rw[hlen64];simp[Act.eval]) HI10.out (HSZ10.out.alloc _) (by rw[hlen64];omega) ?_);intro v11 w11 hI11 hg11;have hs11:=hI11.shape;rw[hlen64]at hs11;obtain⟨a11,c11,rfl⟩:=hs11;have hb11:Below W10.heap.size W10 w11:=(bel1 W10 _).grown hg11 (by rw[World.size_alloc];omega) (fun k e=>by injection e with e;omega);have hx11:=(hb11.block _ hT10).trans HN10.out;have y11:w11.cell? ⟨wr.heap.size,6,none⟩=some (.slice na y.lab.after.length nc):=rowcell hx11;have z11:w11.frozen? ⟨wr.heap.size,6,none⟩=false:=rowfree hx11;have HX11:=Lib.hid hx11;have HB11:=Lib.hid hb11;have HI11:=Lib.hid hI11;clear hx11 hb11 hI11 hg11))
       have HX12:Hid ((w11.setCell ⟨wr.heap.size,6,none⟩ (.slice a11 (min y.lab.after.length 64) c11)).heap[wr.heap.size]?=some (.cells (blkCells (shortB y) (.slice a11 (shortB y).lab.after.length c11)) 58 (0,0))):=Lib.hid (by
        rw[show (shortB y).lab.after.length=min y.lab.after.length 64 from hlen64]
        exact blk_set HX11.out)
       have hb12:Below wr.heap.size wr (w11.setCell ⟨wr.heap.size,6,none⟩ (.slice a11 (min y.lab.after.length 64) c11)):=(HB10.out.trans (HB11.out.mono (by omega))).setCell (Nat.le_refl _) _
       have hi12:IntsM (memFr (w11.setCell ⟨wr.heap.size,6,none⟩ (.slice a11 (min y.lab.after.length 64) c11)) (fun k=>k<W8.heap.size\/Value.ownBlock (.slice sa sn sc)=some k)) (.slice a11 (shortB y).lab.after.length c11) (shortB y).lab.after:=by
        rw[show (shortB y).lab.after.length=min y.lab.after.length 64 from hlen64]
        refine(IRow.kept HI11.out (upd_cell _ _ _ _) (fun k e q=>?_)).intsFr (fun k e q=>?_)
        ·have:=HI11.out.ge k e
         omega
        ·have h1:=HI11.out.ge k e
         have h2:=HBJ.out.size
         rcases q with q | q
         ·omega
         ·have:=(HR9.out.ge k q).2
          omega
       obtain⟨W12,hW12⟩:∃ W12,W12=w11.setCell ⟨wr.heap.size,6,none⟩ (.slice a11 (min y.lab.after.length 64) c11):=⟨_,rfl⟩
       rw[<-hW12]at HX12 hb12 hi12 ⊢
       have HB13:Hid (∀ o,Below wr.heap.size wr (W12.alloc o)):=Lib.hid (fun o=>hb12.alloc hb12.size _)
       have HI13:Hid (∀ o,IntsM (memFr (W12.alloc o) (fun k=>k<W8.heap.size\/Value.ownBlock (.slice sa sn sc)=some k)) (.slice a11 (shortB y).lab.after.length c11) (shortB y).lab.after):=Lib.hid (fun o=>hi12.mono (memFr_below (bel1 W12 o)))
       have HR13:Hid (∀ o,BRow (W12.alloc o) W8.heap.size (.slice sa sn sc) Lk):=Lib.hid (fun o=>by
        have hb:=HB13.out o
        exact HR9.out.kept (F:=fun k=>wr.heap.size<=k) ⟨hb.os,hb.tape,hb.output,hb.size,fun k hk hn=>hb.block k (by omega)⟩ (fun k h=>.inr h))
       have h8w:W8.heap.size<=(W12).heap.size:=Nat.le_trans HBJ.out.size hb12.size
       clear hW12 hb12 hi12 y11 z11 q6
       go_wp2_with (first
        |((with_reducible refine at_sload 58 _ rfl ?_);go_must (refine wpList_sload rfl S_blk _ rfl (by simp[Act.eval]) (blkCells (shortB y) (.slice a11 (shortB y).lab.after.length c11)) rfl HX12.out ?_))
        |((with_reducible refine at_sslice 37 _ _ rfl ?_);go_must (refine wpList_one_slice rfl E_blk _ rfl (.agg (blkCells (shortB y) (.slice a11 (shortB y).lab.after.length c11))) rfl (by simp[Act.eval,Act.put]) ?_))
        |((with_reducible refine at_sappend _ _ 37 rfl ?_);go_must (refine wpList_app_blk rfl _ _ rfl W8.heap.size _ Lk (by simp[Act.eval,Act.put]) (HR13.out _) (shortB y) a11 c11 (HI13.out _) W12.heap.size 1 (by simp[Act.eval,Act.put]) (World.alloc_heap_new _ _) hLl (by rw[World.size_alloc];omega) ?_);intro v14 w14 hr14 hg14;have hs14:=hr14.sl;obtain⟨qa,qn,qc,rfl⟩:=hs14;have HJ14:Hid (ShJ W8 x.f.blocks (m+1) (.slice qa qn qc) w14):=Lib.hid ⟨(HBJ.out.trans ((HB13.out _).mono HBJ.out.size)).grown hg14 (by rw[World.size_alloc];omega) (fun k e=>(HR9.out.ge k e).1),by rw[HTM.out];exact hr14⟩;clear hr14 hg14))
       go_roundw
       case rel=>exact⟨m+1,by omega,by omega,by go_num,⟨_,_,_,rfl⟩,HJ14⟩
       case measure=>(try simp only[intOf]);omega
      ·have e':m=10:=by omega
       have HE:Hid ((x.f.blocks.take m).map shortB=(x.f.blocks.take 10).map shortB):=Lib.hid (by rw[e'])
       subst e'
       have HRB:Hid (BRow wr W8.heap.size (.slice sa sn sc) (shortF x.f).blocks):=Lib.hid (by
        show BRow wr W8.heap.size (.slice sa sn sc) ((x.f.blocks.take 10).map shortB)
        rw[<-HE.out];exact HJ.out.row)
       have hbs:=HRB.out.blks (shortF_fok HXO.out.fok).bl
       have hsn:sn=(shortF x.f).blocks.length:=(by obtain⟨_,_,hse⟩:=hbs.slice;injection hse)
       have hT8:=qh HX8.out
       have z10:wr.frozen? ⟨wo.heap.size,10,none⟩=false:=rowfree HX9.out
       have HBS:=Lib.hid hbs
       have HSN:=Lib.hid hsn
       obtain⟨fs,f1,f2,f3,f4⟩:=HI.out.row
       have F1:=Lib.hid f1
       have F2:=Lib.hid f2
       have F4:=Lib.hid f4
       clear hbs hsn f1 f2 f4
       go_upto_region 17 with fail
       obtain⟨W15,hW15⟩:∃ W15,W15=wr.setCell ⟨wo.heap.size,10,none⟩ (.slice sa sn sc):=⟨_,rfl⟩
       rw[<-hW15]
       obtain⟨xe,hxe⟩:∃ xe:FctE,xe=⟨shortF x.f,a7,c7,sa,sc,x.aa,x.ac⟩:=⟨_,rfl⟩
       have e1:(shortF x.f).topics.length=min x.f.topics.length 10:=by show (x.f.topics.take 10).length=_;rw[List.length_take];omega
       have HX15:Hid (W15.heap[wo.heap.size]?=some (.cells xe.cells 50 (0,0))):=Lib.hid (by
        rw[hW15,hxe]
        show (wr.setCell ⟨wo.heap.size,10,none⟩ (.slice sa sn sc)).heap[wo.heap.size]?=some (Obj.cells (fctCells (shortF x.f) (.slice a7 (shortF x.f).topics.length c7) (.slice sa (shortF x.f).blocks.length sc) (.slice x.aa x.f.lab.after.length x.ac)) 50 (0,0))
        rw[e1,<-HSN.out]
        exact blk_set HX9.out)
       have HB15:Hid (∀ o,Below wo.heap.size wo (W15.alloc o)):=Lib.hid (fun o=>by rw[hW15];exact((HBQ.out.setCell (Nat.le_refl _) _).alloc (by rw[World.size_setCell];exact HBQ.out.size) _))
       have HTT:Hid (∀ o,StrsM (memFr (W15.alloc o) (fun k=>k<=wo.heap.size)) xe.tv xe.f.topics):=Lib.hid (fun o=>by
        rw[hxe]
        show StrsM _ (.slice a7 (shortF x.f).topics.length c7) (x.f.topics.take 10)
        rw[e1,<-take_min']
        refine(HT8.out.mono (memFr_below HJ.out.bel)).mono (fun a u e=>memFr_below (bel1 W15 o) a u ?_)
        rw[hW15]
        exact memFr_mono (upd_cell wr wo.heap.size 10 (.slice sa sn sc)) (fun k hk hf=>⟨fun q=>hf (by omega),fun q=>hf (by omega)⟩) a u e)
       have HBB:Hid (∀ o,BlksM (memFr (W15.alloc o) (fun k=>k<=wo.heap.size)) xe.bv xe.f.blocks):=Lib.hid (fun o=>by
        rw[hxe]
        show BlksM _ (.slice sa (shortF x.f).blocks.length sc) (shortF x.f).blocks
        rw[<-HSN.out]
        refine HBS.out.mono (fun a u e=>memFr_below (bel1 W15 o) a u ?_)
        rw[hW15]
        exact memFr_mono (upd_cell wr wo.heap.size 10 (.slice sa sn sc)) (fun k hk hf=>⟨fun q=>hf (by omega),fun q=>hf (by omega)⟩) a u e)
       have HFR:Hid (∀ o,FRow (W15.alloc o) w.heap.size (.slice ra rn rc) fs):=Lib.hid (fun o=>by
        have hb:=HB15.out o
        exact F1.out.kept (F:=fun k=>wo.heap.size<=k) ⟨hb.os,hb.tape,hb.output,hb.size,fun k hk hn=>hb.block k (by omega)⟩ (fun k e q=>by have:=(F1.out.ge k e).2;omega))
       have hfl:fs.length<=100000:=by omega
       have hw15:w.heap.size<=W15.heap.size:=by
        have h1:=HI.out.bel.size
        have h2:=HBQ.out.size
        rw[hW15,World.size_setCell]
        omega
       have HXE:=Lib.hid hxe
       clear hxe hW15 k10 z10
       go_wp2_with (first
        |((with_reducible refine at_fload _ rfl ?_);go_must (refine wpList_fct_load rfl _ rfl wo.heap.size (by simp[Act.eval]) xe.cells HX15.out rfl ?_))
        |((with_reducible refine at_fslice _ rfl ?_);go_must (refine wpList_fct_slice rfl _ rfl xe (by simp[Act.eval,Act.put]) ?_))
        |((with_reducible refine at_sappend _ _ 22 rfl ?_);go_must (refine wpList_app_fct rfl _ _ rfl w.heap.size _ fs (by simp[Act.eval,Act.put]) (HFR.out _) xe W15.heap.size 1 (by simp[Act.eval,Act.put]) (World.alloc_heap_new _ _) hfl (by rw[World.size_alloc];omega) ?_);intro v16 w16 hr16 hg16 hob16;have hs16:=hr16.sl;obtain⟨qa,qn,qc,rfl⟩:=hs16;have HI16:Hid (ShI mem w es (k+1) (.slice qa qn qc) w16):=Lib.hid (ShI.snoc HS.out HI.out.bel F1.out F4.out (HB15.out _) hr16 hg16 hob16 (by rw[HXE.out];exact shortF_fok HXO.out.fok) (HTT.out _) (HBB.out _) (by rw[HXE.out];exact HP3.out) (by rw[List.map_append,F2.out,HTK.out,HXE.out];rfl) f3);clear hr16 hg16 hob16))
       go_roundw
       case rel=>exact⟨k+1,by omega,by omega,by go_num,⟨_,_,_,rfl⟩,HI16⟩
       case measure=>(try simp only[intOf]);omega
     ·have e':m=x.f.blocks.length:=by omega
      have HE:Hid ((x.f.blocks.take m).map shortB=(x.f.blocks.take 10).map shortB):=Lib.hid (by rw[e',List.take_length,List.take_of_length_le (by omega)])
      subst e'
      have HRB:Hid (BRow wr W8.heap.size (.slice sa sn sc) (shortF x.f).blocks):=Lib.hid (by
       show BRow wr W8.heap.size (.slice sa sn sc) ((x.f.blocks.take 10).map shortB)
       rw[<-HE.out];exact HJ.out.row)
      have hbs:=HRB.out.blks (shortF_fok HXO.out.fok).bl
      have hsn:sn=(shortF x.f).blocks.length:=(by obtain⟨_,_,hse⟩:=hbs.slice;injection hse)
      have hT8:=qh HX8.out
      have z10:wr.frozen? ⟨wo.heap.size,10,none⟩=false:=rowfree HX9.out
      have HBS:=Lib.hid hbs
      have HSN:=Lib.hid hsn
      obtain⟨fs,f1,f2,f3,f4⟩:=HI.out.row
      have F1:=Lib.hid f1
      have F2:=Lib.hid f2
      have F4:=Lib.hid f4
      clear hbs hsn f1 f2 f4
      go_upto_region 17 with fail
      obtain⟨W15,hW15⟩:∃ W15,W15=wr.setCell ⟨wo.heap.size,10,none⟩ (.slice sa sn sc):=⟨_,rfl⟩
      rw[<-hW15]
      obtain⟨xe,hxe⟩:∃ xe:FctE,xe=⟨shortF x.f,a7,c7,sa,sc,x.aa,x.ac⟩:=⟨_,rfl⟩
      have e1:(shortF x.f).topics.length=min x.f.topics.length 10:=by show (x.f.topics.take 10).length=_;rw[List.length_take];omega
      have HX15:Hid (W15.heap[wo.heap.size]?=some (.cells xe.cells 50 (0,0))):=Lib.hid (by
       rw[hW15,hxe]
       show (wr.setCell ⟨wo.heap.size,10,none⟩ (.slice sa sn sc)).heap[wo.heap.size]?=some (Obj.cells (fctCells (shortF x.f) (.slice a7 (shortF x.f).topics.length c7) (.slice sa (shortF x.f).blocks.length sc) (.slice x.aa x.f.lab.after.length x.ac)) 50 (0,0))
       rw[e1,<-HSN.out]
       exact blk_set HX9.out)
      have HB15:Hid (∀ o,Below wo.heap.size wo (W15.alloc o)):=Lib.hid (fun o=>by rw[hW15];exact((HBQ.out.setCell (Nat.le_refl _) _).alloc (by rw[World.size_setCell];exact HBQ.out.size) _))
      have HTT:Hid (∀ o,StrsM (memFr (W15.alloc o) (fun k=>k<=wo.heap.size)) xe.tv xe.f.topics):=Lib.hid (fun o=>by
       rw[hxe]
       show StrsM _ (.slice a7 (shortF x.f).topics.length c7) (x.f.topics.take 10)
       rw[e1,<-take_min']
       refine(HT8.out.mono (memFr_below HJ.out.bel)).mono (fun a u e=>memFr_below (bel1 W15 o) a u ?_)
       rw[hW15]
       exact memFr_mono (upd_cell wr wo.heap.size 10 (.slice sa sn sc)) (fun k hk hf=>⟨fun q=>hf (by omega),fun q=>hf (by omega)⟩) a u e)
      have HBB:Hid (∀ o,BlksM (memFr (W15.alloc o) (fun k=>k<=wo.heap.size)) xe.bv xe.f.blocks):=Lib.hid (fun o=>by
       rw[hxe]
       show BlksM _ (.slice sa (shortF x.f).blocks.length sc) (shortF x.f).blocks
       rw[<-HSN.out]
       refine HBS.out.mono (fun a u e=>memFr_below (bel1 W15 o) a u ?_)
       rw[hW15]
       exact memFr_mono (upd_cell wr wo.heap.size 10 (.slice sa sn sc)) (fun k hk hf=>⟨fun q=>hf (by omega),fun q=>hf (by omega)⟩) a u e)
      have HFR:Hid (∀ o,FRow (W15.alloc o) w.heap.size (.slice ra rn rc) fs):=Lib.hid (fun o=>by
       have hb:=HB15.out o
       exact F1.out.kept (F:=fun k=>wo.heap.size<=k) ⟨hb.os,hb.tape,hb.output,hb.size,fun k hk hn=>hb.block k (by omega)⟩ (fun k e q=>by have:=(F1.out.ge k e).2;omega))
      have hfl:fs.length<=100000:=by omega
      have hw15:w.heap.size<=W15.heap.size:=by
       have h1:=HI.out.bel.size
       have h2:=HBQ.out.size
       rw[hW15,World.size_setCell]
       omega
      have HXE:=Lib.hid hxe
      clear hxe hW15 k10 z10
      go_wp2_with (first
       |((with_reducible refine at_fload _ rfl ?_);go_must (refine wpList_fct_load rfl _ rfl wo.heap.size (by simp[Act.eval]) xe.cells HX15.out rfl ?_))
       |((with_reducible refine at_fslice _ rfl ?_);go_must (refine wpList_fct_slice rfl _ rfl xe (by simp[Act.eval,Act.put]) ?_))
       |((with_reducible refine at_sappend _ _ 22 rfl ?_);go_must (refine wpList_app_fct rfl _ _ rfl w.heap.size _ fs (by simp[Act.eval,Act.put]) (HFR.out _) xe W15.heap.size 1 (by simp[Act.eval,Act.put]) (World.alloc_heap_new _ _) hfl (by rw[World.size_alloc];omega) ?_);intro v16 w16 hr16 hg16 hob16;have hs16:=hr16.sl;obtain⟨qa,qn,qc,rfl⟩:=hs16;have HI16:Hid (ShI mem w es (k+1) (.slice qa qn qc) w16):=Lib.hid (ShI.snoc HS.out HI.out.bel F1.out F4.out (HB15.out _) hr16 hg16 hob16 (by rw[HXE.out];exact shortF_fok HXO.out.fok) (HTT.out _) (HBB.out _) (by rw[HXE.out];exact HP3.out) (by rw[List.map_append,F2.out,HTK.out,HXE.out];rfl) f3);clear hr16 hg16 hob16))
      go_roundw
      case rel=>exact⟨k+1,by omega,by omega,by go_num,⟨_,_,_,rfl⟩,HI16⟩
      case measure=>(try simp only[intOf]);omega
   ·have e':k=40:=by omega
    subst e'
    have HF:Hid (ShortPost2 mem (es.map FctE.f) w (.returned (.slice ra rn rc)) wr):=Lib.hid (by
     obtain⟨fs,h1,h2,h3,h4⟩:=HI.out.row
     exact⟨_,fs,rfl,h1,by rw[h2];unfold shortL7;rw[List.map_take],h4,HI.out.bel⟩)
    go_wp2_with fail
    go_ret
    exact HF.out
  ·have e':k=es.length:=by omega
   subst e'
   have HF:Hid (ShortPost2 mem (es.map FctE.f) w (.returned (.slice ra rn rc)) wr):=Lib.hid (by
    obtain⟨fs,h1,h2,h3,h4⟩:=HI.out.row
    exact⟨_,fs,rfl,h1,by rw[h2];unfold shortL7;rw[List.take_length,List.take_of_length_le (by rw[List.length_map];exact hk40)],h4,HI.out.bel⟩)
   go_wp2_with fail
   go_ret
   exact HF.out
theorem short_any {mem:Addr->Option Value} {v:Value} {es:List FctE} (h:EsM mem v es) (w:World) (hs:Sees mem w):
 Calls Tryz.prog 18 #[v] w (ShortPost (es.map FctE.f) w):=
 (short_any2 h w hs).mono fun e w' hp=>by
   obtain⟨r,fs,he,h1,h2,h3,h4⟩:=hp
   refine⟨r,fs,he,h1,h2,fun x hx=>(h3 x hx).mono (fun a u e=>?_),h4⟩
   rcases memSh_cases e with ⟨q1,q2⟩ | ⟨_,q2⟩
   ·exact memNo_of (sees_bel h4 a u (hs a u q2)) (fun q=>by have:=(h1.ge _ q).1;omega)
   ·exact q2
structure RbJ (w:World) (l:List Blk) (k:Nat) (r:Value) (wr:World):Prop where
 bel:Below w.heap.size w wr
 row:BRow wr w.heap.size r (l.take k)
def RefBlocks (l:List Blk) (w:World) (e:Ending) (w':World):Prop:=∃ v',e=.returned v'/\BRow w' w.heap.size v' l/\Below w.heap.size w w'
set_option maxRecDepth 100000 in
set_option maxHeartbeats 4000000 in
theorem refBlocks_any {mem:Addr->Option Value} {v:Value} {l:List Blk} (h:BlksM mem v l) (hl:l.length<=50000) (ha:∀ x∈l,x.lab.after.length<=50000) (w:World) (hs:Sees mem w):
 Calls Tryz.prog 92 #[v] w (RefBlocks l w):=by
 obtain⟨ya,yc,yb,yo,rfl,hy1,hy2,hyo,hyat⟩:=h.open_
 have HYO:=Lib.hid hyo
 have HYA:=Lib.hid hyat
 have HBA:=Lib.hid ha
 have HS:=Lib.hid hs
 have HJ0:Hid (RbJ w l 0 (.slice none 0 0) w):=Lib.hid ⟨Below.refl _ _,by rw[List.take_zero];exact BRow.nil _ _⟩
 clear h ha hs hyo hyat hy1 hy2
 go_enter Tryz.func92,Tryz.ntmps92
 go_wp2_with fail
 go_loopw [4,3] (fun i r wq=>∃ m:Nat,m<=l.length/\i=.int .i64 m/\(∃ ra rn rc,r=.slice ra rn rc)/\Hid (RbJ w l m r wq)) (fun i _ _=>l.length - (intOf i).toNat)
 case atStart=>exact⟨0,Nat.zero_le _,rfl,⟨_,_,_,rfl⟩,HJ0⟩
 case round=>
  obtain⟨m,hm,rfl,⟨sa,sn,sc,rfl⟩,HJ⟩:=hrel
  by_cases hlm:m<l.length
  ·obtain rfl:=HYO.out (by omega)
   have HSQ:=Lib.hid (HS.out.bel HJ.out.bel)
   obtain⟨⟨g1,g2,g3⟩,na,nc,hi9,hc9⟩:=(HYA.out m hlm).nine HSQ.out
   have HC9:=Lib.hid (cells9_see hc9)
   have HI9:=Lib.hid hi9
   have HR9:=Lib.hid HJ.out.row
   have HBJ:=Lib.hid HJ.out.bel
   have HTM:Hid (l.take (m+1)=l.take m++[l[m]]):=Lib.hid (List.take_succ_eq_append_getElem hlm)
   have hLl:(l.take m).length<=100000:=by rw[List.length_take];omega
   have hal:=HBA.out _ (List.getElem_mem hlm)
   clear hi9 hc9
   generalize l[m]=b at *
   generalize hLk:l.take m=Lk at *
   go_upto_region 6 with (first
    |((with_reducible refine at_sload 58 _ rfl ?_);go_must (refine wpList_smid rfl S_blk _ rfl (by simp[Act.eval]) (blkCells b (.slice na b.lab.after.length nc)) rfl HC9.out ?_))
    |((with_reducible refine at_sstore 58 _ _ rfl ?_);go_must (refine wpList_snew rfl S_blk _ _ rfl rfl _ _ (blkCells b (.slice na b.lab.after.length nc)) (by simp[Act.eval]) (by simp[Act.eval]) rfl rfl (by simp[Value.oneCell']) ?_)))
   obtain⟨W10,hW10⟩:∃ W10,W10=wr.alloc (.cells (blkCells b (.slice na b.lab.after.length nc)) 58):=⟨_,rfl⟩
   rw[<-hW10]
   have hb10:Below wr.heap.size wr W10:=by rw[hW10];exact bel1 _ _
   have hn10:W10.heap[wr.heap.size]?=some (.cells (blkCells b (.slice na b.lab.after.length nc)) 58 (0,0)):=by rw[hW10];exact World.alloc_heap_new _ _
   have HN10:=Lib.hid hn10
   have q6:W10.cell? ⟨wr.heap.size,6,none⟩=some (.slice na b.lab.after.length nc):=rowcell hn10
   have hT10:wr.heap.size<W10.heap.size:=qh hn10
   have HSZ10:=Lib.hid (HSQ.out.bel hb10)
   have HB10:=Lib.hid hb10
   clear hW10 hb10 hn10
   go_upto_region 7 with (first
    |((with_reducible refine at_sslice 46 _ _ rfl ?_);go_must (refine wpList_empty_slice rfl E_int _ rfl rfl ?_))
    |((with_reducible refine at_sappend _ _ 46 rfl ?_);go_must (refine wpList_app_after2 rfl _ _ rfl W10.heap.size (by simp[Act.eval]) (World.alloc_heap_new _ _) na nc b.lab.after (by simp[Act.eval]) HI9.out (HSZ10.out.alloc _) (by omega) ?_);intro v11 w11 hI11 hg11;have hs11:=hI11.shape;obtain⟨a11,c11,rfl⟩:=hs11;have hb11:Below W10.heap.size W10 w11:=(bel1 W10 _).grown hg11 (by rw[World.size_alloc];omega) (fun k e=>by injection e with e;omega);have hx11:=(hb11.block _ hT10).trans HN10.out;have y11:w11.cell? ⟨wr.heap.size,6,none⟩=some (.slice na b.lab.after.length nc):=rowcell hx11;have z11:w11.frozen? ⟨wr.heap.size,6,none⟩=false:=rowfree hx11;have HX11:=Lib.hid hx11;have HB11:=Lib.hid hb11;have HI11:=Lib.hid hI11;clear hx11 hb11 hI11 hg11))
   have HX12:=Lib.hid (blk_set (j:=6) (u:=.slice a11 b.lab.after.length c11) HX11.out)
   have hb12:Below wr.heap.size wr (w11.setCell ⟨wr.heap.size,6,none⟩ (.slice a11 b.lab.after.length c11)):=(HB10.out.trans (HB11.out.mono HB10.out.size)).setCell (Nat.le_refl _) _
   have hi12:IntsM (memFr (w11.setCell ⟨wr.heap.size,6,none⟩ (.slice a11 b.lab.after.length c11)) (fun k=>k<w.heap.size\/Value.ownBlock (.slice sa sn sc)=some k)) (.slice a11 b.lab.after.length c11) b.lab.after:=by
    refine(IRow.kept HI11.out (upd_cell _ _ _ _) (fun k e q=>?_)).intsFr (fun k e q=>?_)
    ·have:=HI11.out.ge k e
     omega
    ·have h1:=HI11.out.ge k e
     have h2:=HBJ.out.size
     rcases q with q | q
     ·omega
     ·have:=(HR9.out.ge k q).2
      omega
   obtain⟨W12,hW12⟩:∃ W12,W12=w11.setCell ⟨wr.heap.size,6,none⟩ (.slice a11 b.lab.after.length c11):=⟨_,rfl⟩
   rw[<-hW12]at HX12 hb12 hi12 ⊢
   have HB13:Hid (∀ o,Below wr.heap.size wr (W12.alloc o)):=Lib.hid (fun o=>hb12.alloc hb12.size _)
   have HI13:Hid (∀ o,IntsM (memFr (W12.alloc o) (fun k=>k<w.heap.size\/Value.ownBlock (.slice sa sn sc)=some k)) (.slice a11 b.lab.after.length c11) b.lab.after):=Lib.hid (fun o=>hi12.mono (memFr_below (bel1 W12 o)))
   have HR13:Hid (∀ o,BRow (W12.alloc o) w.heap.size (.slice sa sn sc) Lk):=Lib.hid (fun o=>by
    have hb:=HB13.out o
    exact HR9.out.kept (F:=fun k=>wr.heap.size<=k) ⟨hb.os,hb.tape,hb.output,hb.size,fun k hk hn=>hb.block k (by omega)⟩ (fun k h=>.inr h))
   have h8w:w.heap.size<=W12.heap.size:=Nat.le_trans HBJ.out.size hb12.size
   clear hW12 hb12 hi12 y11 z11 q6
   go_wp2_with (first
    |((with_reducible refine at_sload 58 _ rfl ?_);go_must (refine wpList_sload rfl S_blk _ rfl (by simp[Act.eval]) (blkCells b (.slice a11 b.lab.after.length c11)) rfl HX12.out ?_))
    |((with_reducible refine at_sslice 37 _ _ rfl ?_);go_must (refine wpList_one_slice rfl E_blk _ rfl (.agg (blkCells b (.slice a11 b.lab.after.length c11))) rfl (by simp[Act.eval,Act.put]) ?_))
    |((with_reducible refine at_sappend _ _ 37 rfl ?_);go_must (refine wpList_app_blk rfl _ _ rfl w.heap.size _ Lk (by simp[Act.eval,Act.put]) (HR13.out _) b a11 c11 (HI13.out _) W12.heap.size 1 (by simp[Act.eval,Act.put]) (World.alloc_heap_new _ _) hLl (by rw[World.size_alloc];omega) ?_);intro v14 w14 hr14 hg14;have hs14:=hr14.sl;obtain⟨qa,qn,qc,rfl⟩:=hs14;have HJ14:Hid (RbJ w l (m+1) (.slice qa qn qc) w14):=Lib.hid ⟨(HBJ.out.trans ((HB13.out _).mono HBJ.out.size)).grown hg14 (by rw[World.size_alloc];omega) (fun k e=>(HR9.out.ge k e).1),by rw[HTM.out];exact hr14⟩;clear hr14 hg14))
   go_roundw
   case rel=>exact⟨m+1,by omega,by go_num,⟨_,_,_,rfl⟩,HJ14⟩
   case measure=>(try simp only[intOf]);omega
  ·obtain rfl:m=l.length:=by omega
   have HF:Hid (RefBlocks l w (.returned (.slice sa sn sc)) wr):=Lib.hid ⟨_,rfl,by have:=HJ.out.row;rwa [List.take_length]at this,HJ.out.bel⟩
   go_wp2_with fail
   go_ret
   exact HF.out
end Go.Proofs.YtdkkhmjlamkgdaaGreatDoor
namespace Go.Proofs.YtdkkhmjlamkgdaaGreatDoor
open Go.RowKit Mg Go.Shelf
theorem name_text {s:ByteArray} (h:nameOK s=true):textOK s=true:=by
 unfold nameOK at h
 simp only[Bool.and_eq_true,decide_eq_true_eq]at h
 obtain⟨⟨_,h2⟩,h3⟩:=h
 rw[textOK_eq,decide_eq_true (by omega),Bool.true_and,List.all_eq_true]
 intro c hc
 have h4:=(nameB_iff c).1 (List.all_eq_true.1 h3 c hc)
 exact okT_yes (by omega)
structure KindF (kind:Int) (text:ByteArray) (story ref:Int) (r:Bool):Prop where
 plain:kind=1\/kind=2\/kind=4->r=(decide (1<=text.size) && decide (story=0) && decide (ref=0))
 count:kind=5->r=(nameOK text && decide (story=0) && decide (ref=0))
 quote:kind=3->r=(decide (1<=story) && decide (story<=64) && decide (1<=ref) && decide (ref<=1000))
 none_:kind≠1->kind≠2->kind≠4->kind≠5->kind≠3->r=false
theorem kindF_of (x:Blk) (h1:1<=x.id/\x.id<=1000) (h2:validLab x.lab=true) (h3:textOK x.text=true):KindF x.kind x.text x.story x.ref (validBlk x):=by
 have e:validBlk x=kindOK x:=by unfold validBlk;rw[decide_eq_true h1.1,decide_eq_true h1.2,h2];rfl
 refine⟨fun h=>?_,fun h=>?_,fun h=>?_,fun n1 n2 n4 n5 n3=>?_⟩
 ·rw[e];unfold kindOK;rw[if_pos h,h3,Bool.and_true]
 ·rw[e];unfold kindOK;rw[if_neg (by omega),if_pos h]
 ·rw[e];unfold kindOK;rw[if_neg (by omega),if_neg (by omega),if_pos h,h3,Bool.true_and]
 ·rw[e];unfold kindOK;rw[if_neg (by omega),if_neg n5,if_neg n3]
theorem valid_no1 {x:Blk} (h:¬ (1<=x.id/\x.id<=1000)):validBlk x=false:=by
 rw[Bool.eq_false_iff];intro e;unfold validBlk at e;simp only[Bool.and_eq_true,decide_eq_true_eq]at e;exact h e.1.1
theorem valid_no2 {x:Blk} (h:validLab x.lab=false):validBlk x=false:=by unfold validBlk;rw[h];simp
theorem valid_no3 {x:Blk} (h:textOK x.text=false):validBlk x=false:=by
 have hn:nameOK x.text=false:=by
  rw[Bool.eq_false_iff];intro e;have:=name_text e;rw[h]at this;cases this
 unfold validBlk kindOK
 rw[h,hn]
 simp
set_option maxRecDepth 10000 in
set_option maxHeartbeats 8000000 in
theorem validR_any {mem:Addr->Option Value} (x:Blk) (av:Value) (hi:IntsM mem av x.lab.after) (ht:x.text.size<=maxLen) (w:World) (hs:Sees mem w):
 Calls Tryz.prog 185 #[.agg (blkCells x av)] w fun e w'=>e=.returned (.bool (validBlk x))/\Below w.heap.size w w':=by
 have HK:=Lib.hid (kindF_of x)
 have HN1:=Lib.hid (@valid_no1 x)
 have HN2:=Lib.hid (@valid_no2 x)
 have HN3:=Lib.hid (@valid_no3 x)
 have HT:=Lib.hid (fun W=>isTextR_any x.text W ht)
 have HNM:=Lib.hid (fun W=>isNameR_any x.text W ht)
 have HL:=Lib.hid (fun W hW=>labValidR_any x.lab _ hi W hW)
 obtain⟨ao,cap,rfl⟩:=hi.slice
 have HS:=Lib.hid hs
 clear hi ht hs
 generalize validBlk x=R at *
 obtain⟨id,kind,text,story,ref,lab⟩:=x
 dsimp only at *
 go_enter Tryz.func185,Tryz.ntmps185
 go_wp2_with fail
 refine(HT.out _).mono ?_
 rintro e w1 ⟨rfl,rfl⟩
 go_wp2_with fail
 refine(HL.out _ (HS.out.alloc _)).mono ?_
 rintro e w1 ⟨rfl,hb⟩
 have hB:Below w.heap.size w w1:=((Below.refl _ w).alloc (Nat.le_refl _) _).trans (hb.mono (by simp))
 have hz:w.heap.size<w1.heap.size:=by have:=hb.size;simp at this;omega
 have hc:∀ (j:Nat) (u:Value),(blkCells ⟨id,kind,text,story,ref,lab⟩ (.slice ao lab.after.length cap))[j]?=some u->w1.cell? ⟨w.heap.size,j,none⟩=some u:=fun j u hu=>(hb.cell (p:=⟨w.heap.size,j,none⟩) (by simp)).trans (cell_new rfl hu)
 have c0:=hc 0 _ rfl
 have c1:=hc 1 _ rfl
 have c2:=hc 2 _ rfl
 have c3:=hc 3 _ rfl
 have c4:=hc 4 _ rfl
 clear hc hb HT HL HS
 generalize hTT:textOK text=T at *
 generalize hVV:validLab lab=V at *
 clear hTT hVV
 by_cases hid:1<=id/\id<=1000
 ·cases T with
  |false=>
   have HX:=Lib.hid (HN3.out rfl)
   clear HK HN1 HN2 HN3
   obtain⟨i1,i2⟩:=hid
   go_wp2_with fail
   go_ret
   exact⟨ret_false HX.out,hB⟩
  |true=>
   cases V with
   |false=>
    have HX:=Lib.hid (HN2.out rfl)
    clear HK HN1 HN2 HN3
    obtain⟨i1,i2⟩:=hid
    go_wp2_with fail
    go_ret
    exact⟨ret_false HX.out,hB⟩
   |true=>
    have HF:=Lib.hid (HK.out hid rfl rfl)
    clear HK HN1 HN2 HN3
    obtain⟨i1,i2⟩:=hid
    by_cases k1:kind=1
    ·have hk:=HF.out.plain (by omega)
     have HH:=Lib.hid hk
     clear hk
     subst k1
     rcases size_pos text with ⟨z1,z2,z3⟩ | ⟨z1,z2,z3⟩
     ·have HY:Hid (R=false):=Lib.hid (by rw[HH.out,z3,Bool.false_and,Bool.false_and])
      clear HF z3 HH
      go_wp2_with fail
      go_ret
      exact⟨ret_false HY.out,hB⟩
     ·have HG:Hid (R=(decide (story=0) && decide (ref=0))):=Lib.hid (by rw[HH.out,z3,Bool.true_and])
      clear z3 HH
      by_cases s0:story=0
      ·subst s0
       by_cases r0:ref=0
       ·subst r0
        have HY:Hid (R=true):=Lib.hid (by rw[HG.out];rfl)
        clear HF
        go_wp2_with fail
        go_ret
        exact⟨ret_true HY.out,hB⟩
       ·have HY:Hid (R=false):=Lib.hid (by rw[HG.out,decide_eq_false r0,Bool.and_false])
        have n:(ref == 0)=false:=by simpa using r0
        clear HF r0
        go_wp2_with fail
        go_ret
        exact⟨ret_false HY.out,hB⟩
      ·have HY:Hid (R=false):=Lib.hid (by rw[HG.out,decide_eq_false s0,Bool.false_and])
       have n:(story == 0)=false:=by simpa using s0
       clear HF s0
       go_wp2_with fail
       go_ret
       exact⟨ret_false HY.out,hB⟩
    by_cases k2:kind=2
    ·have hk:=HF.out.plain (by omega)
     have HH:=Lib.hid hk
     clear hk
     subst k2
     rcases size_pos text with ⟨z1,z2,z3⟩ | ⟨z1,z2,z3⟩
     ·have HY:Hid (R=false):=Lib.hid (by rw[HH.out,z3,Bool.false_and,Bool.false_and])
      clear HF z3 HH
      go_wp2_with fail
      go_ret
      exact⟨ret_false HY.out,hB⟩
     ·have HG:Hid (R=(decide (story=0) && decide (ref=0))):=Lib.hid (by rw[HH.out,z3,Bool.true_and])
      clear z3 HH
      by_cases s0:story=0
      ·subst s0
       by_cases r0:ref=0
       ·subst r0
        have HY:Hid (R=true):=Lib.hid (by rw[HG.out];rfl)
        clear HF
        go_wp2_with fail
        go_ret
        exact⟨ret_true HY.out,hB⟩
       ·have HY:Hid (R=false):=Lib.hid (by rw[HG.out,decide_eq_false r0,Bool.and_false])
        have n:(ref == 0)=false:=by simpa using r0
        clear HF r0
        go_wp2_with fail
        go_ret
        exact⟨ret_false HY.out,hB⟩
      ·have HY:Hid (R=false):=Lib.hid (by rw[HG.out,decide_eq_false s0,Bool.false_and])
       have n:(story == 0)=false:=by simpa using s0
       clear HF s0
       go_wp2_with fail
       go_ret
       exact⟨ret_false HY.out,hB⟩
    by_cases k4:kind=4
    ·have hk:=HF.out.plain (by omega)
     have HH:=Lib.hid hk
     clear hk
     subst k4
     rcases size_pos text with ⟨z1,z2,z3⟩ | ⟨z1,z2,z3⟩
     ·have HY:Hid (R=false):=Lib.hid (by rw[HH.out,z3,Bool.false_and,Bool.false_and])
      clear HF z3 HH
      go_wp2_with fail
      go_ret
      exact⟨ret_false HY.out,hB⟩
     ·have HG:Hid (R=(decide (story=0) && decide (ref=0))):=Lib.hid (by rw[HH.out,z3,Bool.true_and])
      clear z3 HH
      by_cases s0:story=0
      ·subst s0
       by_cases r0:ref=0
       ·subst r0
        have HY:Hid (R=true):=Lib.hid (by rw[HG.out];rfl)
        clear HF
        go_wp2_with fail
        go_ret
        exact⟨ret_true HY.out,hB⟩
       ·have HY:Hid (R=false):=Lib.hid (by rw[HG.out,decide_eq_false r0,Bool.and_false])
        have n:(ref == 0)=false:=by simpa using r0
        clear HF r0
        go_wp2_with fail
        go_ret
        exact⟨ret_false HY.out,hB⟩
      ·have HY:Hid (R=false):=Lib.hid (by rw[HG.out,decide_eq_false s0,Bool.false_and])
       have n:(story == 0)=false:=by simpa using s0
       clear HF s0
       go_wp2_with fail
       go_ret
       exact⟨ret_false HY.out,hB⟩
    by_cases k5:kind=5
    ·have hk:=HF.out.count k5
     have HH:=Lib.hid hk
     clear hk
     subst k5
     go_wp2_with fail
     refine(HNM.out _).mono ?_
     rintro e w2 ⟨rfl,rfl⟩
     generalize nameOK text=N at *
     cases N with
     |false=>
      have HY:Hid (R=false):=Lib.hid (by rw[HH.out,Bool.false_and,Bool.false_and])
      clear HF HH
      go_wp2_with fail
      go_ret
      exact⟨ret_false HY.out,hB⟩
     |true=>
      have HG:Hid (R=(decide (story=0) && decide (ref=0))):=Lib.hid (by rw[HH.out,Bool.true_and])
      clear HH
      by_cases s0:story=0
      ·subst s0
       by_cases r0:ref=0
       ·subst r0
        have HY:Hid (R=true):=Lib.hid (by rw[HG.out];rfl)
        clear HF
        go_wp2_with fail
        go_ret
        exact⟨ret_true HY.out,hB⟩
       ·have HY:Hid (R=false):=Lib.hid (by rw[HG.out,decide_eq_false r0,Bool.and_false])
        have n:(ref == 0)=false:=by simpa using r0
        clear HF r0
        go_wp2_with fail
        go_ret
        exact⟨ret_false HY.out,hB⟩
      ·have HY:Hid (R=false):=Lib.hid (by rw[HG.out,decide_eq_false s0,Bool.false_and])
       have n:(story == 0)=false:=by simpa using s0
       clear HF s0
       go_wp2_with fail
       go_ret
       exact⟨ret_false HY.out,hB⟩
    by_cases k3:kind=3
    ·have hk:=HF.out.quote k3
     have HH:=Lib.hid hk
     clear hk HF
     subst k3
     by_cases q4:1<=story
     ·by_cases q3:story<=64
      ·by_cases q2:1<=ref
       ·by_cases q1:ref<=1000
        ·have HY:Hid (R=true):=Lib.hid (by rw[HH.out,decide_eq_true q4,decide_eq_true q3,decide_eq_true q2,decide_eq_true q1];rfl)
         clear HH
         go_wp2_with fail
         go_ret
         exact⟨ret_true HY.out,hB⟩
        ·have HY:Hid (R=false):=Lib.hid (by rw[HH.out,decide_eq_false q1];simp)
         have nq1:decide (ref<=1000)=false:=decide_eq_false q1
         clear HH q1
         go_wp2_with fail
         go_ret
         exact⟨ret_false HY.out,hB⟩
       ·have HY:Hid (R=false):=Lib.hid (by rw[HH.out,decide_eq_false q2];simp)
        have nq2:decide (1<=ref)=false:=decide_eq_false q2
        clear HH q2
        go_wp2_with fail
        go_ret
        exact⟨ret_false HY.out,hB⟩
      ·have HY:Hid (R=false):=Lib.hid (by rw[HH.out,decide_eq_false q3];simp)
       have nq3:decide (story<=64)=false:=decide_eq_false q3
       clear HH q3
       go_wp2_with fail
       go_ret
       exact⟨ret_false HY.out,hB⟩
     ·have HY:Hid (R=false):=Lib.hid (by rw[HH.out,decide_eq_false q4];simp)
      have nq4:decide (1<=story)=false:=decide_eq_false q4
      clear HH q4
      go_wp2_with fail
      go_ret
      exact⟨ret_false HY.out,hB⟩
    have HY:Hid (R=false):=Lib.hid (HF.out.none_ k1 k2 k4 k5 k3)
    have n1:(kind == 1)=false:=by simpa using k1
    have n2:(kind == 2)=false:=by simpa using k2
    have n4:(kind == 4)=false:=by simpa using k4
    have n5:(kind == 5)=false:=by simpa using k5
    have n3:(kind == 3)=false:=by simpa using k3
    clear HF k1 k2 k4 k5 k3
    go_wp2_with fail
    go_ret
    exact⟨ret_false HY.out,hB⟩
 ·have HX:=Lib.hid (HN1.out hid)
  have HI:=Lib.hid hid
  clear HK HN1 HN2 HN3 hid
  go_wp2_with fail
  all_goals first
   |(go_ret
     exact⟨ret_false HX.out,hB⟩)
   |(exfalso;exact HI.out ⟨by omega,by omega⟩)
set_option maxRecDepth 10000 in
set_option maxHeartbeats 4000000 in
theorem validListR_any {mem:Addr->Option Value} {v:Value} {l:List Blk} (h:BlksM mem v l) (w:World) (hs:Sees mem w):
 Calls Tryz.prog 146 #[v] w fun e w'=>e=.returned (.bool (decide (ValidL l)))/\Below w.heap.size w w':=by
 obtain⟨ao,cap,b,o,rfl,hcap,hm,hao,hblks⟩:=h.open_
 have HAO:=Lib.hid hao
 have HB:=Lib.hid hblks
 have HS:=Lib.hid hs
 have hlen:(l.length:Int)<=9223372036854775807:=by unfold maxLen at hm;omega
 clear h hao hblks hs hm
 by_cases h24:l.length<=24
 ·have HOK:Hid (PreOK l l.length->decide (ValidL l)=true):=Lib.hid (fun h=>decide_eq_true (validL_all h24 h))
  go_enter Tryz.func146,Tryz.ntmps146
  go_wp2_with fail
  go_loopw [3,4,5] (fun i _ _ wr=>∃ k:Nat,k<=l.length/\i=.int .i64 k/\Below w.heap.size w wr/\Hid (PreOK l k)) (fun i _ _ _=>l.length - (intOf i).toNat)
  case atStart=>exact⟨0,Nat.zero_le _,rfl,Below.refl _ _,Lib.hid (PreOK.zero l)⟩
  case round=>
   obtain⟨k,hk,rfl,hb,hp⟩:=hrel
   obtain⟨wo,rfl⟩:∃ wo,wo=wr:=⟨_,rfl⟩
   by_cases hlt:k<l.length
   ·obtain⟨⟨t1,_,_⟩,lo,lc,hi,hc9⟩:=(HB.out k hlt).nine (HS.out.bel hb)
    obtain rfl:=HAO.out (by omega)
    obtain⟨c0,c1,c2,c3,c4,c5,c6,c7,c8⟩:=hc9
    have hbl:b<wo.heap.size:=World.block_lt_of_cell? wo _ c0
    have HF:Hid (Calls Tryz.prog 185 #[.agg (blkCells l[k] (.slice lo l[k].lab.after.length lc))] wo fun e w'=>e=.returned (.bool (validBlk l[k]))/\Below wo.heap.size wo w'):=
     Lib.hid (validR_any l[k] _ hi t1 wo (HS.out.bel hb))
    have HNB:Hid (validBlk l[k]=false->decide (ValidL l)=false):=Lib.hid (fun h=>decide_eq_false (validL_bad hlt h))
    have HNT:Hid (∀ j (hj:j<k),l[j].id=l[k].id->decide (ValidL l)=false):=Lib.hid (fun j hj e=>decide_eq_false (validL_twice hj hlt e))
    have HST:Hid (validBlk l[k]=true->(∀ j (hj:j<k),l[j].id≠l[k].id)->PreOK l (k+1)):=Lib.hid (fun h1 h2=>PreOK.succ hlt hp.out h1 h2)
    have hkc:(k:Int)<=cap:=by omega
    have hk0:(0:Int)<=k:=by omega
    have hk1:(k:Int)<l.length:=by omega
    clear hi t1 hp
    generalize hx:l[k]=x at *
    obtain⟨id,kind,text,story,ref,till,after,appr,denied⟩:=x
    clear hx
    dsimp only at *
    go_wp2_with fail
    refine HF.out.mono ?_
    rintro e w3 ⟨rfl,hb3⟩
    have hB3:Below w.heap.size w w3:=hb.trans (hb3.mono hb.size)
    replace c0:=(hb3.cell (p:=⟨b,o+k * 9,none⟩) hbl).trans c0
    have hbl3:b<w3.heap.size:=Nat.lt_of_lt_of_le hbl hb3.size
    generalize hV:validBlk ⟨id,kind,text,story,ref,⟨till,after,appr,denied⟩⟩=V at *
    clear hV
    cases V with
    |false=>
     have HNB2:=Lib.hid (HNB.out rfl)
     clear HNB HST HNT HF
     go_wp2_with fail
     go_ret
     exact⟨ret_false HNB2.out,hB3⟩
    |true=>
     have HST2:=Lib.hid (HST.out rfl)
     clear HNB HST HF hb3 c1 c2 c3 c4 c5 c6 c7 c8
     go_wp2_with fail
     go_loopw [5] (fun i wi=>∃ j:Nat,j<=k/\i=.int .i64 j/\Below w3.heap.size w3 wi/\Hid (∀ m (hm:m<j) (hm2:m<l.length),l[m].id≠id)) (fun i _=>k - (intOf i).toNat)
     case atStart=>exact⟨0,Nat.zero_le _,rfl,Below.refl _ _,Lib.hid (fun m hm=>absurd hm (by omega))⟩
     case round=>
      obtain⟨j,hj,rfl,hbi,hne⟩:=hrel
      have hBi:Below w.heap.size w wr:=hB3.trans (hbi.mono hB3.size)
      by_cases hjk:j<k
      ·have hjl:j<l.length:=by omega
       have hj0:(0:Int)<=j:=by omega
       have hj1:(j:Int)<l.length:=by omega
       obtain⟨_,lo2,lc2,_,d9⟩:=(HB.out j hjl).nine (HS.out.bel hBi)
       have d0:=d9.c0
       have c0':=(hbi.cell (p:=⟨b,o+k * 9,none⟩) hbl3).trans c0
       have HEQ:Hid (l[j].id=id->decide (ValidL l)=false):=Lib.hid (fun e=>HNT.out j hjk e)
       have HNE:Hid (l[j].id≠id->∀ m (hm:m<j+1) (hm2:m<l.length),l[m].id≠id):=Lib.hid (fun e m hm hm2=>by
        by_cases h:m=j
        ·subst h;exact e
        ·exact hne.out m (by omega) hm2)
       clear hne d9
       generalize l[j].id=id2 at *
       by_cases he:id2=id
       ·have e1:(id2 == id)=true:=by simpa using he
        have HF:=Lib.hid (HEQ.out he)
        clear he HEQ HNE
        go_wp2_with fail
        go_quiet (fail)
        go_wp2_with fail
        go_ret
        exact⟨ret_false HF.out,below_drewN hBi _⟩
       ·have e1:(id2 == id)=false:=by simpa using he
        have HF:=Lib.hid (HNE.out he)
        clear he HEQ HNE
        go_wp2_with fail
        go_quiet (fail)
        go_wp2_with fail
        go_roundw
        case rel=>exact⟨j+1,by omega,by go_num,below_drewN hbi _,HF⟩
        case measure=>simp[intOf];omega
      ·have e:j=k:=by omega
       subst e
       have HP:Hid (PreOK l (j+1)):=Lib.hid (HST2.out (fun m hm=>hne.out m hm (by omega)))
       go_wp2_with fail
       go_roundw
       case rel=>exact⟨j+1,by omega,by go_num,hBi,HP⟩
       case measure=>simp[intOf];omega
   ·have e:k=l.length:=by omega
    subst e
    have HF:=Lib.hid (HOK.out hp.out)
    go_wp2_with fail
    go_ret
    exact⟨ret_true HF.out,hb⟩
 ·have HF:Hid (decide (ValidL l)=false):=Lib.hid (decide_eq_false (fun h=>h24 h.1))
  go_enter Tryz.func146,Tryz.ntmps146
  go_wp2_with fail
  go_ret
  exact⟨ret_false HF.out,Below.refl _ _⟩
theorem idxI_hit {l:List Int} {x:Int} {k:Nat} (hlt:k<l.length) (hn:x∉l.take k) (e:l[k]=x):idxI l x=k:=by
 unfold idxI
 have hm:x∈l:=e ▸ List.getElem_mem hlt
 rw[if_pos hm]
 have hs:l=l.take k++l[k]::l.drop (k+1):=by rw[<-List.drop_eq_getElem_cons hlt,List.take_append_drop]
 have:l.idxOf x=k:=by
  rw[hs,List.idxOf_append,if_neg hn,e]
  simp;omega
 rw[this]
theorem not_take {l:List Int} {x:Int} {k:Nat} (hlt:k<l.length) (hn:x∉l.take k) (e:l[k]≠x):x∉l.take (k+1):=by
 rw[List.take_succ_eq_append_getElem hlt]
 intro hm
 rcases List.mem_append.1 hm with hm | hm
 ·exact hn hm
 ·rw[List.mem_singleton]at hm;exact e hm.symm
theorem idx_find {l:List Blk} {i:Int} (h:i∈ids l):∃ (k:Nat) (hk:k<l.length),idxI (ids l) i=k/\find l i=some l[k]:=by
 obtain⟨x,hx⟩:=Option.ne_none_iff_exists'.1 (fun e:find l i=none=>find_none.1 e h)
 have hlt:=List.idxOf_lt_length_iff.2 h
 have hl:(ids l).length=l.length:=by rw[List.length_map]
 refine⟨(ids l).idxOf i,by omega,by unfold idxI;rw[if_pos h],?_⟩
 have hid:l[(ids l).idxOf i].id=i:=by
  have:(ids l)[(ids l).idxOf i]=i:=List.getElem_idxOf hlt
  rwa [List.getElem_map]at this
 unfold find
 rw[List.find?_eq_some_iff_getElem]
 refine⟨by simpa using hid,(ids l).idxOf i,by omega,rfl,fun j hj=>?_⟩
 have hne:(ids l)[j]'(by omega)≠i:=fun e=>by
  have h2:=List.not_of_lt_findIdx (p:=(· == i)) (xs:=ids l) (i:=j) hj
  rw[e]at h2
  simp at h2
 rw[List.getElem_map]at hne
 simpa using hne
theorem idx_none {l:List Blk} {i:Int} (h:i∉ids l):idxI (ids l) i=-1/\find l i=none:=⟨by unfold idxI;rw[if_neg h],find_none.2 h⟩
section
variable {ops:Array Oper} {rest:List Oper} {o:Oper} {a:Act} {w:World} {Q:Exit->Act->World->Prop} {mem:Addr->Option Value}
def MRow (mem:Addr->Option Value) (w:World) (B:Nat) (v:Value) (l:List Blk):Prop:=∃ vs,w.ownsRow B 58 9 v l.length vs/\BVals mem l vs
theorem MRow.sl {B:Nat} {v:Value} {l:List Blk} (h:MRow mem w B v l):∃ ao n cap,v=.slice ao n cap:=by
 obtain⟨_,h,_⟩:=h
 rcases h.2 with ⟨rfl,_⟩ | ⟨g,cap,cur,rfl,_⟩
 ·exact⟨_,_,_,rfl⟩
 ·exact⟨_,_,_,rfl⟩
theorem MRow.ge {B:Nat} {v:Value} {l:List Blk} (h:MRow mem w B v l):∀ k,v.ownBlock=some k->B<=k/\k<w.heap.size:=by
 obtain⟨_,h,_⟩:=h
 exact World.ownsRow.lt h
theorem MRow.kept {w':World} {B:Nat} {v:Value} {l:List Blk} {F:Nat->Prop} (h:MRow mem w B v l) (hu:Upd F w w') (hn:∀ k,v.ownBlock=some k->¬ F k):MRow mem w' B v l:=by
 obtain⟨vs,h1,h2⟩:=h
 refine⟨vs,⟨h1.1,?_⟩,h2⟩
 rcases h1.2 with hq | ⟨g,cap,cur,rfl,hb,hgg,rest⟩
 ·exact .inl hq
 ·exact .inr ⟨g,cap,cur,rfl,hb,(hu.block g (Array.getElem?_eq_some_iff.1 hgg).1 (hn g rfl)).trans hgg,rest⟩
theorem MRow.blks {B:Nat} {v:Value} {l:List Blk} (h:MRow mem w B v l) (hs:Sees mem w) (hp:∀ x∈l,x.text.size<=maxLen/\okI x.kind/\okI x.id):BlksM (fun a=>w.cell? a) v l:=by
 obtain⟨vs,h1,h2⟩:=h
 have hg:=(h2.mono (mem':=fun a=>w.cell? a) hs).get
 rcases h1.2 with ⟨rfl,hz⟩ | ⟨g,cap,cur,rfl,hb,hgg,hn,hc,hs,ht⟩
 ·have:l=[]:=List.eq_nil_of_length_eq_zero hz
  subst this
  exact BlksM.nil _
 ·refine⟨g,0,⟨Nat.le_trans hn hc,some ⟨g,0,none⟩,cap,rfl,hn,hc,fun _=>rfl⟩,fun j hj=>?_⟩
  obtain⟨ao,cp,hi,hv⟩:=hg j hj
  have hcell:∀ t,t<9->w.cell? ⟨g,0+j * 9+t,none⟩=(blkVals l[j] (.slice ao l[j].lab.after.length cp))[t]?:=fun t ht9=>by
   rw[blk_cell hgg]
   have h5:(cur.toList.take (l.length * 9))[j * 9+t]?=vs[j * 9+t]?:=by rw[ht]
   rw[List.getElem?_take_of_lt (by omega)]at h5
   rw[show 0+j * 9+t=j * 9+t by omega,<-Array.getElem?_toList,h5]
   exact hv t ht9
  exact⟨⟨hcell 0 (by omega),hcell 1 (by omega),hcell 2 (by omega),hcell 3 (by omega),hcell 4 (by omega)⟩,⟨hcell 5 (by omega),hcell 7 (by omega),hcell 8 (by omega)⟩,hp _ (List.getElem_mem hj),_,hcell 6 (by omega),hi⟩
theorem run_app_sblk {B:Nat} {v:Value} {l:List Blk} (h:MRow mem w B v l) (x:Blk) (ao:Option Addr) (cap:Nat) (hi:IntsM mem (.slice ao x.lab.after.length cap) x.lab.after)
 (g c:Nat) (hc:w.heap[g]?=some (.cells (blkCells x (.slice ao x.lab.after.length cap)) 58 (0,0))) (hlen:l.length<=100000) (hB:B<=w.heap.size) (ty:Nat):
 ∃ v' w',(Builtin.append_ #[37,37] ty #[v,.slice (some ⟨g,0,none⟩) 1 c]).run Tryz.prog w=.ok v' w'/\MRow mem w' B v' (l++[x])/\w.grownBy w' v.ownBlock:=by
 obtain⟨i0,hi0,hz0,hz1,hz2⟩:=info_parts blk_info
 obtain⟨vs,h1,h2⟩:=h
 obtain⟨v',w',hr,g2,g3,_,g5⟩:=run_append_own_at (P:=Tryz.prog) w B 37 ty 58 i0 _ 9 96 Tryz.underlying37 hi0 hz0 hz1 hz2 rfl (by decide) v l.length vs h1 ⟨g,0,none⟩ 1 c (blkVals x (.slice ao x.lab.after.length cap)) rfl
  (fun j u hj=>by
    have e:(⟨g,0,none⟩:Addr).add j=⟨g,j,none⟩:=by unfold Addr.add;by_cases h0:j=0 <;> simp[h0]
    rw[e,blk_cell hc]
    rw[<-hj];simp)
  (by simp[Value.oneCell']) (by unfold maxLen;omega) (by omega) hB
 exact⟨v',w',hr,⟨_,by rw[List.length_append];exact g2,BVals.snoc hi h2⟩,g3⟩
theorem wpList_app_sblk (hgd:o.guard=none) (s x:Operand) (ho:o.op=.call { callee:=.builtin .append,args:=#[s,x],argTypes:=#[37,37] })
 (B:Nat) (v:Value) (l:List Blk) (hs:a.eval s=v) (hown:MRow mem w B v l) (y:Blk) (ao:Option Addr) (cap:Nat) (hi:IntsM mem (.slice ao y.lab.after.length cap) y.lab.after)
 (g c:Nat) (hx:a.eval x=.slice (some ⟨g,0,none⟩) 1 c) (hc:w.heap[g]?=some (.cells (blkCells y (.slice ao y.lab.after.length cap)) 58 (0,0))) (hlen:l.length<=100000) (hB:B<=w.heap.size)
 (h:∀ v' w',MRow mem w' B v' (l++[y])->w.grownBy w' v.ownBlock->wpList Tryz.prog ops Q rest (a.put o.dst v') w'):wpList Tryz.prog ops Q (o::rest) a w:=by
 refine wpList_plain hgd fun K hK=>?_
 obtain⟨v',w',hr,h2,h3⟩:=run_app_sblk hown y ao cap hi g c hc hlen hB o.type
 unfold Oper.wp execOp
 simp only[ho,resolve,invoke,builtin,Sem.run_bind,Sem.run_pure,Result.andThen_ok,List.map_toArray,List.map_cons,List.map_nil,hs,hx,hr]
 exact hK _ _ (h v' w' h2 h3)
end
theorem BlksM.ok {mem:Addr->Option Value} {v:Value} {l:List Blk} (h:BlksM mem v l):∀ x∈l,x.text.size<=maxLen/\okI x.kind/\okI x.id:=fun x hx=>by
 obtain⟨_,_,_,_,_,_,_,_,hb⟩:=h.open_
 obtain⟨j,hj,rfl⟩:=List.getElem_of_mem hx
 exact(hb j hj).2.2.1
end Go.Proofs.YtdkkhmjlamkgdaaGreatDoor
namespace Go.Proofs.YtdkkhmjlamkgdaaGreatDoor.Mg
def placeI (l:List Int) (x:Int):Int:=if x∈l then (l.idxOf x:Nat) else -1
def refStep (has:Int->Bool) (lead:List Int) (st:List Int × Int) (i:Int):List Int × Int:=
 (if has i=true/\i∉lead then insAt st.1 (placeI st.1 st.2+1).toNat i else st.1,if has i=true then i else st.2)
theorem idx_insAt {l:List Int} {k:Nat} {x:Int} (hx:x∉l) (hk:k<=l.length):(insAt l k x).idxOf x=k:=by
 unfold insAt
 rw[List.idxOf_append,if_neg (fun h=>hx (List.mem_of_mem_take h)),List.idxOf_cons_self,List.length_take]
 omega
theorem placeI_mem {l:List Int} {x:Int} (h:x∈l):placeI l x=(l.idxOf x:Nat):=by unfold placeI;rw[if_pos h]
theorem placeI_not {l:List Int} {x:Int} (h:x∉l):placeI l x=-1:=by unfold placeI;rw[if_neg h]
theorem ref_fold {has:Int->Bool} {lead:List Int} (hl:lead.Nodup):∀ (r p:List Int) (st:List Int × Nat) (rt:List Int × Int),(p++r).Nodup->(∀ i∈p++r,1<=i)->Inv has lead p st->rt.1=st.1->(rt.2=-1/\st.2=0/\(-1:Int)∉st.1\/rt.2∈st.1/\st.2=st.1.idxOf rt.2+1)->(∀ i∈lead,1<=i) →
 (r.foldl (refStep has lead) rt).1=(r.foldl (step has lead) st).1
 |[],_,_,_,_,_,_,h,_,_=>h
 |i::r,p,st,rt,hn,h1,hI,he,hp,hlead=>by
  have hip:i∉p:=fun h=>by
   have:=(List.nodup_append.1 hn).2.2 i h i List.mem_cons_self
   exact this rfl
  have hI2:=inv_step hI i hip
  have hpl:(placeI rt.1 rt.2+1).toNat=st.2:=by
   rw[he]
   rcases hp with ⟨a,b,c⟩ | ⟨a,b⟩
   ·rw[a,placeI_not c,b];rfl
   ·rw[placeI_mem a,b];omega
  have hi1:1<=i:=h1 i (List.mem_append_right _ List.mem_cons_self)
  have hnext:(r.foldl (refStep has lead) (refStep has lead rt i)).1=(r.foldl (step has lead) (step has lead st i)).1:=by
   refine ref_fold hl r (p++[i]) _ _ (by rwa [List.append_assoc]) (by rwa [List.append_assoc]) hI2 ?_ ?_ hlead
   ·have hpl':(placeI st.1 rt.2+1).toNat=st.2:=by rw[<-he];exact hpl
    by_cases hh:has i=true
    ·by_cases hm:i∈lead
     ·simp[refStep,step,hh,hm,he]
     ·simp[refStep,step,hh,hm,he,hpl']
    ·simp[refStep,step,hh,he]
   ·unfold refStep step
    by_cases hh:has i=true
    ·rw[if_pos hh,if_pos hh]
     by_cases hm:i∈lead
     ·rw[if_pos hm]
      exact .inr ⟨(hI.mem i).2 ⟨hh,.inl hm⟩,rfl⟩
     ·rw[if_neg hm]
      have hx:i∉st.1:=fun h=>by
       rcases ((hI.mem i).1 h).2 with h2 | h2
       ·exact hm h2
       ·exact hip h2
      exact .inr ⟨insAt_mem.2 (.inl rfl),by rw[idx_insAt hx hI.le]⟩
    ·rw[if_neg hh,if_neg hh];exact hp
  exact hnext
theorem ref_order {has:Int->Bool} {lead foll:List Int} (hl:lead.Nodup) (hf:foll.Nodup) (h1:∀ i∈lead,1<=i) (h2:∀ i∈foll,1<=i):
 (foll.foldl (refStep has lead) (lead.filter has,-1)).1=orderF has lead foll:=
 ref_fold hl foll [] _ _ hf h2 (inv_start has lead hl) rfl (.inl ⟨rfl,rfl,fun h=>by have:=h1 _ (List.mem_filter.1 h).1;omega⟩) h1
end Go.Proofs.YtdkkhmjlamkgdaaGreatDoor.Mg
namespace Go.Proofs.YtdkkhmjlamkgdaaGreatDoor
open Go.RowKit Mg Go.Shelf
set_option maxHeartbeats 1000000 in
theorem atR_any {mem:Addr->Option Value} (v:Value) (l:List Blk) (h:BlksM mem v l) (x:Int) (w:World) (hs:Sees mem w):
 Calls Tryz.prog 150 #[v,.int .i64 x] w fun e w'=>e=.returned (.int .i64 (idxI (ids l) x))/\w=w':=by
 obtain⟨ao,cap,b,o,rfl,hcap,hm,hao,hblks⟩:=h.open_
 have HA:=Lib.hid hao
 have HC:=Lib.hid hblks
 have HS:=Lib.hid hs
 have hlen:(l.length:Int)<=9223372036854775807:=by unfold maxLen at hm;omega
 have HL:Hid ((ids l).length=l.length):=Lib.hid (by rw[List.length_map])
 clear hao hblks hs h hcap hm
 go_enter Tryz.func150,Tryz.ntmps150
 go_wp2_with fail
 go_loop [5] (fun i=>∃ k:Nat,k<=l.length/\i=.int .i64 k/\Hid (x∉(ids l).take k)) (fun i=>l.length - (Go.RowKit.intOf i).toNat)
 case atStart=>exact⟨0,Nat.zero_le _,rfl,Lib.hid (by simp)⟩
 case round=>
  obtain⟨k,hk,rfl,hn⟩:=hrel
  by_cases hlt:k<l.length
  ·obtain⟨_,lo,lc,_,c9⟩:=(HC.out k hlt).nine HS.out
   have c1:=c9.c0
   clear c9
   obtain rfl:=HA.out (by omega)
   have HE:Hid (l[k].id=x->idxI (ids l) x=k):=Lib.hid (fun e=>idxI_hit (by rw[HL.out];exact hlt) hn.out (by rw[List.getElem_map];exact e))
   have HN:Hid (l[k].id≠x->x∉(ids l).take (k+1)):=Lib.hid (fun e=>not_take (by rw[HL.out];exact hlt) hn.out (by rw[List.getElem_map];exact e))
   generalize l[k].id=y at *
   clear hn
   by_cases hxy:y=x
   ·have e1:(y == x)=true:=by simpa using hxy
    have HF:=Lib.hid (HE.out hxy)
    clear hxy HE HN
    go_wp2_with fail
    go_ret
    exact⟨ret_int (by rw[HF.out]),rfl⟩
   ·have e1:(y == x)=false:=by simpa using hxy
    have HF:=Lib.hid (HN.out hxy)
    clear hxy HE HN
    go_wp2_with fail
    go_round
    case rel=>exact⟨k+1,by omega,by go_num,HF⟩
    case measure=>simp[Go.RowKit.intOf];omega
  ·have e:k=l.length:=by omega
   subst e
   have HF:Hid (x∉ids l):=Lib.hid (by have:=hn.out;rwa [<-HL.out,List.take_length]at this)
   go_wp2_with fail
   go_ret
   exact⟨ret_int (by unfold idxI;rw[if_neg HF.out]),rfl⟩
set_option maxRecDepth 10000 in
set_option maxHeartbeats 4000000 in
theorem equalR_any {mem:Addr->Option Value} {v u:Value} {a b:List Blk} (h1:BlksM mem v a) (h2:BlksM mem u b) (i:Int) (w:World) (hs:Sees mem w):
 Calls Tryz.prog 186 #[v,u,.int .i64 i] w fun e w'=>e=.returned (.bool (decide (find a i=find b i)))/\Below w.heap.size w w':=by
 have ca:=atR_any v a h1 i w hs
 have cb:=atR_any u b h2 i w hs
 obtain⟨ao,cap,g,o,rfl,hcap,hm,hao,hblks⟩:=h1.open_
 obtain⟨ao2,cap2,g2,o2,rfl,hcap2,hm2,hao2,hblks2⟩:=h2.open_
 have hlen:(a.length:Int)<=9223372036854775807:=by unfold maxLen at hm;omega
 have hlen2:(b.length:Int)<=9223372036854775807:=by unfold maxLen at hm2;omega
 by_cases p:i∈ids a
 ·obtain⟨k,hk,e1,f1⟩:=idx_find p
  rw[e1]at ca
  by_cases q:i∈ids b
  ·obtain⟨m,hm',e2,f2⟩:=idx_find q
   rw[e2]at cb
   obtain⟨_,lo,lc,hi,c9⟩:=(hblks k hk).nine hs
   obtain⟨_,lo2,lc2,hi2,d9⟩:=(hblks2 m hm').nine hs
   obtain rfl:=hao (by omega)
   obtain rfl:=hao2 (by omega)
   have HR:Hid (decide (find a i=find b i)=decide (a[k]=b[m])):=Lib.hid (by rw[f1,f2];simp)
   have hC:=fun W hW=>sameR_any a[k] b[m] _ _ hi hi2 W hW
   obtain⟨c0,c1,c2,c3,c4,c5,c6,c7,c8⟩:=c9
   obtain⟨d0,d1,d2,d3,d4,d5,d6,d7,d8⟩:=d9
   clear f1 f2 e1 e2 p q hao hao2 hblks hblks2 h1 h2 hcap hcap2 hm hm2 hi hi2
   have HS:=Lib.hid hs
   have hk0:(0:Int)<=k:=by omega
   have hk1:(k:Int)<a.length:=by omega
   have hm0:(0:Int)<=m:=by omega
   have hm1:(m:Int)<b.length:=by omega
   generalize a[k]=x at *
   generalize b[m]=y at *
   generalize decide (x=y)=q at *
   have HC:=Lib.hid hC
   clear hC hs
   go_enter Tryz.func186,Tryz.ntmps186
   go_wp2_with fail
   refine ca.mono ?_
   rintro e w' ⟨rfl,rfl⟩
   go_wp2_with fail
   refine cb.mono ?_
   rintro e w' ⟨rfl,rfl⟩
   clear ca cb
   go_wp2_with fail
   refine wp_tail 8 (by kernel_rfl) (by kernel_rfl) ?_
   simp only[List.take_succ_cons,List.take_zero,List.drop_succ_cons,List.drop_zero]
   repeat still_step
   refine wpStill_nil ?_
   go_wp2_with fail
   refine(HC.out _ HS.out.drew).mono ?_
   rintro e w3 ⟨rfl,hb3⟩
   go_wp2_with fail
   go_ret
   exact⟨ret_bool HR.out.symm,((Below.refl _ w).drew).trans hb3⟩
  ·obtain⟨e2,f2⟩:=idx_none q
   rw[e2]at cb
   have HR:Hid (decide (find a i=find b i)=false):=Lib.hid (by rw[f1,f2];simp)
   clear f1 f2 e1 e2 p q hao hao2 hblks hblks2 h1 h2 hcap hcap2 hm hm2 hs
   go_enter Tryz.func186,Tryz.ntmps186
   go_wp2_with fail
   refine ca.mono ?_
   rintro e w' ⟨rfl,rfl⟩
   go_wp2_with fail
   refine cb.mono ?_
   rintro e w' ⟨rfl,rfl⟩
   clear ca cb
   go_wp2_with fail
   go_ret
   exact⟨ret_false HR.out,Below.refl _ _⟩
 ·obtain⟨e1,f1⟩:=idx_none p
  rw[e1]at ca
  by_cases q:i∈ids b
  ·obtain⟨m,hm',e2,f2⟩:=idx_find q
   rw[e2]at cb
   have HR:Hid (decide (find a i=find b i)=false):=Lib.hid (by rw[f1,f2];simp)
   clear f1 f2 e1 e2 p q hao hao2 hblks hblks2 h1 h2 hcap hcap2 hm hm2 hs
   go_enter Tryz.func186,Tryz.ntmps186
   go_wp2_with fail
   refine ca.mono ?_
   rintro e w' ⟨rfl,rfl⟩
   go_wp2_with fail
   refine cb.mono ?_
   rintro e w' ⟨rfl,rfl⟩
   clear ca cb
   go_wp2_with fail
   go_ret
   exact⟨ret_false HR.out,Below.refl _ _⟩
  ·obtain⟨e2,f2⟩:=idx_none q
   rw[e2]at cb
   have HR:Hid (decide (find a i=find b i)=true):=Lib.hid (by rw[f1,f2];simp)
   clear f1 f2 e1 e2 p q hao hao2 hblks hblks2 h1 h2 hcap hcap2 hm hm2 hs
   go_enter Tryz.func186,Tryz.ntmps186
   go_wp2_with fail
   refine ca.mono ?_
   rintro e w' ⟨rfl,rfl⟩
   go_wp2_with fail
   refine cb.mono ?_
   rintro e w' ⟨rfl,rfl⟩
   clear ca cb
   go_wp2_with fail
   go_ret
   exact⟨ret_true HR.out,Below.refl _ _⟩
set_option maxRecDepth 10000 in
set_option maxHeartbeats 2000000 in
theorem movedR_any {mem:Addr->Option Value} {v u:Value} {a b:List Blk} (h1:BlksM mem v a) (h2:BlksM mem u b) (w:World) (hs:Sees mem w):
 Calls Tryz.prog 149 #[u,v] w fun e w'=>e=.returned (.bool (movedL (ids b) (-1) (ids a)))/\Below w.heap.size w w':=by
 have HE:=Lib.hid (fun i W hW=>atR_any u b h2 i W hW)
 obtain⟨ao,cap,g,o,rfl,hcap,hm,hao,hblks⟩:=h1.open_
 have hm2:b.length<=maxLen:=by obtain⟨_,_,_,_,_,h3,h4,_⟩:=h2.open_;omega
 obtain⟨ao2,cap2,rfl⟩:=h2.slice
 have HA:=Lib.hid hao
 have HC:=Lib.hid hblks
 have HS:=Lib.hid hs
 have hlen:(a.length:Int)<=9223372036854775807:=by unfold maxLen at hm;omega
 have HL2:Hid ((ids b).length<=9223372036854775807):=Lib.hid (by rw[List.length_map];unfold maxLen at hm2;omega)
 clear hao hblks h1 h2 hs hcap hm hm2
 go_enter Tryz.func149,Tryz.ntmps149
 go_wp2_with fail
 go_loopw [6,5] (fun i l wr=>∃ (k:Nat) (last:Int),k<=a.length/\i=.int .i64 k/\l=.int .i64 last/\-1<=last/\last<=9223372036854775807/\Below w.heap.size w wr/\Hid (movedL (ids b) (-1) (ids a)=movedL (ids b) last ((ids a).drop k))) (fun i _ _=>a.length - (Go.RowKit.intOf i).toNat)
 case atStart=>exact⟨0,-1,Nat.zero_le _,rfl,rfl,by omega,by omega,Below.refl _ _,Lib.hid rfl⟩
 case round=>
  obtain⟨k,last,hk,rfl,rfl,hl0,hl1,hb,hn⟩:=hrel
  by_cases hlt:k<a.length
  ·obtain⟨_,lo,lc,_,c9⟩:=(HC.out k hlt).nine (HS.out.bel hb)
   have c1:=c9.c0
   clear c9
   obtain rfl:=HA.out (by omega)
   have hd:(ids a).drop k=a[k].id::(ids a).drop (k+1):=by
    rw[List.drop_eq_getElem_cons (by rw[List.length_map];exact hlt),List.getElem_map]
   rw[hd]at hn
   clear hd
   generalize a[k].id=y at *
   have hc:=HE.out y wr (HS.out.bel hb)
   have hmv:Hid (movedL (ids b) last (y::(ids a).drop (k+1))=if y∈ids b then (if ((ids b).idxOf y:Int)<last then true else movedL (ids b) ((ids b).idxOf y) ((ids a).drop (k+1))) else movedL (ids b) last ((ids a).drop (k+1))):=Lib.hid rfl
   by_cases hq:y∈ids b
   ·have e1:idxI (ids b) y=((ids b).idxOf y:Nat):=by unfold idxI;rw[if_pos hq]
    have hjl:=List.idxOf_lt_length_iff.2 hq
    have hL2:=HL2.out
    rw[e1]at hc
    have hmv2:=Lib.hid (hn.out.trans hmv.out)
    rw[if_pos hq]at hmv2
    generalize (ids b).idxOf y=j at *
    clear hn hmv hq e1
    by_cases hjj:(j:Int)<last
    ·rw[if_pos hjj]at hmv2
     go_wp2_with fail
     refine hc.mono ?_
     rintro e w2 ⟨rfl,rfl⟩
     clear hc
     go_wp2_with fail
     go_ret
     exact⟨ret_bool hmv2.out.symm,hb⟩
    ·rw[if_neg hjj]at hmv2
     go_wp2_with fail
     refine hc.mono ?_
     rintro e w2 ⟨rfl,rfl⟩
     clear hc
     go_wp2_with fail
     go_roundw
     case rel=>exact⟨k+1,j,by omega,by go_num,rfl,by omega,by omega,hb,hmv2⟩
     case measure=>simp[Go.RowKit.intOf];omega
   ·have e1:idxI (ids b) y=-1:=by unfold idxI;rw[if_neg hq]
    rw[e1]at hc
    have hmv2:=Lib.hid (hn.out.trans hmv.out)
    rw[if_neg hq]at hmv2
    clear hn hmv hq e1
    go_wp2_with fail
    refine hc.mono ?_
    rintro e w2 ⟨rfl,rfl⟩
    clear hc
    go_wp2_with fail
    go_roundw
    case rel=>exact⟨k+1,last,by omega,by go_num,rfl,by omega,by omega,hb,hmv2⟩
    case measure=>simp[Go.RowKit.intOf];omega
  ·have e:k=a.length:=by omega
   subst e
   have HF:Hid (movedL (ids b) (-1) (ids a)=false):=Lib.hid (by
    rw[hn.out,List.drop_of_length_le (by rw[List.length_map];omega)];rfl)
   go_wp2_with fail
   go_ret
   exact⟨ret_bool HF.out.symm,hb⟩
def anyId (X Y Z:List Blk) (i:Int):Bool:=decide (i∈ids X) || decide (i∈ids Y) || decide (i∈ids Z)
def idsTo (X Y Z:List Blk) (k:Nat):List Int:=((List.range k).map fun n:Nat=>(n:Int)+1).filter (anyId X Y Z)
theorem idsTo_step (X Y Z:List Blk) (k:Nat):idsTo X Y Z (k+1)=idsTo X Y Z k++if anyId X Y Z ((k:Int)+1)=true then [(k:Int)+1] else []:=by
 unfold idsTo
 rw[List.range_succ,List.map_append,List.filter_append]
 congr 1
 by_cases h:anyId X Y Z ((k:Int)+1)=true
 ·rw[if_pos h]
  exact List.filter_cons_of_pos h
 ·rw[if_neg h]
  exact List.filter_cons_of_neg h
theorem idsTo_len (X Y Z:List Blk) (k:Nat):(idsTo X Y Z k).length<=k:=by
 unfold idsTo
 have:=List.length_filter_le (anyId X Y Z) ((List.range k).map fun n:Nat=>(n:Int)+1)
 rwa [List.length_map,List.length_range]at this
theorem idxI_in {l:List Int} {i:Int} (h:i∈l):∃ j:Nat,idxI l i=j:=⟨l.idxOf i,by unfold idxI;rw[if_pos h]⟩
theorem idxI_out {l:List Int} {i:Int} (h:i∉l):idxI l i=-1:=by unfold idxI;rw[if_neg h]
set_option maxRecDepth 10000 in
set_option maxHeartbeats 8000000 in
theorem idsR_any {mem:Addr->Option Value} {v1 v2 v3:Value} {X Y Z:List Blk} (h1:BlksM mem v1 X) (h2:BlksM mem v2 Y) (h3:BlksM mem v3 Z) (w:World) (hs:Sees mem w):
 Calls Tryz.prog 147 #[v1,v2,v3] w fun e w'=>∃ u,e=.returned u/\IRow w' w.heap.size u (idsTo X Y Z 1000)/\Below w.heap.size w w':=by
 have HC1:=Lib.hid (fun i W hW=>atR_any v1 X h1 i W hW)
 have HC2:=Lib.hid (fun i W hW=>atR_any v2 Y h2 i W hW)
 have HC3:=Lib.hid (fun i W hW=>atR_any v3 Z h3 i W hW)
 obtain⟨a1,n1,rfl⟩:=h1.slice
 obtain⟨a2,n2,rfl⟩:=h2.slice
 obtain⟨a3,n3,rfl⟩:=h3.slice
 have HS:=Lib.hid hs
 have H0:Hid (IRow w w.heap.size (.slice none 0 0) (idsTo X Y Z 0)):=Lib.hid (World.ownsRow_nil _ _ _ _)
 clear h1 h2 h3 hs
 go_enter Tryz.func147,Tryz.ntmps147
 go_wp2_with fail
 go_loopw [8,7] (fun i r wr=>∃ k:Nat,k<=1000/\i=.int .i64 ((k:Int)+1)/\(∃ ra rn rc,r=.slice ra rn rc)/\Below w.heap.size w wr/\Hid (IRow wr w.heap.size r (idsTo X Y Z k))) (fun i _ _=>1001 - (Go.RowKit.intOf i).toNat)
 case atStart=>exact⟨0,by omega,rfl,⟨_,_,_,rfl⟩,Below.refl _ _,H0⟩
 case round=>
  obtain⟨k,hk,rfl,⟨ra,rn,rc,rfl⟩,hb,hR⟩:=hrel
  have hw:=hb.size
  by_cases hlt:k<1000
  ·have hll:(idsTo X Y Z k).length<=100000:=by have:=idsTo_len X Y Z k;omega
   have c1:=HC1.out ((k:Int)+1) wr (HS.out.bel hb)
   have c2:=HC2.out ((k:Int)+1) wr (HS.out.bel hb)
   have c3:=HC3.out ((k:Int)+1) wr (HS.out.bel hb)
   by_cases p0:(k:Int)+1∈ids X
   ·skip
    obtain⟨j0,e0⟩:=idxI_in p0
    rw[e0]at c1
    clear e0
    have ha:anyId X Y Z ((k:Int)+1)=true:=by unfold anyId;simp[p0]
    have hst:idsTo X Y Z (k+1)=idsTo X Y Z k++[(k:Int)+1]:=by rw[idsTo_step,if_pos ha]
    clear ha p0 c2 c3
    go_wp2_with fail
    refine c1.mono ?_
    rintro e w' ⟨rfl,rfl⟩
    clear c1
    go_wp2_with (at_builtin;refine wpList_app_int rfl _ _ rfl w.heap.size _ _ rfl (IRow.alloc hR.out _) ((k:Int)+1) wr.heap.size 1 rfl (cell_new rfl rfl) hll (by simp;omega) ?_;intro v2 w2 h2 hg2 _;have HR2:=Lib.hid (by rw[hst];exact h2:IRow w2 w.heap.size v2 (idsTo X Y Z (k+1)));have hb2:Below w.heap.size w w2:=(hb.alloc hw _).grown hg2 (by simp;omega) (fun j e=>IRow.ge hR.out j e);obtain⟨qa,qn,qc,rfl⟩:=h2.sl;clear h2 hg2)
    go_roundw
    case rel=>exact⟨k+1,by omega,by go_num,⟨_,_,_,rfl⟩,hb2,HR2⟩
    case measure=>simp[Go.RowKit.intOf];omega
   ·by_cases p1:(k:Int)+1∈ids Y
    ·skip
     rw[idxI_out p0]at c1
     obtain⟨j1,e1⟩:=idxI_in p1
     rw[e1]at c2
     clear e1
     have ha:anyId X Y Z ((k:Int)+1)=true:=by unfold anyId;simp[p0,p1]
     have hst:idsTo X Y Z (k+1)=idsTo X Y Z k++[(k:Int)+1]:=by rw[idsTo_step,if_pos ha]
     clear ha p0 p1 c3
     go_wp2_with fail
     refine c1.mono ?_
     rintro e w' ⟨rfl,rfl⟩
     clear c1
     go_wp2_with fail
     refine c2.mono ?_
     rintro e w' ⟨rfl,rfl⟩
     clear c2
     go_wp2_with (at_builtin;refine wpList_app_int rfl _ _ rfl w.heap.size _ _ rfl (IRow.alloc hR.out _) ((k:Int)+1) wr.heap.size 1 rfl (cell_new rfl rfl) hll (by simp;omega) ?_;intro v2 w2 h2 hg2 _;have HR2:=Lib.hid (by rw[hst];exact h2:IRow w2 w.heap.size v2 (idsTo X Y Z (k+1)));have hb2:Below w.heap.size w w2:=(hb.alloc hw _).grown hg2 (by simp;omega) (fun j e=>IRow.ge hR.out j e);obtain⟨qa,qn,qc,rfl⟩:=h2.sl;clear h2 hg2)
     go_roundw
     case rel=>exact⟨k+1,by omega,by go_num,⟨_,_,_,rfl⟩,hb2,HR2⟩
     case measure=>simp[Go.RowKit.intOf];omega
    ·by_cases p2:(k:Int)+1∈ids Z
     ·skip
      rw[idxI_out p0]at c1
      rw[idxI_out p1]at c2
      obtain⟨j2,e2⟩:=idxI_in p2
      rw[e2]at c3
      clear e2
      have ha:anyId X Y Z ((k:Int)+1)=true:=by unfold anyId;simp[p0,p1,p2]
      have hst:idsTo X Y Z (k+1)=idsTo X Y Z k++[(k:Int)+1]:=by rw[idsTo_step,if_pos ha]
      clear ha p0 p1 p2
      go_wp2_with fail
      refine c1.mono ?_
      rintro e w' ⟨rfl,rfl⟩
      clear c1
      go_wp2_with fail
      refine c2.mono ?_
      rintro e w' ⟨rfl,rfl⟩
      clear c2
      go_wp2_with fail
      refine c3.mono ?_
      rintro e w' ⟨rfl,rfl⟩
      clear c3
      go_wp2_with (at_builtin;refine wpList_app_int rfl _ _ rfl w.heap.size _ _ rfl (IRow.alloc hR.out _) ((k:Int)+1) wr.heap.size 1 rfl (cell_new rfl rfl) hll (by simp;omega) ?_;intro v2 w2 h2 hg2 _;have HR2:=Lib.hid (by rw[hst];exact h2:IRow w2 w.heap.size v2 (idsTo X Y Z (k+1)));have hb2:Below w.heap.size w w2:=(hb.alloc hw _).grown hg2 (by simp;omega) (fun j e=>IRow.ge hR.out j e);obtain⟨qa,qn,qc,rfl⟩:=h2.sl;clear h2 hg2)
      go_roundw
      case rel=>exact⟨k+1,by omega,by go_num,⟨_,_,_,rfl⟩,hb2,HR2⟩
      case measure=>simp[Go.RowKit.intOf];omega
     ·skip
      rw[idxI_out p0]at c1
      rw[idxI_out p1]at c2
      rw[idxI_out p2]at c3
      have ha:¬ anyId X Y Z ((k:Int)+1)=true:=by unfold anyId;simp[p0,p1,p2]
      have hst:idsTo X Y Z (k+1)=idsTo X Y Z k:=by rw[idsTo_step,if_neg ha,List.append_nil]
      clear ha p0 p1 p2
      go_wp2_with fail
      refine c1.mono ?_
      rintro e w' ⟨rfl,rfl⟩
      clear c1
      go_wp2_with fail
      refine c2.mono ?_
      rintro e w' ⟨rfl,rfl⟩
      clear c2
      go_wp2_with fail
      refine c3.mono ?_
      rintro e w' ⟨rfl,rfl⟩
      clear c3
      have HR2:=Lib.hid (by rw[hst];exact hR.out:IRow wr w.heap.size (.slice ra rn rc) (idsTo X Y Z (k+1)))
      go_wp2_with fail
      go_roundw
      case rel=>exact⟨k+1,by omega,by go_num,⟨_,_,_,rfl⟩,hb,HR2⟩
      case measure=>simp[Go.RowKit.intOf];omega
  ·have e:k=1000:=by omega
   subst e
   go_wp2_with fail
   go_ret
   exact⟨_,rfl,hR.out,hb⟩
end Go.Proofs.YtdkkhmjlamkgdaaGreatDoor
namespace Go.Proofs.YtdkkhmjlamkgdaaGreatDoor
open Go.RowKit Mg
def pk (X Y Z:List Blk) (i:Int):Option Blk:=(pickAt X Y Z i).1
theorem pk_id {X Y Z:List Blk} {i:Int} {x:Blk} (h:pk X Y Z i=some x):x.id=i:=(pickAt_id h).1
theorem has_pk {X Y Z:List Blk} {i:Int}:hasAt X Y Z i=(pk X Y Z i).isSome:=rfl
theorem idsTo_nodup (X Y Z:List Blk) (k:Nat):(idsTo X Y Z k).Nodup:=by
 unfold idsTo
 refine List.Pairwise.filter _ ?_
 rw[List.pairwise_map]
 exact(List.nodup_range (n:=k)).imp (fun h e=>h (by omega))
theorem mem_idsTo {X Y Z:List Blk} {k:Nat} {i:Int}:i∈idsTo X Y Z k↔(1<=i/\i<=k)/\anyId X Y Z i=true:=by
 unfold idsTo
 rw[List.mem_filter,List.mem_map]
 refine and_congr_left fun _=>⟨?_,fun ⟨h1,h2⟩=>⟨(i - 1).toNat,by rw[List.mem_range];omega,by omega⟩⟩
 rintro ⟨n,hn,rfl⟩
 have:=List.mem_range.1 hn
 omega
theorem count_has {X Y Z:List Blk} (h2:ValidL Y) (h3:ValidL Z):((idsTo X Y Z 1000).filter (hasAt X Y Z)).length=(merged X Y Z).length:=by
 rw[merged_length h2.2.2 h3.2.2]
 obtain⟨hn,hm⟩:=orderOf_inv (base:=X) h2.2.2 h3.2.2
 refine perm_length ((idsTo_nodup X Y Z 1000).filter _) hn fun y=>?_
 rw[hm,List.mem_filter,mem_idsTo]
 refine⟨fun h=>h.2,fun h=>⟨?_,h⟩⟩
 have hin:=has_in h
 have hr:1<=y/\y<=1000:=hin.elim (h2.range y) (h3.range y)
 refine⟨by omega,?_⟩
 unfold anyId
 rcases hin with h | h <;> simp[h]
theorem confs_ids (X Y Z:List Blk):(idsTo X Y Z 1000).filter (fun i=>(pickAt X Y Z i).2)=confs X Y Z:=by
 unfold idsTo confs
 rw[List.filter_filter]
 refine List.filter_congr fun i _=>?_
 rw[Bool.eq_iff_iff,Bool.and_eq_true]
 refine⟨fun h=>h.1,fun h=>⟨h,?_⟩⟩
 unfold anyId
 rcases conflict_in h with h | h | h <;> simp[h]
def leadOf (X Y Z:List Blk):List Int:=if Keeps (ids Z) (ids X) then ids Y else ids Z
def follOf (X Y Z:List Blk):List Int:=if Keeps (ids Z) (ids X) then ids Z else ids Y
theorem ref_merged {X Y Z:List Blk} (h2:ValidL Y) (h3:ValidL Z):
 ((follOf X Y Z).foldl (refStep (hasAt X Y Z) (leadOf X Y Z)) ((leadOf X Y Z).filter (hasAt X Y Z),-1)).1.filterMap (pk X Y Z)=merged X Y Z:=by
 have hr2:=h2.range
 have hr3:=h3.range
 have e:((follOf X Y Z).foldl (refStep (hasAt X Y Z) (leadOf X Y Z)) ((leadOf X Y Z).filter (hasAt X Y Z),-1)).1=orderOf X Y Z:=by
  unfold orderOf leadOf follOf
  by_cases h:Keeps (ids Z) (ids X)
  ·rw[if_pos h,if_pos h,if_pos h]
   exact ref_order h2.2.2 h3.2.2 (fun i hi=>(hr2 i hi).1) (fun i hi=>(hr3 i hi).1)
  ·rw[if_neg h,if_neg h,if_neg h]
   exact ref_order h3.2.2 h2.2.2 (fun i hi=>(hr3 i hi).1) (fun i hi=>(hr2 i hi).1)
 rw[e]
 rfl
def AllHas (X Y Z:List Blk) (s:List Int):Prop:=∀ i∈s,(pk X Y Z i).isSome=true
theorem AllHas.take {X Y Z:List Blk} {s:List Int} (h:AllHas X Y Z s) (k:Nat):AllHas X Y Z (s.take k):=fun i hi=>h i (List.mem_of_mem_take hi)
theorem ids_of {X Y Z:List Blk} {s:List Int} (h:AllHas X Y Z s):ids (s.filterMap (pk X Y Z))=s:=ids_filterMap _ (fun _ _ e=>pk_id e) s h
theorem fm_len {X Y Z:List Blk} {s:List Int} (h:AllHas X Y Z s):(s.filterMap (pk X Y Z)).length=s.length:=by
 have e:=congrArg List.length (ids_of h)
 rwa [List.length_map]at e
theorem fm_take {X Y Z:List Blk} {s:List Int} (h:AllHas X Y Z s) (k:Nat):(s.filterMap (pk X Y Z)).take k=(s.take k).filterMap (pk X Y Z)/\(s.filterMap (pk X Y Z)).drop k=(s.drop k).filterMap (pk X Y Z):=by
 by_cases hk:k<=s.length
 ·have e:s.filterMap (pk X Y Z)=(s.take k).filterMap (pk X Y Z)++(s.drop k).filterMap (pk X Y Z):=by rw[<-List.filterMap_append,List.take_append_drop]
  have l:((s.take k).filterMap (pk X Y Z)).length=k:=by rw[fm_len (h.take k),List.length_take];omega
  rw[e]
  exact⟨List.take_left' l,List.drop_left' l⟩
 ·have l:=fm_len h
  rw[List.take_of_length_le (by omega),List.drop_of_length_le (by omega),List.take_of_length_le (by omega),List.drop_of_length_le (by omega)]
  exact⟨rfl,rfl⟩
def refSt (X Y Z:List Blk) (lead foll:List Int) (k:Nat):List Int × Int:=(foll.take k).foldl (refStep (hasAt X Y Z) lead) (lead.filter (hasAt X Y Z),-1)
theorem refSt_succ {X Y Z:List Blk} {lead foll:List Int} {k:Nat} (hk:k<foll.length):refSt X Y Z lead foll (k+1)=refStep (hasAt X Y Z) lead (refSt X Y Z lead foll k) foll[k]:=by
 unfold refSt
 rw[List.take_succ_eq_append_getElem hk,List.foldl_append];rfl
theorem refSt_all (X Y Z:List Blk) (lead foll:List Int):AllHas X Y Z (refSt X Y Z lead foll 0).1/\∀ k,k<=foll.length->AllHas X Y Z (refSt X Y Z lead foll k).1:=by
 have h0:AllHas X Y Z (refSt X Y Z lead foll 0).1:=fun i hi=>(List.mem_filter.1 hi).2
 refine⟨h0,fun k=>?_⟩
 induction k with
 |zero=>intro _;exact h0
 |succ k ih=>
  intro hk
  rw[refSt_succ (by omega)]
  have ih:=ih (by omega)
  unfold refStep
  intro i hi
  by_cases h:hasAt X Y Z foll[k]=true/\foll[k]∉lead
  ·simp only[if_pos h]at hi
   rcases insAt_mem.1 hi with e | e
   ·rw[e];exact h.1
   ·exact ih i e
  ·simp only[if_neg h]at hi
   exact ih i hi
theorem refSt_len (X Y Z:List Blk) (lead foll:List Int):∀ k,(refSt X Y Z lead foll k).1.length<=lead.length+k:=by
 intro k
 induction k with
 |zero=>exact List.length_filter_le _ _
 |succ k ih=>
  by_cases hk:k<foll.length
  ·rw[refSt_succ hk]
   unfold refStep
   simp only
   split
   ·rw[insAt_length];omega
   ·omega
  ·have:refSt X Y Z lead foll (k+1)=refSt X Y Z lead foll k:=by unfold refSt;rw[List.take_of_length_le (by omega),List.take_of_length_le (by omega)]
   rw[this];omega
theorem placeI_bound (s:List Int) (x:Int):0<=placeI s x+1/\placeI s x+1<=s.length:=by
 unfold placeI
 split
 ·next h=>have:=List.idxOf_lt_length_iff.2 h;omega
 ·omega
end Go.Proofs.YtdkkhmjlamkgdaaGreatDoor
namespace Go.Proofs.YtdkkhmjlamkgdaaGreatDoor
open Go.RowKit Mg Go.Shelf
section
variable {ops:Array Oper} {rest:List Oper} {o:Oper} {a:Act} {w:World} {Q:Exit->Act->World->Prop} {mem:Addr->Option Value}
theorem BVals.one:∀ {l:List Blk} {vs:List Value},BVals mem l vs->∀ u∈vs,u.oneCell'=true
 |[],_,h,u,hu=>by have h:_=[]:=h;subst h;cases hu
 |x::l,_,⟨ao,cap,rest,h1,h2,h3⟩,u,hu=>by
  subst h2
  rcases List.mem_append.1 hu with hu | hu
  ·simp only[blkVals,List.mem_cons,List.not_mem_nil,or_false]at hu
   rcases hu with rfl | rfl | rfl | rfl | rfl | rfl | rfl | rfl | rfl <;> rfl
  ·exact BVals.one h3 u hu
theorem BVals.app:∀ {l m:List Blk} {vs us:List Value},BVals mem l vs->BVals mem m us->BVals mem (l++m) (vs++us)
 |[],_,_,_,h,k=>by have h:_=[]:=h;subst h;exact k
 |x::l,_,_,_,⟨ao,cap,rest,h1,h2,h3⟩,k=>by
  subst h2
  exact⟨ao,cap,_,h1,by rw[List.append_assoc],BVals.app h3 k⟩
theorem BVals.take:∀ {l:List Blk} {vs:List Value} (_:BVals mem l vs) (k:Nat),BVals mem (l.take k) (vs.take (k * 9))
 |[],_,h,k=>by have h:_=[]:=h;subst h;rw[List.take_nil,List.take_nil];rfl
 |x::l,_,⟨ao,cap,rest,h1,h2,h3⟩,0=>by rw[Nat.zero_mul,List.take_zero,List.take_zero];rfl
 |x::l,_,⟨ao,cap,rest,h1,h2,h3⟩,k+1=>by
  subst h2
  refine⟨ao,cap,rest.take (k * 9),h1,?_,BVals.take h3 k⟩
  rw[List.take_append,List.take_of_length_le (by show 9<=_;omega)]
  congr 2
  show (k+1) * 9 - 9=_
  omega
theorem BVals.drop:∀ {l:List Blk} {vs:List Value} (_:BVals mem l vs) (k:Nat),BVals mem (l.drop k) (vs.drop (k * 9))
 |[],_,h,k=>by have h:_=[]:=h;subst h;rw[List.drop_nil,List.drop_nil];rfl
 |x::l,_,⟨ao,cap,rest,h1,h2,h3⟩,0=>by rw[Nat.zero_mul,List.drop_zero,List.drop_zero];exact⟨ao,cap,rest,h1,h2,h3⟩
 |x::l,_,⟨ao,cap,rest,h1,h2,h3⟩,k+1=>by
  subst h2
  have e0:(blkVals x (.slice ao x.lab.after.length cap)).length<=(k+1) * 9:=by show 9<=_;omega
  rw[List.drop_append,List.drop_of_length_le e0,List.nil_append]
  have e:(k+1) * 9 - (blkVals x (.slice ao x.lab.after.length cap)).length=k * 9:=by show (k+1) * 9 - 9=_;omega
  rw[e]
  exact BVals.drop h3 k
theorem Reads.pre {B size n:Nat} {A:Option Addr} {xs:List Value} (h:Reads w B size A n xs) {k:Nat} (hk:k<=n):Reads w B size A k (xs.take (k * size)):=by
 refine⟨?_,fun h0=>?_⟩
 ·rw[List.length_take,h.1]
  have:=Nat.mul_le_mul_right size hk
  omega
 ·obtain⟨ad,e,hb,hc⟩:=h.2 (by omega)
  refine⟨ad,e,hb,fun j u hu=>hc j u ?_⟩
  rw[List.getElem?_take]at hu
  split at hu
  ·exact hu
  ·cases hu
theorem wpList_app_sblks (hgd:o.guard=none) (s x:Operand) (ho:o.op=.call { callee:=.builtin .append,args:=#[s,x],argTypes:=#[37,37] })
 (B:Nat) (v:Value) (l:List Blk) (hs:a.eval s=v) (hown:MRow mem w B v l) (m:List Blk) (us:List Value) (B2:Nat) (A:Option Addr) (n c:Nat) (hx:a.eval x=.slice A n c) (hn:n=m.length) (hr:Reads w B2 9 A m.length us) (hu:BVals mem m us) (hlen:l.length+m.length<=100000) (hB:B<=w.heap.size)
 (h:∀ v' w',MRow mem w' B v' (l++m)->w.grownBy w' v.ownBlock->wpList Tryz.prog ops Q rest (a.put o.dst v') w'):wpList Tryz.prog ops Q (o::rest) a w:=by
 obtain⟨i0,hi0,hz0,hz1,hz2⟩:=info_parts blk_info
 obtain⟨vs,h1,h2⟩:=hown
 subst hn
 refine wpList_append_any w hgd s x 37 ho B 58 i0 _ 9 96 Tryz.underlying37 hi0 hz0 hz1 hz2 rfl (by decide) v l.length vs hs h1 B2 A m.length c us hx hr hu.one (by unfold maxLen;omega) (by omega) hB ?_
 intro v' w' g1 g2 _
 exact h v' w' ⟨_,by rw[List.length_append];exact g1,h2.app hu⟩ g2
theorem MRow.reads {B:Nat} {A:Option Addr} {n c:Nat} {l:List Blk} (h:MRow mem w B (.slice A n c) l):∃ vs,n=l.length/\n<=c/\c<=maxLen/\Reads w w.heap.size 9 A l.length vs/\BVals mem l vs:=by
 obtain⟨vs,h1,h2⟩:=h
 have hn:n=l.length/\n<=c/\c<=maxLen:=by
  rcases h1.2 with ⟨e,hz⟩ | ⟨g,cap,cur,e,_,_,hnc,hc,_⟩
  ·injection e with _ e1 e2
   subst e1 e2
   exact⟨hz.symm,Nat.le_refl _,Nat.zero_le _⟩
  ·injection e with _ e1 e2
   subst e1 e2
   exact⟨rfl,hnc,hc⟩
 obtain⟨rfl,k1,k2⟩:=hn
 exact⟨vs,rfl,k1,k2,Reads.of_own h1,h2⟩
end
def ChV (mem:Addr->Option Value) (v:Value):Option Blk->Prop
 |none=>v=.agg #[.int .i64 0,.int .i64 0,.string .empty,.int .i64 0,.int .i64 0,.int .i64 0,.slice none 0 0,.int .i64 0,.int .i64 0]
 |some x=>∃ ao cap,IntsM mem (.slice ao x.lab.after.length cap) x.lab.after/\v=.agg (blkCells x (.slice ao x.lab.after.length cap))
def ChPost (mem:Addr->Option Value) (p:Option Blk × Bool) (w:World) (e:Ending) (w':World):Prop:=∃ v,e=.returned (.tuple #[v,.bool p.1.isSome,.bool p.2])/\ChV mem v p.1/\Below w.heap.size w w'
set_option maxRecDepth 100000 in
set_option maxHeartbeats 8000000 in
theorem chosenR_11 {mem:Addr->Option Value} {v1 v2 v3:Value} {X Y Z:List Blk} (h1:BlksM mem v1 X) (h2:BlksM mem v2 Y) (h3:BlksM mem v3 Z) (i:Int) (w:World) (hs:Sees mem w) (pY:i∈ids Y) (pZ:i∈ids Z):
 Calls Tryz.prog 148 #[v1,v2,v3,.int .i64 i] w (ChPost mem (pickAt X Y Z i) w):=by
 have cy:=fun W hW=>atR_any v2 Y h2 i W hW
 have cz:=fun W hW=>atR_any v3 Z h3 i W hW
 have q1:=fun W hW=>equalR_any h1 h2 i W hW
 have q2:=fun W hW=>equalR_any h1 h3 i W hW
 have q3:=fun W hW=>equalR_any h2 h3 i W hW
 obtain⟨a1,n1,rfl⟩:=h1.slice
 obtain⟨ao2,cap2,g2,o2,rfl,_,hm2,HAOY,HBY⟩:=h2.open_
 obtain⟨ao3,cap3,g3,o3,rfl,_,hm3,HAOZ,HBZ⟩:=h3.open_
 have hlY:(Y.length:Int)<=9223372036854775807:=by unfold maxLen at hm2;omega
 have hlZ:(Z.length:Int)<=9223372036854775807:=by unfold maxLen at hm3;omega
 unfold pickAt
 obtain⟨kY,hY,eY,fY⟩:=idx_find pY
 obtain⟨kZ,hZ,eZ,fZ⟩:=idx_find pZ
 rw[eY]at cy
 rw[eZ]at cz
 clear h1 h2 h3 hm2 hm3 pY pZ eY eZ
 by_cases d1:find X i=find Y i
 ·skip
  have hres:pick (find X i) (find Y i) (find Z i)=(some Z[kZ],false):=by
   unfold pick;rw[if_pos d1.symm,fZ]
  rw[hres]
  rw[decide_eq_true d1]at q1
  clear hres d1 fY fZ
  have hbZ:=HBZ kZ hZ
  obtain⟨_,lo,lc,hi,c9⟩:=hbZ.nine hs
  obtain rfl:=HAOZ (by omega)
  have HI:=Lib.hid hi
  have HN:=Lib.hid (fun W (hW:Below w.heap.size w W)=>cells9_below c9 hW (cell_lt c9.c0))
  have k0:(0:Int)<=kZ:=by omega
  have k1:(kZ:Int)<Z.length:=by omega
  generalize Z[kZ]=x at *
  clear hi c9 hbZ
  have HS:=Lib.hid hs
  clear HBY HBZ HAOY HAOZ hs q2 q3
  go_enter Tryz.func148,Tryz.ntmps148
  go_wp2_with fail
  obtain⟨W1,HW1⟩:=named (w.alloc (.cells #[.int .i64 0,.int .i64 0,.string ⟨#[]⟩,.int .i64 0,.int .i64 0,.int .i64 0,.slice none 0 0,.int .i64 0,.int .i64 0] 58))
  rw[<-HW1.out]
  have hb1:Below w.heap.size w W1:=by rw[HW1.out];exact(Below.refl _ w).alloc (Nat.le_refl _) _
  have hz1:W1.heap.size=w.heap.size+1:=by rw[HW1.out];simp
  have br:W1.heap[w.heap.size]?=some (.cells #[.int .i64 0,.int .i64 0,.string ⟨#[]⟩,.int .i64 0,.int .i64 0,.int .i64 0,.slice none 0 0,.int .i64 0,.int .i64 0] 58 (0,0)):=by rw[HW1.out];exact World.alloc_heap_new w _
  have hs1:=HS.out.bel hb1
  clear HW1 HS
  refine(cy W1 hs1).mono ?_
  rintro e w' ⟨rfl,rfl⟩
  go_wp2_with fail
  refine(cz W1 hs1).mono ?_
  rintro e w' ⟨rfl,rfl⟩
  clear cy cz
  go_wp2_with fail
  refine(q1 W1 hs1).mono ?_
  rintro e w1 ⟨rfl,hb⟩
  have hz:=hb.size
  clear q1
  have hBF:=hb1.trans (hb.mono (by omega))
  have br3:=(hb.block _ (by omega)).trans br
  have r0:=blk_cell br3 0
  have r1:=blk_cell br3 1
  have r2:=blk_cell br3 2
  have r3:=blk_cell br3 3
  have r4:=blk_cell br3 4
  have r5:=blk_cell br3 5
  have r6:=blk_cell br3 6
  have r7:=blk_cell br3 7
  have r8:=blk_cell br3 8
  simp only[List.getElem?_toArray,List.getElem?_cons_zero,List.getElem?_cons_succ]at r0 r1 r2 r3 r4 r5 r6 r7 r8
  have rf:=blk_free br3
  obtain⟨c0,c1,c2,c3,c4,c5,c6,c7,c8⟩:=HN.out w1 hBF
  clear HN
  clear br br3 hs1
  go_wp2_with fail
  refine bodyPost_ret (v:=.tuple #[.agg (blkCells x (.slice lo x.lab.after.length lc)),.bool true,.bool false]) (by simp[results,Tryz.results148,go_sem,r0,r1,r2,r3,r4,r5,r6,r7,r8]) rfl ?_
  refine⟨_,rfl,⟨lo,lc,HI.out,rfl⟩,?_⟩
  iterate 9 refine Below.setCell ?_ (by simp <;> omega) _
  exact hBF
 ·by_cases d2:find X i=find Z i
  ·by_cases d3:find Y i=find Z i
   ·skip
    have hres:pick (find X i) (find Y i) (find Z i)=(some Y[kY],false):=by
     unfold pick;rw[if_neg (fun e=>d1 e.symm),if_pos (.inl d2.symm),fY]
    rw[hres]
    rw[decide_eq_false d1]at q1
    rw[decide_eq_true d2]at q2
    rw[decide_eq_true d3]at q3
    clear hres d1 d2 d3 fY fZ
    have hbY:=HBY kY hY
    obtain⟨_,lo,lc,hi,c9⟩:=hbY.nine hs
    obtain rfl:=HAOY (by omega)
    have HI:=Lib.hid hi
    have HN:=Lib.hid (fun W (hW:Below w.heap.size w W)=>cells9_below c9 hW (cell_lt c9.c0))
    have k0:(0:Int)<=kY:=by omega
    have k1:(kY:Int)<Y.length:=by omega
    generalize Y[kY]=x at *
    clear hi c9 hbY
    have HS:=Lib.hid hs
    clear HBY HBZ HAOY HAOZ hs
    go_enter Tryz.func148,Tryz.ntmps148
    go_wp2_with fail
    obtain⟨W1,HW1⟩:=named (w.alloc (.cells #[.int .i64 0,.int .i64 0,.string ⟨#[]⟩,.int .i64 0,.int .i64 0,.int .i64 0,.slice none 0 0,.int .i64 0,.int .i64 0] 58))
    rw[<-HW1.out]
    have hb1:Below w.heap.size w W1:=by rw[HW1.out];exact(Below.refl _ w).alloc (Nat.le_refl _) _
    have hz1:W1.heap.size=w.heap.size+1:=by rw[HW1.out];simp
    have br:W1.heap[w.heap.size]?=some (.cells #[.int .i64 0,.int .i64 0,.string ⟨#[]⟩,.int .i64 0,.int .i64 0,.int .i64 0,.slice none 0 0,.int .i64 0,.int .i64 0] 58 (0,0)):=by rw[HW1.out];exact World.alloc_heap_new w _
    have hs1:=HS.out.bel hb1
    clear HW1 HS
    refine(cy W1 hs1).mono ?_
    rintro e w' ⟨rfl,rfl⟩
    go_wp2_with fail
    refine(cz W1 hs1).mono ?_
    rintro e w' ⟨rfl,rfl⟩
    clear cy cz
    go_wp2_with fail
    refine(q1 W1 hs1).mono ?_
    rintro e w1 ⟨rfl,hb⟩
    have hz:=hb.size
    go_wp2_with fail
    refine(q2 w1 (hs1.bel hb)).mono ?_
    rintro e w2 ⟨rfl,hb'⟩
    replace hb:=hb.trans (hb'.mono hz)
    replace hz:=hb.size
    clear hb'
    go_wp2_with fail
    refine(q3 w2 (hs1.bel hb)).mono ?_
    rintro e w3 ⟨rfl,hb'⟩
    replace hb:=hb.trans (hb'.mono hz)
    replace hz:=hb.size
    clear hb'
    clear q1 q2 q3
    have hBF:=hb1.trans (hb.mono (by omega))
    have br3:=(hb.block _ (by omega)).trans br
    have r0:=blk_cell br3 0
    have r1:=blk_cell br3 1
    have r2:=blk_cell br3 2
    have r3:=blk_cell br3 3
    have r4:=blk_cell br3 4
    have r5:=blk_cell br3 5
    have r6:=blk_cell br3 6
    have r7:=blk_cell br3 7
    have r8:=blk_cell br3 8
    simp only[List.getElem?_toArray,List.getElem?_cons_zero,List.getElem?_cons_succ]at r0 r1 r2 r3 r4 r5 r6 r7 r8
    have rf:=blk_free br3
    obtain⟨c0,c1,c2,c3,c4,c5,c6,c7,c8⟩:=HN.out w3 hBF
    clear HN
    clear br br3 hs1
    go_wp2_with fail
    refine bodyPost_ret (v:=.tuple #[.agg (blkCells x (.slice lo x.lab.after.length lc)),.bool true,.bool false]) (by simp[results,Tryz.results148,go_sem,r0,r1,r2,r3,r4,r5,r6,r7,r8]) rfl ?_
    refine⟨_,rfl,⟨lo,lc,HI.out,rfl⟩,?_⟩
    iterate 9 refine Below.setCell ?_ (by simp <;> omega) _
    exact hBF
   ·skip
    have hres:pick (find X i) (find Y i) (find Z i)=(some Y[kY],false):=by
     unfold pick;rw[if_neg (fun e=>d1 e.symm),if_pos (.inl d2.symm),fY]
    rw[hres]
    rw[decide_eq_false d1]at q1
    rw[decide_eq_true d2]at q2
    rw[decide_eq_false d3]at q3
    clear hres d1 d2 d3 fY fZ
    have hbY:=HBY kY hY
    obtain⟨_,lo,lc,hi,c9⟩:=hbY.nine hs
    obtain rfl:=HAOY (by omega)
    have HI:=Lib.hid hi
    have HN:=Lib.hid (fun W (hW:Below w.heap.size w W)=>cells9_below c9 hW (cell_lt c9.c0))
    have k0:(0:Int)<=kY:=by omega
    have k1:(kY:Int)<Y.length:=by omega
    generalize Y[kY]=x at *
    clear hi c9 hbY
    have HS:=Lib.hid hs
    clear HBY HBZ HAOY HAOZ hs
    go_enter Tryz.func148,Tryz.ntmps148
    go_wp2_with fail
    obtain⟨W1,HW1⟩:=named (w.alloc (.cells #[.int .i64 0,.int .i64 0,.string ⟨#[]⟩,.int .i64 0,.int .i64 0,.int .i64 0,.slice none 0 0,.int .i64 0,.int .i64 0] 58))
    rw[<-HW1.out]
    have hb1:Below w.heap.size w W1:=by rw[HW1.out];exact(Below.refl _ w).alloc (Nat.le_refl _) _
    have hz1:W1.heap.size=w.heap.size+1:=by rw[HW1.out];simp
    have br:W1.heap[w.heap.size]?=some (.cells #[.int .i64 0,.int .i64 0,.string ⟨#[]⟩,.int .i64 0,.int .i64 0,.int .i64 0,.slice none 0 0,.int .i64 0,.int .i64 0] 58 (0,0)):=by rw[HW1.out];exact World.alloc_heap_new w _
    have hs1:=HS.out.bel hb1
    clear HW1 HS
    refine(cy W1 hs1).mono ?_
    rintro e w' ⟨rfl,rfl⟩
    go_wp2_with fail
    refine(cz W1 hs1).mono ?_
    rintro e w' ⟨rfl,rfl⟩
    clear cy cz
    go_wp2_with fail
    refine(q1 W1 hs1).mono ?_
    rintro e w1 ⟨rfl,hb⟩
    have hz:=hb.size
    go_wp2_with fail
    refine(q2 w1 (hs1.bel hb)).mono ?_
    rintro e w2 ⟨rfl,hb'⟩
    replace hb:=hb.trans (hb'.mono hz)
    replace hz:=hb.size
    clear hb'
    go_wp2_with fail
    refine(q3 w2 (hs1.bel hb)).mono ?_
    rintro e w3 ⟨rfl,hb'⟩
    replace hb:=hb.trans (hb'.mono hz)
    replace hz:=hb.size
    clear hb'
    clear q1 q2 q3
    have hBF:=hb1.trans (hb.mono (by omega))
    have br3:=(hb.block _ (by omega)).trans br
    have r0:=blk_cell br3 0
    have r1:=blk_cell br3 1
    have r2:=blk_cell br3 2
    have r3:=blk_cell br3 3
    have r4:=blk_cell br3 4
    have r5:=blk_cell br3 5
    have r6:=blk_cell br3 6
    have r7:=blk_cell br3 7
    have r8:=blk_cell br3 8
    simp only[List.getElem?_toArray,List.getElem?_cons_zero,List.getElem?_cons_succ]at r0 r1 r2 r3 r4 r5 r6 r7 r8
    have rf:=blk_free br3
    obtain⟨c0,c1,c2,c3,c4,c5,c6,c7,c8⟩:=HN.out w3 hBF
    clear HN
    clear br br3 hs1
    go_wp2_with fail
    refine bodyPost_ret (v:=.tuple #[.agg (blkCells x (.slice lo x.lab.after.length lc)),.bool true,.bool false]) (by simp[results,Tryz.results148,go_sem,r0,r1,r2,r3,r4,r5,r6,r7,r8]) rfl ?_
    refine⟨_,rfl,⟨lo,lc,HI.out,rfl⟩,?_⟩
    iterate 9 refine Below.setCell ?_ (by simp <;> omega) _
    exact hBF
  ·by_cases d3:find Y i=find Z i
   ·skip
    have hres:pick (find X i) (find Y i) (find Z i)=(some Y[kY],false):=by
     unfold pick;rw[if_neg (fun e=>d1 e.symm),if_pos (.inr d3.symm),fY]
    rw[hres]
    rw[decide_eq_false d1]at q1
    rw[decide_eq_false d2]at q2
    rw[decide_eq_true d3]at q3
    clear hres d1 d2 d3 fY fZ
    have hbY:=HBY kY hY
    obtain⟨_,lo,lc,hi,c9⟩:=hbY.nine hs
    obtain rfl:=HAOY (by omega)
    have HI:=Lib.hid hi
    have HN:=Lib.hid (fun W (hW:Below w.heap.size w W)=>cells9_below c9 hW (cell_lt c9.c0))
    have k0:(0:Int)<=kY:=by omega
    have k1:(kY:Int)<Y.length:=by omega
    generalize Y[kY]=x at *
    clear hi c9 hbY
    have HS:=Lib.hid hs
    clear HBY HBZ HAOY HAOZ hs
    go_enter Tryz.func148,Tryz.ntmps148
    go_wp2_with fail
    obtain⟨W1,HW1⟩:=named (w.alloc (.cells #[.int .i64 0,.int .i64 0,.string ⟨#[]⟩,.int .i64 0,.int .i64 0,.int .i64 0,.slice none 0 0,.int .i64 0,.int .i64 0] 58))
    rw[<-HW1.out]
    have hb1:Below w.heap.size w W1:=by rw[HW1.out];exact(Below.refl _ w).alloc (Nat.le_refl _) _
    have hz1:W1.heap.size=w.heap.size+1:=by rw[HW1.out];simp
    have br:W1.heap[w.heap.size]?=some (.cells #[.int .i64 0,.int .i64 0,.string ⟨#[]⟩,.int .i64 0,.int .i64 0,.int .i64 0,.slice none 0 0,.int .i64 0,.int .i64 0] 58 (0,0)):=by rw[HW1.out];exact World.alloc_heap_new w _
    have hs1:=HS.out.bel hb1
    clear HW1 HS
    refine(cy W1 hs1).mono ?_
    rintro e w' ⟨rfl,rfl⟩
    go_wp2_with fail
    refine(cz W1 hs1).mono ?_
    rintro e w' ⟨rfl,rfl⟩
    clear cy cz
    go_wp2_with fail
    refine(q1 W1 hs1).mono ?_
    rintro e w1 ⟨rfl,hb⟩
    have hz:=hb.size
    go_wp2_with fail
    refine(q2 w1 (hs1.bel hb)).mono ?_
    rintro e w2 ⟨rfl,hb'⟩
    replace hb:=hb.trans (hb'.mono hz)
    replace hz:=hb.size
    clear hb'
    go_wp2_with fail
    refine(q3 w2 (hs1.bel hb)).mono ?_
    rintro e w3 ⟨rfl,hb'⟩
    replace hb:=hb.trans (hb'.mono hz)
    replace hz:=hb.size
    clear hb'
    clear q1 q2 q3
    have hBF:=hb1.trans (hb.mono (by omega))
    have br3:=(hb.block _ (by omega)).trans br
    have r0:=blk_cell br3 0
    have r1:=blk_cell br3 1
    have r2:=blk_cell br3 2
    have r3:=blk_cell br3 3
    have r4:=blk_cell br3 4
    have r5:=blk_cell br3 5
    have r6:=blk_cell br3 6
    have r7:=blk_cell br3 7
    have r8:=blk_cell br3 8
    simp only[List.getElem?_toArray,List.getElem?_cons_zero,List.getElem?_cons_succ]at r0 r1 r2 r3 r4 r5 r6 r7 r8
    have rf:=blk_free br3
    obtain⟨c0,c1,c2,c3,c4,c5,c6,c7,c8⟩:=HN.out w3 hBF
    clear HN
    clear br br3 hs1
    go_wp2_with fail
    refine bodyPost_ret (v:=.tuple #[.agg (blkCells x (.slice lo x.lab.after.length lc)),.bool true,.bool false]) (by simp[results,Tryz.results148,go_sem,r0,r1,r2,r3,r4,r5,r6,r7,r8]) rfl ?_
    refine⟨_,rfl,⟨lo,lc,HI.out,rfl⟩,?_⟩
    iterate 9 refine Below.setCell ?_ (by simp <;> omega) _
    exact hBF
   ·skip
    have hres:pick (find X i) (find Y i) (find Z i)=(some Z[kZ],true):=by
     unfold pick;rw[if_neg (fun e=>d1 e.symm),if_neg (fun e=>e.elim (fun e=>d2 e.symm) (fun e=>d3 e.symm)),fZ];rfl
    rw[hres]
    rw[decide_eq_false d1]at q1
    rw[decide_eq_false d2]at q2
    rw[decide_eq_false d3]at q3
    clear hres d1 d2 d3 fY fZ
    have hbZ:=HBZ kZ hZ
    obtain⟨_,lo,lc,hi,c9⟩:=hbZ.nine hs
    obtain rfl:=HAOZ (by omega)
    have HI:=Lib.hid hi
    have HN:=Lib.hid (fun W (hW:Below w.heap.size w W)=>cells9_below c9 hW (cell_lt c9.c0))
    have k0:(0:Int)<=kZ:=by omega
    have k1:(kZ:Int)<Z.length:=by omega
    generalize Z[kZ]=x at *
    clear hi c9 hbZ
    have HS:=Lib.hid hs
    clear HBY HBZ HAOY HAOZ hs
    go_enter Tryz.func148,Tryz.ntmps148
    go_wp2_with fail
    obtain⟨W1,HW1⟩:=named (w.alloc (.cells #[.int .i64 0,.int .i64 0,.string ⟨#[]⟩,.int .i64 0,.int .i64 0,.int .i64 0,.slice none 0 0,.int .i64 0,.int .i64 0] 58))
    rw[<-HW1.out]
    have hb1:Below w.heap.size w W1:=by rw[HW1.out];exact(Below.refl _ w).alloc (Nat.le_refl _) _
    have hz1:W1.heap.size=w.heap.size+1:=by rw[HW1.out];simp
    have br:W1.heap[w.heap.size]?=some (.cells #[.int .i64 0,.int .i64 0,.string ⟨#[]⟩,.int .i64 0,.int .i64 0,.int .i64 0,.slice none 0 0,.int .i64 0,.int .i64 0] 58 (0,0)):=by rw[HW1.out];exact World.alloc_heap_new w _
    have hs1:=HS.out.bel hb1
    clear HW1 HS
    refine(cy W1 hs1).mono ?_
    rintro e w' ⟨rfl,rfl⟩
    go_wp2_with fail
    refine(cz W1 hs1).mono ?_
    rintro e w' ⟨rfl,rfl⟩
    clear cy cz
    go_wp2_with fail
    refine(q1 W1 hs1).mono ?_
    rintro e w1 ⟨rfl,hb⟩
    have hz:=hb.size
    go_wp2_with fail
    refine(q2 w1 (hs1.bel hb)).mono ?_
    rintro e w2 ⟨rfl,hb'⟩
    replace hb:=hb.trans (hb'.mono hz)
    replace hz:=hb.size
    clear hb'
    go_wp2_with fail
    refine(q3 w2 (hs1.bel hb)).mono ?_
    rintro e w3 ⟨rfl,hb'⟩
    replace hb:=hb.trans (hb'.mono hz)
    replace hz:=hb.size
    clear hb'
    clear q1 q2 q3
    have hBF:=hb1.trans (hb.mono (by omega))
    have br3:=(hb.block _ (by omega)).trans br
    have r0:=blk_cell br3 0
    have r1:=blk_cell br3 1
    have r2:=blk_cell br3 2
    have r3:=blk_cell br3 3
    have r4:=blk_cell br3 4
    have r5:=blk_cell br3 5
    have r6:=blk_cell br3 6
    have r7:=blk_cell br3 7
    have r8:=blk_cell br3 8
    simp only[List.getElem?_toArray,List.getElem?_cons_zero,List.getElem?_cons_succ]at r0 r1 r2 r3 r4 r5 r6 r7 r8
    have rf:=blk_free br3
    obtain⟨c0,c1,c2,c3,c4,c5,c6,c7,c8⟩:=HN.out w3 hBF
    clear HN
    clear br br3 hs1
    go_wp2_with fail
    refine bodyPost_ret (v:=.tuple #[.agg (blkCells x (.slice lo x.lab.after.length lc)),.bool true,.bool true]) (by simp[results,Tryz.results148,go_sem,r0,r1,r2,r3,r4,r5,r6,r7,r8]) rfl ?_
    refine⟨_,rfl,⟨lo,lc,HI.out,rfl⟩,?_⟩
    iterate 9 refine Below.setCell ?_ (by simp <;> omega) _
    exact hBF
set_option maxRecDepth 100000 in
set_option maxHeartbeats 8000000 in
theorem chosenR_10 {mem:Addr->Option Value} {v1 v2 v3:Value} {X Y Z:List Blk} (h1:BlksM mem v1 X) (h2:BlksM mem v2 Y) (h3:BlksM mem v3 Z) (i:Int) (w:World) (hs:Sees mem w) (pY:i∈ids Y) (pZ:i∉ids Z):
 Calls Tryz.prog 148 #[v1,v2,v3,.int .i64 i] w (ChPost mem (pickAt X Y Z i) w):=by
 have cy:=fun W hW=>atR_any v2 Y h2 i W hW
 have cz:=fun W hW=>atR_any v3 Z h3 i W hW
 have q1:=fun W hW=>equalR_any h1 h2 i W hW
 have q2:=fun W hW=>equalR_any h1 h3 i W hW
 have q3:=fun W hW=>equalR_any h2 h3 i W hW
 obtain⟨a1,n1,rfl⟩:=h1.slice
 obtain⟨ao2,cap2,g2,o2,rfl,_,hm2,HAOY,HBY⟩:=h2.open_
 obtain⟨ao3,cap3,g3,o3,rfl,_,hm3,HAOZ,HBZ⟩:=h3.open_
 have hlY:(Y.length:Int)<=9223372036854775807:=by unfold maxLen at hm2;omega
 have hlZ:(Z.length:Int)<=9223372036854775807:=by unfold maxLen at hm3;omega
 unfold pickAt
 obtain⟨kY,hY,eY,fY⟩:=idx_find pY
 obtain⟨eZ,fZ⟩:=idx_none pZ
 rw[eY]at cy
 rw[eZ]at cz
 clear h1 h2 h3 hm2 hm3 pY pZ eY eZ
 by_cases d1:find X i=find Y i
 ·skip
  have hres:pick (find X i) (find Y i) (find Z i)=(none,false):=by
   unfold pick;rw[if_pos d1.symm,fZ]
  rw[hres]
  rw[decide_eq_true d1]at q1
  clear hres d1 fY fZ
  have HS:=Lib.hid hs
  clear HBY HBZ HAOY HAOZ hs q2 q3
  go_enter Tryz.func148,Tryz.ntmps148
  go_wp2_with fail
  obtain⟨W1,HW1⟩:=named (w.alloc (.cells #[.int .i64 0,.int .i64 0,.string ⟨#[]⟩,.int .i64 0,.int .i64 0,.int .i64 0,.slice none 0 0,.int .i64 0,.int .i64 0] 58))
  rw[<-HW1.out]
  have hb1:Below w.heap.size w W1:=by rw[HW1.out];exact(Below.refl _ w).alloc (Nat.le_refl _) _
  have hz1:W1.heap.size=w.heap.size+1:=by rw[HW1.out];simp
  have br:W1.heap[w.heap.size]?=some (.cells #[.int .i64 0,.int .i64 0,.string ⟨#[]⟩,.int .i64 0,.int .i64 0,.int .i64 0,.slice none 0 0,.int .i64 0,.int .i64 0] 58 (0,0)):=by rw[HW1.out];exact World.alloc_heap_new w _
  have hs1:=HS.out.bel hb1
  clear HW1 HS
  refine(cy W1 hs1).mono ?_
  rintro e w' ⟨rfl,rfl⟩
  go_wp2_with fail
  refine(cz W1 hs1).mono ?_
  rintro e w' ⟨rfl,rfl⟩
  clear cy cz
  go_wp2_with fail
  refine(q1 W1 hs1).mono ?_
  rintro e w1 ⟨rfl,hb⟩
  have hz:=hb.size
  clear q1
  have hBF:=hb1.trans (hb.mono (by omega))
  have br3:=(hb.block _ (by omega)).trans br
  have r0:=blk_cell br3 0
  have r1:=blk_cell br3 1
  have r2:=blk_cell br3 2
  have r3:=blk_cell br3 3
  have r4:=blk_cell br3 4
  have r5:=blk_cell br3 5
  have r6:=blk_cell br3 6
  have r7:=blk_cell br3 7
  have r8:=blk_cell br3 8
  simp only[List.getElem?_toArray,List.getElem?_cons_zero,List.getElem?_cons_succ]at r0 r1 r2 r3 r4 r5 r6 r7 r8
  have rf:=blk_free br3
  clear br br3 hs1
  go_wp2_with fail
  refine bodyPost_ret (v:=.tuple #[.agg #[.int .i64 0,.int .i64 0,.string .empty,.int .i64 0,.int .i64 0,.int .i64 0,.slice none 0 0,.int .i64 0,.int .i64 0],.bool false,.bool false]) (by simp[results,Tryz.results148,go_sem,r0,r1,r2,r3,r4,r5,r6,r7,r8];rfl) rfl ?_
  refine⟨_,rfl,rfl,?_⟩
  iterate 9 refine Below.setCell ?_ (by simp <;> omega) _
  exact hBF
 ·by_cases d2:find X i=find Z i
  ·by_cases d3:find Y i=find Z i
   ·skip
    have hres:pick (find X i) (find Y i) (find Z i)=(some Y[kY],false):=by
     unfold pick;rw[if_neg (fun e=>d1 e.symm),if_pos (.inl d2.symm),fY]
    rw[hres]
    rw[decide_eq_false d1]at q1
    rw[decide_eq_true d2]at q2
    rw[decide_eq_true d3]at q3
    clear hres d1 d2 d3 fY fZ
    have hbY:=HBY kY hY
    obtain⟨_,lo,lc,hi,c9⟩:=hbY.nine hs
    obtain rfl:=HAOY (by omega)
    have HI:=Lib.hid hi
    have HN:=Lib.hid (fun W (hW:Below w.heap.size w W)=>cells9_below c9 hW (cell_lt c9.c0))
    have k0:(0:Int)<=kY:=by omega
    have k1:(kY:Int)<Y.length:=by omega
    generalize Y[kY]=x at *
    clear hi c9 hbY
    have HS:=Lib.hid hs
    clear HBY HBZ HAOY HAOZ hs
    go_enter Tryz.func148,Tryz.ntmps148
    go_wp2_with fail
    obtain⟨W1,HW1⟩:=named (w.alloc (.cells #[.int .i64 0,.int .i64 0,.string ⟨#[]⟩,.int .i64 0,.int .i64 0,.int .i64 0,.slice none 0 0,.int .i64 0,.int .i64 0] 58))
    rw[<-HW1.out]
    have hb1:Below w.heap.size w W1:=by rw[HW1.out];exact(Below.refl _ w).alloc (Nat.le_refl _) _
    have hz1:W1.heap.size=w.heap.size+1:=by rw[HW1.out];simp
    have br:W1.heap[w.heap.size]?=some (.cells #[.int .i64 0,.int .i64 0,.string ⟨#[]⟩,.int .i64 0,.int .i64 0,.int .i64 0,.slice none 0 0,.int .i64 0,.int .i64 0] 58 (0,0)):=by rw[HW1.out];exact World.alloc_heap_new w _
    have hs1:=HS.out.bel hb1
    clear HW1 HS
    refine(cy W1 hs1).mono ?_
    rintro e w' ⟨rfl,rfl⟩
    go_wp2_with fail
    refine(cz W1 hs1).mono ?_
    rintro e w' ⟨rfl,rfl⟩
    clear cy cz
    go_wp2_with fail
    refine(q1 W1 hs1).mono ?_
    rintro e w1 ⟨rfl,hb⟩
    have hz:=hb.size
    go_wp2_with fail
    refine(q2 w1 (hs1.bel hb)).mono ?_
    rintro e w2 ⟨rfl,hb'⟩
    replace hb:=hb.trans (hb'.mono hz)
    replace hz:=hb.size
    clear hb'
    go_wp2_with fail
    refine(q3 w2 (hs1.bel hb)).mono ?_
    rintro e w3 ⟨rfl,hb'⟩
    replace hb:=hb.trans (hb'.mono hz)
    replace hz:=hb.size
    clear hb'
    clear q1 q2 q3
    have hBF:=hb1.trans (hb.mono (by omega))
    have br3:=(hb.block _ (by omega)).trans br
    have r0:=blk_cell br3 0
    have r1:=blk_cell br3 1
    have r2:=blk_cell br3 2
    have r3:=blk_cell br3 3
    have r4:=blk_cell br3 4
    have r5:=blk_cell br3 5
    have r6:=blk_cell br3 6
    have r7:=blk_cell br3 7
    have r8:=blk_cell br3 8
    simp only[List.getElem?_toArray,List.getElem?_cons_zero,List.getElem?_cons_succ]at r0 r1 r2 r3 r4 r5 r6 r7 r8
    have rf:=blk_free br3
    obtain⟨c0,c1,c2,c3,c4,c5,c6,c7,c8⟩:=HN.out w3 hBF
    clear HN
    clear br br3 hs1
    go_wp2_with fail
    refine bodyPost_ret (v:=.tuple #[.agg (blkCells x (.slice lo x.lab.after.length lc)),.bool true,.bool false]) (by simp[results,Tryz.results148,go_sem,r0,r1,r2,r3,r4,r5,r6,r7,r8]) rfl ?_
    refine⟨_,rfl,⟨lo,lc,HI.out,rfl⟩,?_⟩
    iterate 9 refine Below.setCell ?_ (by simp <;> omega) _
    exact hBF
   ·skip
    have hres:pick (find X i) (find Y i) (find Z i)=(some Y[kY],false):=by
     unfold pick;rw[if_neg (fun e=>d1 e.symm),if_pos (.inl d2.symm),fY]
    rw[hres]
    rw[decide_eq_false d1]at q1
    rw[decide_eq_true d2]at q2
    rw[decide_eq_false d3]at q3
    clear hres d1 d2 d3 fY fZ
    have hbY:=HBY kY hY
    obtain⟨_,lo,lc,hi,c9⟩:=hbY.nine hs
    obtain rfl:=HAOY (by omega)
    have HI:=Lib.hid hi
    have HN:=Lib.hid (fun W (hW:Below w.heap.size w W)=>cells9_below c9 hW (cell_lt c9.c0))
    have k0:(0:Int)<=kY:=by omega
    have k1:(kY:Int)<Y.length:=by omega
    generalize Y[kY]=x at *
    clear hi c9 hbY
    have HS:=Lib.hid hs
    clear HBY HBZ HAOY HAOZ hs
    go_enter Tryz.func148,Tryz.ntmps148
    go_wp2_with fail
    obtain⟨W1,HW1⟩:=named (w.alloc (.cells #[.int .i64 0,.int .i64 0,.string ⟨#[]⟩,.int .i64 0,.int .i64 0,.int .i64 0,.slice none 0 0,.int .i64 0,.int .i64 0] 58))
    rw[<-HW1.out]
    have hb1:Below w.heap.size w W1:=by rw[HW1.out];exact(Below.refl _ w).alloc (Nat.le_refl _) _
    have hz1:W1.heap.size=w.heap.size+1:=by rw[HW1.out];simp
    have br:W1.heap[w.heap.size]?=some (.cells #[.int .i64 0,.int .i64 0,.string ⟨#[]⟩,.int .i64 0,.int .i64 0,.int .i64 0,.slice none 0 0,.int .i64 0,.int .i64 0] 58 (0,0)):=by rw[HW1.out];exact World.alloc_heap_new w _
    have hs1:=HS.out.bel hb1
    clear HW1 HS
    refine(cy W1 hs1).mono ?_
    rintro e w' ⟨rfl,rfl⟩
    go_wp2_with fail
    refine(cz W1 hs1).mono ?_
    rintro e w' ⟨rfl,rfl⟩
    clear cy cz
    go_wp2_with fail
    refine(q1 W1 hs1).mono ?_
    rintro e w1 ⟨rfl,hb⟩
    have hz:=hb.size
    go_wp2_with fail
    refine(q2 w1 (hs1.bel hb)).mono ?_
    rintro e w2 ⟨rfl,hb'⟩
    replace hb:=hb.trans (hb'.mono hz)
    replace hz:=hb.size
    clear hb'
    go_wp2_with fail
    refine(q3 w2 (hs1.bel hb)).mono ?_
    rintro e w3 ⟨rfl,hb'⟩
    replace hb:=hb.trans (hb'.mono hz)
    replace hz:=hb.size
    clear hb'
    clear q1 q2 q3
    have hBF:=hb1.trans (hb.mono (by omega))
    have br3:=(hb.block _ (by omega)).trans br
    have r0:=blk_cell br3 0
    have r1:=blk_cell br3 1
    have r2:=blk_cell br3 2
    have r3:=blk_cell br3 3
    have r4:=blk_cell br3 4
    have r5:=blk_cell br3 5
    have r6:=blk_cell br3 6
    have r7:=blk_cell br3 7
    have r8:=blk_cell br3 8
    simp only[List.getElem?_toArray,List.getElem?_cons_zero,List.getElem?_cons_succ]at r0 r1 r2 r3 r4 r5 r6 r7 r8
    have rf:=blk_free br3
    obtain⟨c0,c1,c2,c3,c4,c5,c6,c7,c8⟩:=HN.out w3 hBF
    clear HN
    clear br br3 hs1
    go_wp2_with fail
    refine bodyPost_ret (v:=.tuple #[.agg (blkCells x (.slice lo x.lab.after.length lc)),.bool true,.bool false]) (by simp[results,Tryz.results148,go_sem,r0,r1,r2,r3,r4,r5,r6,r7,r8]) rfl ?_
    refine⟨_,rfl,⟨lo,lc,HI.out,rfl⟩,?_⟩
    iterate 9 refine Below.setCell ?_ (by simp <;> omega) _
    exact hBF
  ·by_cases d3:find Y i=find Z i
   ·skip
    have hres:pick (find X i) (find Y i) (find Z i)=(some Y[kY],false):=by
     unfold pick;rw[if_neg (fun e=>d1 e.symm),if_pos (.inr d3.symm),fY]
    rw[hres]
    rw[decide_eq_false d1]at q1
    rw[decide_eq_false d2]at q2
    rw[decide_eq_true d3]at q3
    clear hres d1 d2 d3 fY fZ
    have hbY:=HBY kY hY
    obtain⟨_,lo,lc,hi,c9⟩:=hbY.nine hs
    obtain rfl:=HAOY (by omega)
    have HI:=Lib.hid hi
    have HN:=Lib.hid (fun W (hW:Below w.heap.size w W)=>cells9_below c9 hW (cell_lt c9.c0))
    have k0:(0:Int)<=kY:=by omega
    have k1:(kY:Int)<Y.length:=by omega
    generalize Y[kY]=x at *
    clear hi c9 hbY
    have HS:=Lib.hid hs
    clear HBY HBZ HAOY HAOZ hs
    go_enter Tryz.func148,Tryz.ntmps148
    go_wp2_with fail
    obtain⟨W1,HW1⟩:=named (w.alloc (.cells #[.int .i64 0,.int .i64 0,.string ⟨#[]⟩,.int .i64 0,.int .i64 0,.int .i64 0,.slice none 0 0,.int .i64 0,.int .i64 0] 58))
    rw[<-HW1.out]
    have hb1:Below w.heap.size w W1:=by rw[HW1.out];exact(Below.refl _ w).alloc (Nat.le_refl _) _
    have hz1:W1.heap.size=w.heap.size+1:=by rw[HW1.out];simp
    have br:W1.heap[w.heap.size]?=some (.cells #[.int .i64 0,.int .i64 0,.string ⟨#[]⟩,.int .i64 0,.int .i64 0,.int .i64 0,.slice none 0 0,.int .i64 0,.int .i64 0] 58 (0,0)):=by rw[HW1.out];exact World.alloc_heap_new w _
    have hs1:=HS.out.bel hb1
    clear HW1 HS
    refine(cy W1 hs1).mono ?_
    rintro e w' ⟨rfl,rfl⟩
    go_wp2_with fail
    refine(cz W1 hs1).mono ?_
    rintro e w' ⟨rfl,rfl⟩
    clear cy cz
    go_wp2_with fail
    refine(q1 W1 hs1).mono ?_
    rintro e w1 ⟨rfl,hb⟩
    have hz:=hb.size
    go_wp2_with fail
    refine(q2 w1 (hs1.bel hb)).mono ?_
    rintro e w2 ⟨rfl,hb'⟩
    replace hb:=hb.trans (hb'.mono hz)
    replace hz:=hb.size
    clear hb'
    go_wp2_with fail
    refine(q3 w2 (hs1.bel hb)).mono ?_
    rintro e w3 ⟨rfl,hb'⟩
    replace hb:=hb.trans (hb'.mono hz)
    replace hz:=hb.size
    clear hb'
    clear q1 q2 q3
    have hBF:=hb1.trans (hb.mono (by omega))
    have br3:=(hb.block _ (by omega)).trans br
    have r0:=blk_cell br3 0
    have r1:=blk_cell br3 1
    have r2:=blk_cell br3 2
    have r3:=blk_cell br3 3
    have r4:=blk_cell br3 4
    have r5:=blk_cell br3 5
    have r6:=blk_cell br3 6
    have r7:=blk_cell br3 7
    have r8:=blk_cell br3 8
    simp only[List.getElem?_toArray,List.getElem?_cons_zero,List.getElem?_cons_succ]at r0 r1 r2 r3 r4 r5 r6 r7 r8
    have rf:=blk_free br3
    obtain⟨c0,c1,c2,c3,c4,c5,c6,c7,c8⟩:=HN.out w3 hBF
    clear HN
    clear br br3 hs1
    go_wp2_with fail
    refine bodyPost_ret (v:=.tuple #[.agg (blkCells x (.slice lo x.lab.after.length lc)),.bool true,.bool false]) (by simp[results,Tryz.results148,go_sem,r0,r1,r2,r3,r4,r5,r6,r7,r8]) rfl ?_
    refine⟨_,rfl,⟨lo,lc,HI.out,rfl⟩,?_⟩
    iterate 9 refine Below.setCell ?_ (by simp <;> omega) _
    exact hBF
   ·skip
    have hres:pick (find X i) (find Y i) (find Z i)=(some Y[kY],true):=by
     unfold pick;rw[if_neg (fun e=>d1 e.symm),if_neg (fun e=>e.elim (fun e=>d2 e.symm) (fun e=>d3 e.symm)),fZ,fY];rfl
    rw[hres]
    rw[decide_eq_false d1]at q1
    rw[decide_eq_false d2]at q2
    rw[decide_eq_false d3]at q3
    clear hres d1 d2 d3 fY fZ
    have hbY:=HBY kY hY
    obtain⟨_,lo,lc,hi,c9⟩:=hbY.nine hs
    obtain rfl:=HAOY (by omega)
    have HI:=Lib.hid hi
    have HN:=Lib.hid (fun W (hW:Below w.heap.size w W)=>cells9_below c9 hW (cell_lt c9.c0))
    have k0:(0:Int)<=kY:=by omega
    have k1:(kY:Int)<Y.length:=by omega
    generalize Y[kY]=x at *
    clear hi c9 hbY
    have HS:=Lib.hid hs
    clear HBY HBZ HAOY HAOZ hs
    go_enter Tryz.func148,Tryz.ntmps148
    go_wp2_with fail
    obtain⟨W1,HW1⟩:=named (w.alloc (.cells #[.int .i64 0,.int .i64 0,.string ⟨#[]⟩,.int .i64 0,.int .i64 0,.int .i64 0,.slice none 0 0,.int .i64 0,.int .i64 0] 58))
    rw[<-HW1.out]
    have hb1:Below w.heap.size w W1:=by rw[HW1.out];exact(Below.refl _ w).alloc (Nat.le_refl _) _
    have hz1:W1.heap.size=w.heap.size+1:=by rw[HW1.out];simp
    have br:W1.heap[w.heap.size]?=some (.cells #[.int .i64 0,.int .i64 0,.string ⟨#[]⟩,.int .i64 0,.int .i64 0,.int .i64 0,.slice none 0 0,.int .i64 0,.int .i64 0] 58 (0,0)):=by rw[HW1.out];exact World.alloc_heap_new w _
    have hs1:=HS.out.bel hb1
    clear HW1 HS
    refine(cy W1 hs1).mono ?_
    rintro e w' ⟨rfl,rfl⟩
    go_wp2_with fail
    refine(cz W1 hs1).mono ?_
    rintro e w' ⟨rfl,rfl⟩
    clear cy cz
    go_wp2_with fail
    refine(q1 W1 hs1).mono ?_
    rintro e w1 ⟨rfl,hb⟩
    have hz:=hb.size
    go_wp2_with fail
    refine(q2 w1 (hs1.bel hb)).mono ?_
    rintro e w2 ⟨rfl,hb'⟩
    replace hb:=hb.trans (hb'.mono hz)
    replace hz:=hb.size
    clear hb'
    go_wp2_with fail
    refine(q3 w2 (hs1.bel hb)).mono ?_
    rintro e w3 ⟨rfl,hb'⟩
    replace hb:=hb.trans (hb'.mono hz)
    replace hz:=hb.size
    clear hb'
    clear q1 q2 q3
    have hBF:=hb1.trans (hb.mono (by omega))
    have br3:=(hb.block _ (by omega)).trans br
    have r0:=blk_cell br3 0
    have r1:=blk_cell br3 1
    have r2:=blk_cell br3 2
    have r3:=blk_cell br3 3
    have r4:=blk_cell br3 4
    have r5:=blk_cell br3 5
    have r6:=blk_cell br3 6
    have r7:=blk_cell br3 7
    have r8:=blk_cell br3 8
    simp only[List.getElem?_toArray,List.getElem?_cons_zero,List.getElem?_cons_succ]at r0 r1 r2 r3 r4 r5 r6 r7 r8
    have rf:=blk_free br3
    obtain⟨c0,c1,c2,c3,c4,c5,c6,c7,c8⟩:=HN.out w3 hBF
    clear HN
    clear br br3 hs1
    go_wp2_with fail
    refine bodyPost_ret (v:=.tuple #[.agg (blkCells x (.slice lo x.lab.after.length lc)),.bool true,.bool true]) (by simp[results,Tryz.results148,go_sem,r0,r1,r2,r3,r4,r5,r6,r7,r8]) rfl ?_
    refine⟨_,rfl,⟨lo,lc,HI.out,rfl⟩,?_⟩
    iterate 9 refine Below.setCell ?_ (by simp <;> omega) _
    exact hBF
set_option maxRecDepth 100000 in
set_option maxHeartbeats 8000000 in
theorem chosenR_01 {mem:Addr->Option Value} {v1 v2 v3:Value} {X Y Z:List Blk} (h1:BlksM mem v1 X) (h2:BlksM mem v2 Y) (h3:BlksM mem v3 Z) (i:Int) (w:World) (hs:Sees mem w) (pY:i∉ids Y) (pZ:i∈ids Z):
 Calls Tryz.prog 148 #[v1,v2,v3,.int .i64 i] w (ChPost mem (pickAt X Y Z i) w):=by
 have cy:=fun W hW=>atR_any v2 Y h2 i W hW
 have cz:=fun W hW=>atR_any v3 Z h3 i W hW
 have q1:=fun W hW=>equalR_any h1 h2 i W hW
 have q2:=fun W hW=>equalR_any h1 h3 i W hW
 have q3:=fun W hW=>equalR_any h2 h3 i W hW
 obtain⟨a1,n1,rfl⟩:=h1.slice
 obtain⟨ao2,cap2,g2,o2,rfl,_,hm2,HAOY,HBY⟩:=h2.open_
 obtain⟨ao3,cap3,g3,o3,rfl,_,hm3,HAOZ,HBZ⟩:=h3.open_
 have hlY:(Y.length:Int)<=9223372036854775807:=by unfold maxLen at hm2;omega
 have hlZ:(Z.length:Int)<=9223372036854775807:=by unfold maxLen at hm3;omega
 unfold pickAt
 obtain⟨eY,fY⟩:=idx_none pY
 obtain⟨kZ,hZ,eZ,fZ⟩:=idx_find pZ
 rw[eY]at cy
 rw[eZ]at cz
 clear h1 h2 h3 hm2 hm3 pY pZ eY eZ
 by_cases d1:find X i=find Y i
 ·skip
  have hres:pick (find X i) (find Y i) (find Z i)=(some Z[kZ],false):=by
   unfold pick;rw[if_pos d1.symm,fZ]
  rw[hres]
  rw[decide_eq_true d1]at q1
  clear hres d1 fY fZ
  have hbZ:=HBZ kZ hZ
  obtain⟨_,lo,lc,hi,c9⟩:=hbZ.nine hs
  obtain rfl:=HAOZ (by omega)
  have HI:=Lib.hid hi
  have HN:=Lib.hid (fun W (hW:Below w.heap.size w W)=>cells9_below c9 hW (cell_lt c9.c0))
  have k0:(0:Int)<=kZ:=by omega
  have k1:(kZ:Int)<Z.length:=by omega
  generalize Z[kZ]=x at *
  clear hi c9 hbZ
  have HS:=Lib.hid hs
  clear HBY HBZ HAOY HAOZ hs q2 q3
  go_enter Tryz.func148,Tryz.ntmps148
  go_wp2_with fail
  obtain⟨W1,HW1⟩:=named (w.alloc (.cells #[.int .i64 0,.int .i64 0,.string ⟨#[]⟩,.int .i64 0,.int .i64 0,.int .i64 0,.slice none 0 0,.int .i64 0,.int .i64 0] 58))
  rw[<-HW1.out]
  have hb1:Below w.heap.size w W1:=by rw[HW1.out];exact(Below.refl _ w).alloc (Nat.le_refl _) _
  have hz1:W1.heap.size=w.heap.size+1:=by rw[HW1.out];simp
  have br:W1.heap[w.heap.size]?=some (.cells #[.int .i64 0,.int .i64 0,.string ⟨#[]⟩,.int .i64 0,.int .i64 0,.int .i64 0,.slice none 0 0,.int .i64 0,.int .i64 0] 58 (0,0)):=by rw[HW1.out];exact World.alloc_heap_new w _
  have hs1:=HS.out.bel hb1
  clear HW1 HS
  refine(cy W1 hs1).mono ?_
  rintro e w' ⟨rfl,rfl⟩
  go_wp2_with fail
  refine(cz W1 hs1).mono ?_
  rintro e w' ⟨rfl,rfl⟩
  clear cy cz
  go_wp2_with fail
  refine(q1 W1 hs1).mono ?_
  rintro e w1 ⟨rfl,hb⟩
  have hz:=hb.size
  clear q1
  have hBF:=hb1.trans (hb.mono (by omega))
  have br3:=(hb.block _ (by omega)).trans br
  have r0:=blk_cell br3 0
  have r1:=blk_cell br3 1
  have r2:=blk_cell br3 2
  have r3:=blk_cell br3 3
  have r4:=blk_cell br3 4
  have r5:=blk_cell br3 5
  have r6:=blk_cell br3 6
  have r7:=blk_cell br3 7
  have r8:=blk_cell br3 8
  simp only[List.getElem?_toArray,List.getElem?_cons_zero,List.getElem?_cons_succ]at r0 r1 r2 r3 r4 r5 r6 r7 r8
  have rf:=blk_free br3
  obtain⟨c0,c1,c2,c3,c4,c5,c6,c7,c8⟩:=HN.out w1 hBF
  clear HN
  clear br br3 hs1
  go_wp2_with fail
  refine bodyPost_ret (v:=.tuple #[.agg (blkCells x (.slice lo x.lab.after.length lc)),.bool true,.bool false]) (by simp[results,Tryz.results148,go_sem,r0,r1,r2,r3,r4,r5,r6,r7,r8]) rfl ?_
  refine⟨_,rfl,⟨lo,lc,HI.out,rfl⟩,?_⟩
  iterate 9 refine Below.setCell ?_ (by simp <;> omega) _
  exact hBF
 ·by_cases d2:find X i=find Z i
  ·by_cases d3:find Y i=find Z i
   ·skip
    have hres:pick (find X i) (find Y i) (find Z i)=(none,false):=by
     unfold pick;rw[if_neg (fun e=>d1 e.symm),if_pos (.inl d2.symm),fY]
    rw[hres]
    rw[decide_eq_false d1]at q1
    rw[decide_eq_true d2]at q2
    rw[decide_eq_true d3]at q3
    clear hres d1 d2 d3 fY fZ
    have HS:=Lib.hid hs
    clear HBY HBZ HAOY HAOZ hs
    go_enter Tryz.func148,Tryz.ntmps148
    go_wp2_with fail
    obtain⟨W1,HW1⟩:=named (w.alloc (.cells #[.int .i64 0,.int .i64 0,.string ⟨#[]⟩,.int .i64 0,.int .i64 0,.int .i64 0,.slice none 0 0,.int .i64 0,.int .i64 0] 58))
    rw[<-HW1.out]
    have hb1:Below w.heap.size w W1:=by rw[HW1.out];exact(Below.refl _ w).alloc (Nat.le_refl _) _
    have hz1:W1.heap.size=w.heap.size+1:=by rw[HW1.out];simp
    have br:W1.heap[w.heap.size]?=some (.cells #[.int .i64 0,.int .i64 0,.string ⟨#[]⟩,.int .i64 0,.int .i64 0,.int .i64 0,.slice none 0 0,.int .i64 0,.int .i64 0] 58 (0,0)):=by rw[HW1.out];exact World.alloc_heap_new w _
    have hs1:=HS.out.bel hb1
    clear HW1 HS
    refine(cy W1 hs1).mono ?_
    rintro e w' ⟨rfl,rfl⟩
    go_wp2_with fail
    refine(cz W1 hs1).mono ?_
    rintro e w' ⟨rfl,rfl⟩
    clear cy cz
    go_wp2_with fail
    refine(q1 W1 hs1).mono ?_
    rintro e w1 ⟨rfl,hb⟩
    have hz:=hb.size
    go_wp2_with fail
    refine(q2 w1 (hs1.bel hb)).mono ?_
    rintro e w2 ⟨rfl,hb'⟩
    replace hb:=hb.trans (hb'.mono hz)
    replace hz:=hb.size
    clear hb'
    go_wp2_with fail
    refine(q3 w2 (hs1.bel hb)).mono ?_
    rintro e w3 ⟨rfl,hb'⟩
    replace hb:=hb.trans (hb'.mono hz)
    replace hz:=hb.size
    clear hb'
    clear q1 q2 q3
    have hBF:=hb1.trans (hb.mono (by omega))
    have br3:=(hb.block _ (by omega)).trans br
    have r0:=blk_cell br3 0
    have r1:=blk_cell br3 1
    have r2:=blk_cell br3 2
    have r3:=blk_cell br3 3
    have r4:=blk_cell br3 4
    have r5:=blk_cell br3 5
    have r6:=blk_cell br3 6
    have r7:=blk_cell br3 7
    have r8:=blk_cell br3 8
    simp only[List.getElem?_toArray,List.getElem?_cons_zero,List.getElem?_cons_succ]at r0 r1 r2 r3 r4 r5 r6 r7 r8
    have rf:=blk_free br3
    clear br br3 hs1
    go_wp2_with fail
    refine bodyPost_ret (v:=.tuple #[.agg #[.int .i64 0,.int .i64 0,.string .empty,.int .i64 0,.int .i64 0,.int .i64 0,.slice none 0 0,.int .i64 0,.int .i64 0],.bool false,.bool false]) (by simp[results,Tryz.results148,go_sem,r0,r1,r2,r3,r4,r5,r6,r7,r8];rfl) rfl ?_
    refine⟨_,rfl,rfl,?_⟩
    iterate 9 refine Below.setCell ?_ (by simp <;> omega) _
    exact hBF
   ·skip
    have hres:pick (find X i) (find Y i) (find Z i)=(none,false):=by
     unfold pick;rw[if_neg (fun e=>d1 e.symm),if_pos (.inl d2.symm),fY]
    rw[hres]
    rw[decide_eq_false d1]at q1
    rw[decide_eq_true d2]at q2
    rw[decide_eq_false d3]at q3
    clear hres d1 d2 d3 fY fZ
    have HS:=Lib.hid hs
    clear HBY HBZ HAOY HAOZ hs
    go_enter Tryz.func148,Tryz.ntmps148
    go_wp2_with fail
    obtain⟨W1,HW1⟩:=named (w.alloc (.cells #[.int .i64 0,.int .i64 0,.string ⟨#[]⟩,.int .i64 0,.int .i64 0,.int .i64 0,.slice none 0 0,.int .i64 0,.int .i64 0] 58))
    rw[<-HW1.out]
    have hb1:Below w.heap.size w W1:=by rw[HW1.out];exact(Below.refl _ w).alloc (Nat.le_refl _) _
    have hz1:W1.heap.size=w.heap.size+1:=by rw[HW1.out];simp
    have br:W1.heap[w.heap.size]?=some (.cells #[.int .i64 0,.int .i64 0,.string ⟨#[]⟩,.int .i64 0,.int .i64 0,.int .i64 0,.slice none 0 0,.int .i64 0,.int .i64 0] 58 (0,0)):=by rw[HW1.out];exact World.alloc_heap_new w _
    have hs1:=HS.out.bel hb1
    clear HW1 HS
    refine(cy W1 hs1).mono ?_
    rintro e w' ⟨rfl,rfl⟩
    go_wp2_with fail
    refine(cz W1 hs1).mono ?_
    rintro e w' ⟨rfl,rfl⟩
    clear cy cz
    go_wp2_with fail
    refine(q1 W1 hs1).mono ?_
    rintro e w1 ⟨rfl,hb⟩
    have hz:=hb.size
    go_wp2_with fail
    refine(q2 w1 (hs1.bel hb)).mono ?_
    rintro e w2 ⟨rfl,hb'⟩
    replace hb:=hb.trans (hb'.mono hz)
    replace hz:=hb.size
    clear hb'
    go_wp2_with fail
    refine(q3 w2 (hs1.bel hb)).mono ?_
    rintro e w3 ⟨rfl,hb'⟩
    replace hb:=hb.trans (hb'.mono hz)
    replace hz:=hb.size
    clear hb'
    clear q1 q2 q3
    have hBF:=hb1.trans (hb.mono (by omega))
    have br3:=(hb.block _ (by omega)).trans br
    have r0:=blk_cell br3 0
    have r1:=blk_cell br3 1
    have r2:=blk_cell br3 2
    have r3:=blk_cell br3 3
    have r4:=blk_cell br3 4
    have r5:=blk_cell br3 5
    have r6:=blk_cell br3 6
    have r7:=blk_cell br3 7
    have r8:=blk_cell br3 8
    simp only[List.getElem?_toArray,List.getElem?_cons_zero,List.getElem?_cons_succ]at r0 r1 r2 r3 r4 r5 r6 r7 r8
    have rf:=blk_free br3
    clear br br3 hs1
    go_wp2_with fail
    refine bodyPost_ret (v:=.tuple #[.agg #[.int .i64 0,.int .i64 0,.string .empty,.int .i64 0,.int .i64 0,.int .i64 0,.slice none 0 0,.int .i64 0,.int .i64 0],.bool false,.bool false]) (by simp[results,Tryz.results148,go_sem,r0,r1,r2,r3,r4,r5,r6,r7,r8];rfl) rfl ?_
    refine⟨_,rfl,rfl,?_⟩
    iterate 9 refine Below.setCell ?_ (by simp <;> omega) _
    exact hBF
  ·by_cases d3:find Y i=find Z i
   ·skip
    have hres:pick (find X i) (find Y i) (find Z i)=(none,false):=by
     unfold pick;rw[if_neg (fun e=>d1 e.symm),if_pos (.inr d3.symm),fY]
    rw[hres]
    rw[decide_eq_false d1]at q1
    rw[decide_eq_false d2]at q2
    rw[decide_eq_true d3]at q3
    clear hres d1 d2 d3 fY fZ
    have HS:=Lib.hid hs
    clear HBY HBZ HAOY HAOZ hs
    go_enter Tryz.func148,Tryz.ntmps148
    go_wp2_with fail
    obtain⟨W1,HW1⟩:=named (w.alloc (.cells #[.int .i64 0,.int .i64 0,.string ⟨#[]⟩,.int .i64 0,.int .i64 0,.int .i64 0,.slice none 0 0,.int .i64 0,.int .i64 0] 58))
    rw[<-HW1.out]
    have hb1:Below w.heap.size w W1:=by rw[HW1.out];exact(Below.refl _ w).alloc (Nat.le_refl _) _
    have hz1:W1.heap.size=w.heap.size+1:=by rw[HW1.out];simp
    have br:W1.heap[w.heap.size]?=some (.cells #[.int .i64 0,.int .i64 0,.string ⟨#[]⟩,.int .i64 0,.int .i64 0,.int .i64 0,.slice none 0 0,.int .i64 0,.int .i64 0] 58 (0,0)):=by rw[HW1.out];exact World.alloc_heap_new w _
    have hs1:=HS.out.bel hb1
    clear HW1 HS
    refine(cy W1 hs1).mono ?_
    rintro e w' ⟨rfl,rfl⟩
    go_wp2_with fail
    refine(cz W1 hs1).mono ?_
    rintro e w' ⟨rfl,rfl⟩
    clear cy cz
    go_wp2_with fail
    refine(q1 W1 hs1).mono ?_
    rintro e w1 ⟨rfl,hb⟩
    have hz:=hb.size
    go_wp2_with fail
    refine(q2 w1 (hs1.bel hb)).mono ?_
    rintro e w2 ⟨rfl,hb'⟩
    replace hb:=hb.trans (hb'.mono hz)
    replace hz:=hb.size
    clear hb'
    go_wp2_with fail
    refine(q3 w2 (hs1.bel hb)).mono ?_
    rintro e w3 ⟨rfl,hb'⟩
    replace hb:=hb.trans (hb'.mono hz)
    replace hz:=hb.size
    clear hb'
    clear q1 q2 q3
    have hBF:=hb1.trans (hb.mono (by omega))
    have br3:=(hb.block _ (by omega)).trans br
    have r0:=blk_cell br3 0
    have r1:=blk_cell br3 1
    have r2:=blk_cell br3 2
    have r3:=blk_cell br3 3
    have r4:=blk_cell br3 4
    have r5:=blk_cell br3 5
    have r6:=blk_cell br3 6
    have r7:=blk_cell br3 7
    have r8:=blk_cell br3 8
    simp only[List.getElem?_toArray,List.getElem?_cons_zero,List.getElem?_cons_succ]at r0 r1 r2 r3 r4 r5 r6 r7 r8
    have rf:=blk_free br3
    clear br br3 hs1
    go_wp2_with fail
    refine bodyPost_ret (v:=.tuple #[.agg #[.int .i64 0,.int .i64 0,.string .empty,.int .i64 0,.int .i64 0,.int .i64 0,.slice none 0 0,.int .i64 0,.int .i64 0],.bool false,.bool false]) (by simp[results,Tryz.results148,go_sem,r0,r1,r2,r3,r4,r5,r6,r7,r8];rfl) rfl ?_
    refine⟨_,rfl,rfl,?_⟩
    iterate 9 refine Below.setCell ?_ (by simp <;> omega) _
    exact hBF
   ·skip
    have hres:pick (find X i) (find Y i) (find Z i)=(some Z[kZ],true):=by
     unfold pick;rw[if_neg (fun e=>d1 e.symm),if_neg (fun e=>e.elim (fun e=>d2 e.symm) (fun e=>d3 e.symm)),fZ];rfl
    rw[hres]
    rw[decide_eq_false d1]at q1
    rw[decide_eq_false d2]at q2
    rw[decide_eq_false d3]at q3
    clear hres d1 d2 d3 fY fZ
    have hbZ:=HBZ kZ hZ
    obtain⟨_,lo,lc,hi,c9⟩:=hbZ.nine hs
    obtain rfl:=HAOZ (by omega)
    have HI:=Lib.hid hi
    have HN:=Lib.hid (fun W (hW:Below w.heap.size w W)=>cells9_below c9 hW (cell_lt c9.c0))
    have k0:(0:Int)<=kZ:=by omega
    have k1:(kZ:Int)<Z.length:=by omega
    generalize Z[kZ]=x at *
    clear hi c9 hbZ
    have HS:=Lib.hid hs
    clear HBY HBZ HAOY HAOZ hs
    go_enter Tryz.func148,Tryz.ntmps148
    go_wp2_with fail
    obtain⟨W1,HW1⟩:=named (w.alloc (.cells #[.int .i64 0,.int .i64 0,.string ⟨#[]⟩,.int .i64 0,.int .i64 0,.int .i64 0,.slice none 0 0,.int .i64 0,.int .i64 0] 58))
    rw[<-HW1.out]
    have hb1:Below w.heap.size w W1:=by rw[HW1.out];exact(Below.refl _ w).alloc (Nat.le_refl _) _
    have hz1:W1.heap.size=w.heap.size+1:=by rw[HW1.out];simp
    have br:W1.heap[w.heap.size]?=some (.cells #[.int .i64 0,.int .i64 0,.string ⟨#[]⟩,.int .i64 0,.int .i64 0,.int .i64 0,.slice none 0 0,.int .i64 0,.int .i64 0] 58 (0,0)):=by rw[HW1.out];exact World.alloc_heap_new w _
    have hs1:=HS.out.bel hb1
    clear HW1 HS
    refine(cy W1 hs1).mono ?_
    rintro e w' ⟨rfl,rfl⟩
    go_wp2_with fail
    refine(cz W1 hs1).mono ?_
    rintro e w' ⟨rfl,rfl⟩
    clear cy cz
    go_wp2_with fail
    refine(q1 W1 hs1).mono ?_
    rintro e w1 ⟨rfl,hb⟩
    have hz:=hb.size
    go_wp2_with fail
    refine(q2 w1 (hs1.bel hb)).mono ?_
    rintro e w2 ⟨rfl,hb'⟩
    replace hb:=hb.trans (hb'.mono hz)
    replace hz:=hb.size
    clear hb'
    go_wp2_with fail
    refine(q3 w2 (hs1.bel hb)).mono ?_
    rintro e w3 ⟨rfl,hb'⟩
    replace hb:=hb.trans (hb'.mono hz)
    replace hz:=hb.size
    clear hb'
    clear q1 q2 q3
    have hBF:=hb1.trans (hb.mono (by omega))
    have br3:=(hb.block _ (by omega)).trans br
    have r0:=blk_cell br3 0
    have r1:=blk_cell br3 1
    have r2:=blk_cell br3 2
    have r3:=blk_cell br3 3
    have r4:=blk_cell br3 4
    have r5:=blk_cell br3 5
    have r6:=blk_cell br3 6
    have r7:=blk_cell br3 7
    have r8:=blk_cell br3 8
    simp only[List.getElem?_toArray,List.getElem?_cons_zero,List.getElem?_cons_succ]at r0 r1 r2 r3 r4 r5 r6 r7 r8
    have rf:=blk_free br3
    obtain⟨c0,c1,c2,c3,c4,c5,c6,c7,c8⟩:=HN.out w3 hBF
    clear HN
    clear br br3 hs1
    go_wp2_with fail
    refine bodyPost_ret (v:=.tuple #[.agg (blkCells x (.slice lo x.lab.after.length lc)),.bool true,.bool true]) (by simp[results,Tryz.results148,go_sem,r0,r1,r2,r3,r4,r5,r6,r7,r8]) rfl ?_
    refine⟨_,rfl,⟨lo,lc,HI.out,rfl⟩,?_⟩
    iterate 9 refine Below.setCell ?_ (by simp <;> omega) _
    exact hBF
set_option maxRecDepth 100000 in
set_option maxHeartbeats 8000000 in
theorem chosenR_00 {mem:Addr->Option Value} {v1 v2 v3:Value} {X Y Z:List Blk} (h1:BlksM mem v1 X) (h2:BlksM mem v2 Y) (h3:BlksM mem v3 Z) (i:Int) (w:World) (hs:Sees mem w) (pY:i∉ids Y) (pZ:i∉ids Z):
 Calls Tryz.prog 148 #[v1,v2,v3,.int .i64 i] w (ChPost mem (pickAt X Y Z i) w):=by
 have cy:=fun W hW=>atR_any v2 Y h2 i W hW
 have cz:=fun W hW=>atR_any v3 Z h3 i W hW
 have q1:=fun W hW=>equalR_any h1 h2 i W hW
 have q2:=fun W hW=>equalR_any h1 h3 i W hW
 have q3:=fun W hW=>equalR_any h2 h3 i W hW
 obtain⟨a1,n1,rfl⟩:=h1.slice
 obtain⟨ao2,cap2,g2,o2,rfl,_,hm2,HAOY,HBY⟩:=h2.open_
 obtain⟨ao3,cap3,g3,o3,rfl,_,hm3,HAOZ,HBZ⟩:=h3.open_
 have hlY:(Y.length:Int)<=9223372036854775807:=by unfold maxLen at hm2;omega
 have hlZ:(Z.length:Int)<=9223372036854775807:=by unfold maxLen at hm3;omega
 unfold pickAt
 obtain⟨eY,fY⟩:=idx_none pY
 obtain⟨eZ,fZ⟩:=idx_none pZ
 rw[eY]at cy
 rw[eZ]at cz
 clear h1 h2 h3 hm2 hm3 pY pZ eY eZ
 by_cases d1:find X i=find Y i
 ·skip
  have hres:pick (find X i) (find Y i) (find Z i)=(none,false):=by
   unfold pick;rw[if_pos d1.symm,fZ]
  rw[hres]
  rw[decide_eq_true d1]at q1
  clear hres d1 fY fZ
  have HS:=Lib.hid hs
  clear HBY HBZ HAOY HAOZ hs q2 q3
  go_enter Tryz.func148,Tryz.ntmps148
  go_wp2_with fail
  obtain⟨W1,HW1⟩:=named (w.alloc (.cells #[.int .i64 0,.int .i64 0,.string ⟨#[]⟩,.int .i64 0,.int .i64 0,.int .i64 0,.slice none 0 0,.int .i64 0,.int .i64 0] 58))
  rw[<-HW1.out]
  have hb1:Below w.heap.size w W1:=by rw[HW1.out];exact(Below.refl _ w).alloc (Nat.le_refl _) _
  have hz1:W1.heap.size=w.heap.size+1:=by rw[HW1.out];simp
  have br:W1.heap[w.heap.size]?=some (.cells #[.int .i64 0,.int .i64 0,.string ⟨#[]⟩,.int .i64 0,.int .i64 0,.int .i64 0,.slice none 0 0,.int .i64 0,.int .i64 0] 58 (0,0)):=by rw[HW1.out];exact World.alloc_heap_new w _
  have hs1:=HS.out.bel hb1
  clear HW1 HS
  refine(cy W1 hs1).mono ?_
  rintro e w' ⟨rfl,rfl⟩
  go_wp2_with fail
  refine(cz W1 hs1).mono ?_
  rintro e w' ⟨rfl,rfl⟩
  clear cy cz
  go_wp2_with fail
  refine(q1 W1 hs1).mono ?_
  rintro e w1 ⟨rfl,hb⟩
  have hz:=hb.size
  clear q1
  have hBF:=hb1.trans (hb.mono (by omega))
  have br3:=(hb.block _ (by omega)).trans br
  have r0:=blk_cell br3 0
  have r1:=blk_cell br3 1
  have r2:=blk_cell br3 2
  have r3:=blk_cell br3 3
  have r4:=blk_cell br3 4
  have r5:=blk_cell br3 5
  have r6:=blk_cell br3 6
  have r7:=blk_cell br3 7
  have r8:=blk_cell br3 8
  simp only[List.getElem?_toArray,List.getElem?_cons_zero,List.getElem?_cons_succ]at r0 r1 r2 r3 r4 r5 r6 r7 r8
  have rf:=blk_free br3
  clear br br3 hs1
  go_wp2_with fail
  refine bodyPost_ret (v:=.tuple #[.agg #[.int .i64 0,.int .i64 0,.string .empty,.int .i64 0,.int .i64 0,.int .i64 0,.slice none 0 0,.int .i64 0,.int .i64 0],.bool false,.bool false]) (by simp[results,Tryz.results148,go_sem,r0,r1,r2,r3,r4,r5,r6,r7,r8];rfl) rfl ?_
  refine⟨_,rfl,rfl,?_⟩
  iterate 9 refine Below.setCell ?_ (by simp <;> omega) _
  exact hBF
 ·by_cases d2:find X i=find Z i
  ·by_cases d3:find Y i=find Z i
   ·skip
    have hres:pick (find X i) (find Y i) (find Z i)=(none,false):=by
     unfold pick;rw[if_neg (fun e=>d1 e.symm),if_pos (.inl d2.symm),fY]
    rw[hres]
    rw[decide_eq_false d1]at q1
    rw[decide_eq_true d2]at q2
    rw[decide_eq_true d3]at q3
    clear hres d1 d2 d3 fY fZ
    have HS:=Lib.hid hs
    clear HBY HBZ HAOY HAOZ hs
    go_enter Tryz.func148,Tryz.ntmps148
    go_wp2_with fail
    obtain⟨W1,HW1⟩:=named (w.alloc (.cells #[.int .i64 0,.int .i64 0,.string ⟨#[]⟩,.int .i64 0,.int .i64 0,.int .i64 0,.slice none 0 0,.int .i64 0,.int .i64 0] 58))
    rw[<-HW1.out]
    have hb1:Below w.heap.size w W1:=by rw[HW1.out];exact(Below.refl _ w).alloc (Nat.le_refl _) _
    have hz1:W1.heap.size=w.heap.size+1:=by rw[HW1.out];simp
    have br:W1.heap[w.heap.size]?=some (.cells #[.int .i64 0,.int .i64 0,.string ⟨#[]⟩,.int .i64 0,.int .i64 0,.int .i64 0,.slice none 0 0,.int .i64 0,.int .i64 0] 58 (0,0)):=by rw[HW1.out];exact World.alloc_heap_new w _
    have hs1:=HS.out.bel hb1
    clear HW1 HS
    refine(cy W1 hs1).mono ?_
    rintro e w' ⟨rfl,rfl⟩
    go_wp2_with fail
    refine(cz W1 hs1).mono ?_
    rintro e w' ⟨rfl,rfl⟩
    clear cy cz
    go_wp2_with fail
    refine(q1 W1 hs1).mono ?_
    rintro e w1 ⟨rfl,hb⟩
    have hz:=hb.size
    go_wp2_with fail
    refine(q2 w1 (hs1.bel hb)).mono ?_
    rintro e w2 ⟨rfl,hb'⟩
    replace hb:=hb.trans (hb'.mono hz)
    replace hz:=hb.size
    clear hb'
    go_wp2_with fail
    refine(q3 w2 (hs1.bel hb)).mono ?_
    rintro e w3 ⟨rfl,hb'⟩
    replace hb:=hb.trans (hb'.mono hz)
    replace hz:=hb.size
    clear hb'
    clear q1 q2 q3
    have hBF:=hb1.trans (hb.mono (by omega))
    have br3:=(hb.block _ (by omega)).trans br
    have r0:=blk_cell br3 0
    have r1:=blk_cell br3 1
    have r2:=blk_cell br3 2
    have r3:=blk_cell br3 3
    have r4:=blk_cell br3 4
    have r5:=blk_cell br3 5
    have r6:=blk_cell br3 6
    have r7:=blk_cell br3 7
    have r8:=blk_cell br3 8
    simp only[List.getElem?_toArray,List.getElem?_cons_zero,List.getElem?_cons_succ]at r0 r1 r2 r3 r4 r5 r6 r7 r8
    have rf:=blk_free br3
    clear br br3 hs1
    go_wp2_with fail
    refine bodyPost_ret (v:=.tuple #[.agg #[.int .i64 0,.int .i64 0,.string .empty,.int .i64 0,.int .i64 0,.int .i64 0,.slice none 0 0,.int .i64 0,.int .i64 0],.bool false,.bool false]) (by simp[results,Tryz.results148,go_sem,r0,r1,r2,r3,r4,r5,r6,r7,r8];rfl) rfl ?_
    refine⟨_,rfl,rfl,?_⟩
    iterate 9 refine Below.setCell ?_ (by simp <;> omega) _
    exact hBF
   ·skip
    have hres:pick (find X i) (find Y i) (find Z i)=(none,false):=by
     unfold pick;rw[if_neg (fun e=>d1 e.symm),if_pos (.inl d2.symm),fY]
    rw[hres]
    rw[decide_eq_false d1]at q1
    rw[decide_eq_true d2]at q2
    rw[decide_eq_false d3]at q3
    clear hres d1 d2 d3 fY fZ
    have HS:=Lib.hid hs
    clear HBY HBZ HAOY HAOZ hs
    go_enter Tryz.func148,Tryz.ntmps148
    go_wp2_with fail
    obtain⟨W1,HW1⟩:=named (w.alloc (.cells #[.int .i64 0,.int .i64 0,.string ⟨#[]⟩,.int .i64 0,.int .i64 0,.int .i64 0,.slice none 0 0,.int .i64 0,.int .i64 0] 58))
    rw[<-HW1.out]
    have hb1:Below w.heap.size w W1:=by rw[HW1.out];exact(Below.refl _ w).alloc (Nat.le_refl _) _
    have hz1:W1.heap.size=w.heap.size+1:=by rw[HW1.out];simp
    have br:W1.heap[w.heap.size]?=some (.cells #[.int .i64 0,.int .i64 0,.string ⟨#[]⟩,.int .i64 0,.int .i64 0,.int .i64 0,.slice none 0 0,.int .i64 0,.int .i64 0] 58 (0,0)):=by rw[HW1.out];exact World.alloc_heap_new w _
    have hs1:=HS.out.bel hb1
    clear HW1 HS
    refine(cy W1 hs1).mono ?_
    rintro e w' ⟨rfl,rfl⟩
    go_wp2_with fail
    refine(cz W1 hs1).mono ?_
    rintro e w' ⟨rfl,rfl⟩
    clear cy cz
    go_wp2_with fail
    refine(q1 W1 hs1).mono ?_
    rintro e w1 ⟨rfl,hb⟩
    have hz:=hb.size
    go_wp2_with fail
    refine(q2 w1 (hs1.bel hb)).mono ?_
    rintro e w2 ⟨rfl,hb'⟩
    replace hb:=hb.trans (hb'.mono hz)
    replace hz:=hb.size
    clear hb'
    go_wp2_with fail
    refine(q3 w2 (hs1.bel hb)).mono ?_
    rintro e w3 ⟨rfl,hb'⟩
    replace hb:=hb.trans (hb'.mono hz)
    replace hz:=hb.size
    clear hb'
    clear q1 q2 q3
    have hBF:=hb1.trans (hb.mono (by omega))
    have br3:=(hb.block _ (by omega)).trans br
    have r0:=blk_cell br3 0
    have r1:=blk_cell br3 1
    have r2:=blk_cell br3 2
    have r3:=blk_cell br3 3
    have r4:=blk_cell br3 4
    have r5:=blk_cell br3 5
    have r6:=blk_cell br3 6
    have r7:=blk_cell br3 7
    have r8:=blk_cell br3 8
    simp only[List.getElem?_toArray,List.getElem?_cons_zero,List.getElem?_cons_succ]at r0 r1 r2 r3 r4 r5 r6 r7 r8
    have rf:=blk_free br3
    clear br br3 hs1
    go_wp2_with fail
    refine bodyPost_ret (v:=.tuple #[.agg #[.int .i64 0,.int .i64 0,.string .empty,.int .i64 0,.int .i64 0,.int .i64 0,.slice none 0 0,.int .i64 0,.int .i64 0],.bool false,.bool false]) (by simp[results,Tryz.results148,go_sem,r0,r1,r2,r3,r4,r5,r6,r7,r8];rfl) rfl ?_
    refine⟨_,rfl,rfl,?_⟩
    iterate 9 refine Below.setCell ?_ (by simp <;> omega) _
    exact hBF
  ·by_cases d3:find Y i=find Z i
   ·skip
    have hres:pick (find X i) (find Y i) (find Z i)=(none,false):=by
     unfold pick;rw[if_neg (fun e=>d1 e.symm),if_pos (.inr d3.symm),fY]
    rw[hres]
    rw[decide_eq_false d1]at q1
    rw[decide_eq_false d2]at q2
    rw[decide_eq_true d3]at q3
    clear hres d1 d2 d3 fY fZ
    have HS:=Lib.hid hs
    clear HBY HBZ HAOY HAOZ hs
    go_enter Tryz.func148,Tryz.ntmps148
    go_wp2_with fail
    obtain⟨W1,HW1⟩:=named (w.alloc (.cells #[.int .i64 0,.int .i64 0,.string ⟨#[]⟩,.int .i64 0,.int .i64 0,.int .i64 0,.slice none 0 0,.int .i64 0,.int .i64 0] 58))
    rw[<-HW1.out]
    have hb1:Below w.heap.size w W1:=by rw[HW1.out];exact(Below.refl _ w).alloc (Nat.le_refl _) _
    have hz1:W1.heap.size=w.heap.size+1:=by rw[HW1.out];simp
    have br:W1.heap[w.heap.size]?=some (.cells #[.int .i64 0,.int .i64 0,.string ⟨#[]⟩,.int .i64 0,.int .i64 0,.int .i64 0,.slice none 0 0,.int .i64 0,.int .i64 0] 58 (0,0)):=by rw[HW1.out];exact World.alloc_heap_new w _
    have hs1:=HS.out.bel hb1
    clear HW1 HS
    refine(cy W1 hs1).mono ?_
    rintro e w' ⟨rfl,rfl⟩
    go_wp2_with fail
    refine(cz W1 hs1).mono ?_
    rintro e w' ⟨rfl,rfl⟩
    clear cy cz
    go_wp2_with fail
    refine(q1 W1 hs1).mono ?_
    rintro e w1 ⟨rfl,hb⟩
    have hz:=hb.size
    go_wp2_with fail
    refine(q2 w1 (hs1.bel hb)).mono ?_
    rintro e w2 ⟨rfl,hb'⟩
    replace hb:=hb.trans (hb'.mono hz)
    replace hz:=hb.size
    clear hb'
    go_wp2_with fail
    refine(q3 w2 (hs1.bel hb)).mono ?_
    rintro e w3 ⟨rfl,hb'⟩
    replace hb:=hb.trans (hb'.mono hz)
    replace hz:=hb.size
    clear hb'
    clear q1 q2 q3
    have hBF:=hb1.trans (hb.mono (by omega))
    have br3:=(hb.block _ (by omega)).trans br
    have r0:=blk_cell br3 0
    have r1:=blk_cell br3 1
    have r2:=blk_cell br3 2
    have r3:=blk_cell br3 3
    have r4:=blk_cell br3 4
    have r5:=blk_cell br3 5
    have r6:=blk_cell br3 6
    have r7:=blk_cell br3 7
    have r8:=blk_cell br3 8
    simp only[List.getElem?_toArray,List.getElem?_cons_zero,List.getElem?_cons_succ]at r0 r1 r2 r3 r4 r5 r6 r7 r8
    have rf:=blk_free br3
    clear br br3 hs1
    go_wp2_with fail
    refine bodyPost_ret (v:=.tuple #[.agg #[.int .i64 0,.int .i64 0,.string .empty,.int .i64 0,.int .i64 0,.int .i64 0,.slice none 0 0,.int .i64 0,.int .i64 0],.bool false,.bool false]) (by simp[results,Tryz.results148,go_sem,r0,r1,r2,r3,r4,r5,r6,r7,r8];rfl) rfl ?_
    refine⟨_,rfl,rfl,?_⟩
    iterate 9 refine Below.setCell ?_ (by simp <;> omega) _
    exact hBF
   ·skip
    exact absurd (fY.trans fZ.symm) d3
theorem chosenR_any {mem:Addr->Option Value} {v1 v2 v3:Value} {X Y Z:List Blk} (h1:BlksM mem v1 X) (h2:BlksM mem v2 Y) (h3:BlksM mem v3 Z) (i:Int) (w:World) (hs:Sees mem w):
 Calls Tryz.prog 148 #[v1,v2,v3,.int .i64 i] w (ChPost mem (pickAt X Y Z i) w):=by
 by_cases pY:i∈ids Y
 ·by_cases pZ:i∈ids Z
  ·exact chosenR_11 h1 h2 h3 i w hs pY pZ
  ·exact chosenR_10 h1 h2 h3 i w hs pY pZ
 ·by_cases pZ:i∈ids Z
  ·exact chosenR_01 h1 h2 h3 i w hs pY pZ
  ·exact chosenR_00 h1 h2 h3 i w hs pY pZ
def RefPost (mem:Addr->Option Value) (base a b:List Blk) (w:World) (e:Ending) (w':World):Prop:=
 ∃ v u,e=.returned (.tuple #[v,u,.int .i64 (mergeF base a b).2.2])/\MRow mem w' w.heap.size v (mergeF base a b).1/\IRow w' w.heap.size u (mergeF base a b).2.1/\Below w.heap.size w w'
theorem MRow.nil (mem:Addr->Option Value) (w:World) (B:Nat):MRow mem w B (.slice none 0 0) []:=⟨[],World.ownsRow_nil _ _ _ _,rfl⟩
theorem MRow.less {mem:Addr->Option Value} {w:World} {B B':Nat} {v:Value} {l:List Blk} (h:MRow mem w B v l) (hB:B'<=B):MRow mem w B' v l:=by
 obtain⟨vs,h1,h2⟩:=h
 refine⟨vs,⟨h1.1,?_⟩,h2⟩
 rcases h1.2 with hq | ⟨g,cap,cur,e,hb,rest⟩
 ·exact .inl hq
 ·exact .inr ⟨g,cap,cur,e,by omega,rest⟩
theorem MRow.bel {mem:Addr->Option Value} {w w':World} {B:Nat} {v:Value} {l:List Blk} (h:MRow mem w B v l) (hb:Below w.heap.size w w'):MRow mem w' B v l:=
 h.kept (Upd.of_below hb) (fun k hk=>by have:=(h.ge k hk).2;omega)
theorem refPost_err {mem:Addr->Option Value} {base a b:List Blk} {w w':World} (h:mergeF base a b=([],[],40)) (hb:Below w.heap.size w w'):RefPost mem base a b w (.returned (.tuple #[.slice none 0 0,.slice none 0 0,.int .i64 40])) w':=by
 unfold RefPost
 rw[h]
 exact⟨_,_,rfl,MRow.nil _ _ _,World.ownsRow_nil _ _ _ _,hb⟩
theorem validR_bool {mem:Addr->Option Value} {v:Value} {l:List Blk} {q:Bool} (h:BlksM mem v l) (hq:decide (ValidL l)=q) (w:World) (hs:Sees mem w):
 Calls Tryz.prog 146 #[v] w fun e w'=>e=.returned (.bool q)/\Below w.heap.size w w':=by rw[<-hq];exact validListR_any h w hs
set_option maxRecDepth 10000 in
set_option maxHeartbeats 2000000 in
theorem refmerge_bad {mem:Addr->Option Value} {v1 v2 v3:Value} {base a b:List Blk} (h1:BlksM mem v1 base) (h2:BlksM mem v2 a) (h3:BlksM mem v3 b) (hv:¬ (ValidL base/\ValidL a/\ValidL b)) (w:World) (hs:Sees mem w):
 Calls Tryz.prog 122 #[v1,v2,v3] w (RefPost mem base a b w):=by
 have HP:=Lib.hid (fun (w':World) (hb:Below w.heap.size w w')=>refPost_err (mem:=mem) (mergeF_bad hv) hb)
 have c1:=fun q hq W hW=>validR_bool (q:=q) h1 hq W hW
 have c2:=fun q hq W hW=>validR_bool (q:=q) h2 hq W hW
 have c3:=fun q hq W hW=>validR_bool (q:=q) h3 hq W hW
 have HQ:Hid (¬ (decide (ValidL base)=true/\decide (ValidL a)=true/\decide (ValidL b)=true)):=Lib.hid (by simpa using hv)
 replace c1:=c1 _ rfl
 replace c2:=c2 _ rfl
 replace c3:=c3 _ rfl
 generalize decide (ValidL base)=q1 at *
 generalize decide (ValidL a)=q2 at *
 generalize decide (ValidL b)=q3 at *
 clear h1 h2 h3 hv
 go_enter Tryz.func122,Tryz.ntmps122
 go_wp2_with fail
 refine(c1 w hs).mono ?_
 rintro e w1 ⟨rfl,hb⟩
 replace hs:=hs.bel hb
 clear c1
 go_wp2_with fail
 refine(c2 w1 hs).mono ?_
 rintro e w2 ⟨rfl,hb'⟩
 replace hs:=hs.bel hb'
 replace hb:=hb.trans (hb'.mono hb.size)
 clear hb' c2
 go_wp2_with fail
 refine(c3 w2 hs).mono ?_
 rintro e w3 ⟨rfl,hb'⟩
 replace hb:=hb.trans (hb'.mono hb.size)
 clear hb' c3 hs
 have hq:=HQ.out
 have HF:=Lib.hid (HP.out _ hb)
 clear hb HP HQ
 cases q1 <;> cases q2 <;> cases q3
 all_goals first
  |(exfalso;simp at hq;done)
  |(clear hq
    go_wp2_with fail
    go_ret3
    exact HF.out)
theorem fm_snoc {X Y Z:List Blk} {s:List Int} {k:Nat} (hk:k<s.length):(s.take (k+1)).filterMap (pk X Y Z)=(s.take k).filterMap (pk X Y Z)++(pk X Y Z s[k]).toList:=by
 rw[List.take_succ_eq_append_getElem hk,List.filterMap_append]
 congr 1
theorem fm_filter (f:Int->Option Blk):∀ l:List Int,(l.filter fun i=>(f i).isSome).filterMap f=l.filterMap f
 |[]=>rfl
 |i::r=>by
  have ih:=fm_filter f r
  cases h:f i with
  |none=>rw[List.filter_cons_of_neg (by rw[h];simp),List.filterMap_cons_none h,ih]
  |some x=>rw[List.filter_cons_of_pos (by rw[h];rfl),List.filterMap_cons_some h,List.filterMap_cons_some h,ih]
theorem filter_snoc {p:Int->Bool} {s:List Int} {k:Nat} (hk:k<s.length):(s.take (k+1)).filter p=(s.take k).filter p++if p s[k]=true then [s[k]] else []:=by
 rw[List.take_succ_eq_append_getElem hk,List.filter_append]
 congr 1
 by_cases h:p s[k]=true
 ·rw[if_pos h];exact List.filter_cons_of_pos h
 ·rw[if_neg h];exact List.filter_cons_of_neg h
theorem take_filter_len {p:Int->Bool} (s:List Int) (k:Nat):((s.take k).filter p).length<=s.length:=
 Nat.le_trans (List.length_filter_le _ _) (by rw[List.length_take];omega)
theorem step_none {X Y Z:List Blk} {lead foll:List Int} {k:Nat} (hk:k<foll.length) (h:pk X Y Z foll[k]=none):refSt X Y Z lead foll (k+1)=refSt X Y Z lead foll k:=by
 rw[refSt_succ hk]
 have e:hasAt X Y Z foll[k]=false:=by rw[has_pk,h];rfl
 unfold refStep
 rw[e];simp
theorem step_in {X Y Z:List Blk} {lead foll:List Int} {k:Nat} (hk:k<foll.length) {x:Blk} (h:pk X Y Z foll[k]=some x) (hm:foll[k]∈lead):refSt X Y Z lead foll (k+1)=((refSt X Y Z lead foll k).1,foll[k]):=by
 rw[refSt_succ hk]
 have e:hasAt X Y Z foll[k]=true:=by rw[has_pk,h];rfl
 unfold refStep
 rw[e];simp[hm]
theorem step_out {X Y Z:List Blk} {lead foll:List Int} {k:Nat} (hk:k<foll.length) {x:Blk} (h:pk X Y Z foll[k]=some x) (hm:foll[k]∉lead):
 refSt X Y Z lead foll (k+1)=(insAt (refSt X Y Z lead foll k).1 (placeI (refSt X Y Z lead foll k).1 (refSt X Y Z lead foll k).2+1).toNat foll[k],foll[k]):=by
 rw[refSt_succ hk]
 have e:hasAt X Y Z foll[k]=true:=by rw[has_pk,h];rfl
 unfold refStep
 rw[e];simp[hm]
theorem fm_ins {X Y Z:List Blk} {s:List Int} (hs:AllHas X Y Z s) {i:Int} {x:Blk} (h:pk X Y Z i=some x) (k:Nat):(insAt s k i).filterMap (pk X Y Z)=((s.filterMap (pk X Y Z)).take k++[x])++(s.filterMap (pk X Y Z)).drop k:=by
 obtain⟨e1,e2⟩:=fm_take hs k
 unfold insAt
 rw[List.filterMap_append,List.filterMap_cons_some h,e1,e2,List.append_assoc];rfl
set_option maxRecDepth 100000 in
set_option maxHeartbeats 8000000 in
theorem refmerge_good {mem:Addr->Option Value} {v1 v2 v3:Value} {base a b:List Blk} (h1:BlksM mem v1 base) (h2:BlksM mem v2 a) (h3:BlksM mem v3 b) (p1:ValidL base) (p2:ValidL a) (p3:ValidL b) (w:World) (hs:Sees mem w):
 Calls Tryz.prog 122 #[v1,v2,v3] w (RefPost mem base a b w):=by
 have c1:=fun W hW=>validR_bool h1 (decide_eq_true p1) W hW
 have c2:=fun W hW=>validR_bool h2 (decide_eq_true p2) W hW
 have c3:=fun W hW=>validR_bool h3 (decide_eq_true p3) W hW
 have cI:=fun W hW=>idsR_any h1 h2 h3 W hW
 have HCH:=Lib.hid (fun i W hW=>chosenR_any h1 h2 h3 i W hW)
 have HAT2:=Lib.hid (fun i W hW=>atR_any v2 a h2 i W hW)
 have HAT3:=Lib.hid (fun i W hW=>atR_any v3 b h3 i W hW)
 have HOK:=Lib.hid (fun i x (hx:pk base a b i=some x)=>(pickAt_id hx).2.elim (h2.ok x) (h3.ok x))
 have cV:=fun q (hq:movedL (ids base) (-1) (ids b)=q) W hW=>(by rw[<-hq];exact movedR_any h3 h1 W hW:Calls Tryz.prog 149 #[v1,v3] W fun e w'=>e=.returned (.bool q)/\Below W.heap.size W w')
 obtain⟨a1,n1,rfl⟩:=h1.slice
 obtain⟨ao2,cap2,g2,o2,rfl,_,hm2,hao2,hb2⟩:=h2.open_
 obtain⟨ao3,cap3,g3,o3,rfl,_,hm3,hao3,hb3⟩:=h3.open_
 have HAO2:=Lib.hid hao2
 have HAO3:=Lib.hid hao3
 have HB2:=Lib.hid hb2
 have HB3:=Lib.hid hb3
 have hl2:a.length<=24:=p2.1
 have hl3:b.length<=24:=p3.1
 have HV:=Lib.hid (And.intro p1 (And.intro p2 p3))
 have HS:=Lib.hid hs
 have hQ:∀ q,(movedL (ids base) (-1) (ids b)=q)↔(q=!decide (Keeps (ids b) (ids base))):=fun q=>by
  have:=movedL_keeps p1.2.2 p3.2.2
  by_cases hk:Keeps (ids b) (ids base)
  ·rw[this.2 hk,decide_eq_true hk];exact eq_comm
  ·rw[decide_eq_false hk]
   cases hh:movedL (ids base) (-1) (ids b)
   ·exact absurd (this.1 hh) hk
   ·exact eq_comm
 have HKP:=Lib.hid hQ
 clear h1 h2 h3 p1 p2 p3 hs hm2 hm3 hao2 hao3 hb2 hb3 hQ
 go_enter Tryz.func122,Tryz.ntmps122
 go_wp2_with fail
 refine(c1 w HS.out).mono ?_
 rintro e w1 ⟨rfl,hb⟩
 have hs:=HS.out.bel hb
 clear c1
 go_wp2_with fail
 refine(c2 w1 hs).mono ?_
 rintro e w2 ⟨rfl,hb'⟩
 replace hs:=hs.bel hb'
 replace hb:=hb.trans (hb'.mono hb.size)
 clear hb' c2
 go_wp2_with fail
 refine(c3 w2 hs).mono ?_
 rintro e w3 ⟨rfl,hb'⟩
 replace hs:=hs.bel hb'
 replace hb:=hb.trans (hb'.mono hb.size)
 clear hb' c3
 go_wp2_with fail
 refine(cI w3 hs).mono ?_
 rintro e w4 ⟨sv,rfl,hall,hb'⟩
 replace hb:=hb.trans (hb'.mono hb.size)
 clear hb' cI hs
 obtain⟨S,HSn⟩:=named (idsTo base a b 1000)
 rw[<-HSn.out]at hall
 have hSl:S.length<=1000:=by rw[HSn.out];exact idsTo_len _ _ _ _
 have HALL:=Lib.hid (fun j hj=>IRow.cells hall j hj)
 obtain⟨sa,sc,rfl⟩:=hall.shape
 have hwz:=hb.size
 have H0:Hid (IRow w4 w.heap.size (.slice none 0 0) ((S.take 0).filter fun i=>(pickAt base a b i).2)):=Lib.hid (World.ownsRow_nil _ _ _ _)
 clear hall
 go_wp2_with fail
 go_loopw [15,13,14] (fun i r n wr=>∃ k:Nat,k<=S.length/\i=.int .i64 k/\n=.int .i64 (((S.take k).filter (hasAt base a b)).length:Nat)/\(∃ ra rn rc,r=.slice ra rn rc)/\Below w4.heap.size w4 wr/\Hid (IRow wr w4.heap.size r ((S.take k).filter fun i=>(pickAt base a b i).2))) (fun i _ _ _=>S.length - (Go.RowKit.intOf i).toNat)
 case atStart=>exact⟨0,Nat.zero_le _,rfl,rfl,⟨_,_,_,rfl⟩,Below.refl _ _,Lib.hid (World.ownsRow_nil _ _ _ _)⟩
 case round=>
  obtain⟨k,hk,rfl,rfl,⟨ra,rn,rc,rfl⟩,hb4,hR⟩:=hrel
  have hwr:=hb4.size
  by_cases hlt:k<S.length
  ·obtain⟨g,cp,e,_,_,hgl,hc⟩:=HALL.out k hlt
   injection e with e _ e2
   subst e e2
   have hc':=(hb4.cell (p:=⟨g,k,none⟩) (cell_lt hc)).trans hc
   have cC:=HCH.out S[k] wr ((HS.out.bel hb).bel hb4)
   have HF1:=Lib.hid (filter_snoc (p:=hasAt base a b) hlt)
   have HF2:=Lib.hid (filter_snoc (p:=fun i=>(pickAt base a b i).2) hlt)
   have hnl:=take_filter_len (p:=hasAt base a b) S k
   have hcl:=take_filter_len (p:=fun i=>(pickAt base a b i).2) S k
   have HH:Hid (hasAt base a b S[k]=(pickAt base a b S[k]).1.isSome):=Lib.hid rfl
   clear hc
   generalize hp:pickAt base a b S[k]=p at *
   generalize S[k]=y at *
   generalize hx1:(S.take k).filter (hasAt base a b)=L1 at *
   generalize hx2:(S.take k).filter (fun i=>(pickAt base a b i).2)=L2 at *
   have hw0:k+1<=S.length:=hlt
   clear hx1 hx2
   go_wp2_with fail
   refine cC.mono ?_
   clear cC
   rintro e w5 ⟨v,rfl,hv,hb5⟩
   have hR5:=hR.out.bel hb5
   have hb45:=hb4.trans (hb5.mono hwr)
   have hw5:=hb45.size
   have hc5:=(hb5.cell (p:=⟨g,k,none⟩) (cell_lt hc')).trans hc'
   have hg5:g<w5.heap.size:=cell_lt hc5
   clear hb5 hc'
   obtain⟨px,pq⟩:=p
   cases px with
   |none=>
    have HN:Hid (((S.take (k+1)).filter (hasAt base a b)).length=L1.length):=Lib.hid (by rw[HF1.out,HH.out];simp)
    subst hv
    cases pq with
    |false=>
     have HL:Hid ((S.take (k+1)).filter (fun i=>(pickAt base a b i).2)=L2):=Lib.hid (by rw[HF2.out];simp)
     clear hp HF1 HF2 HH
     go_wp2_with fail
     go_roundw
     case rel=>exact⟨k+1,hw0,by go_num,by rw[HN.out],⟨_,_,_,rfl⟩,(hb45.alloc hw5 _),Lib.hid (by rw[HL.out];exact IRow.alloc hR5 _)⟩
     case measure=>simp[Go.RowKit.intOf];omega
    |true=>
     have HL:Hid ((S.take (k+1)).filter (fun i=>(pickAt base a b i).2)=L2++[y]):=Lib.hid (by rw[HF2.out];simp)
     clear hp HF1 HF2 HH
     go_wp2_with (at_builtin;refine wpList_app_int rfl _ _ rfl w4.heap.size _ _ rfl (IRow.alloc (IRow.alloc hR5 _) _) y (w5.heap.size+1) 1 rfl (cell_new (by simp) rfl) (by omega) (by simp;omega) ?_;intro v2 w2 h2 hg2 _;have HR2:=Lib.hid (by rw[HL.out];exact h2:IRow w2 w4.heap.size v2 ((S.take (k+1)).filter fun i=>(pickAt base a b i).2));have hb2:Below w4.heap.size w4 w2:=((hb45.alloc hw5 _).alloc (by simp;omega) _).grown hg2 (by simp;omega) (fun j e=>IRow.ge hR5 j e);obtain⟨qa,qn,qc,rfl⟩:=h2.sl;clear h2 hg2)
     go_roundw
     case rel=>exact⟨k+1,hw0,by go_num,by rw[HN.out],⟨_,_,_,rfl⟩,hb2,HR2⟩
     case measure=>simp[Go.RowKit.intOf];omega
   |some x=>
    have HN:Hid (((S.take (k+1)).filter (hasAt base a b)).length=L1.length+1):=Lib.hid (by rw[HF1.out,HH.out];simp)
    obtain⟨xo,xc,_,rfl⟩:=hv
    cases pq with
    |false=>
     have HL:Hid ((S.take (k+1)).filter (fun i=>(pickAt base a b i).2)=L2):=Lib.hid (by rw[HF2.out];simp)
     clear hp HF1 HF2 HH
     go_wp2_with fail
     go_roundw
     case rel=>exact⟨k+1,hw0,by go_num,by rw[HN.out];go_num,⟨_,_,_,rfl⟩,(hb45.alloc hw5 _),Lib.hid (by rw[HL.out];exact IRow.alloc hR5 _)⟩
     case measure=>simp[Go.RowKit.intOf];omega
    |true=>
     have HL:Hid ((S.take (k+1)).filter (fun i=>(pickAt base a b i).2)=L2++[y]):=Lib.hid (by rw[HF2.out];simp)
     clear hp HF1 HF2 HH
     go_wp2_with (at_builtin;refine wpList_app_int rfl _ _ rfl w4.heap.size _ _ rfl (IRow.alloc (IRow.alloc hR5 _) _) y (w5.heap.size+1) 1 rfl (cell_new (by simp) rfl) (by omega) (by simp;omega) ?_;intro v2 w2 h2 hg2 _;have HR2:=Lib.hid (by rw[HL.out];exact h2:IRow w2 w4.heap.size v2 ((S.take (k+1)).filter fun i=>(pickAt base a b i).2));have hb2:Below w4.heap.size w4 w2:=((hb45.alloc hw5 _).alloc (by simp;omega) _).grown hg2 (by simp;omega) (fun j e=>IRow.ge hR5 j e);obtain⟨qa,qn,qc,rfl⟩:=h2.sl;clear h2 hg2)
     go_roundw
     case rel=>exact⟨k+1,hw0,by go_num,by rw[HN.out];go_num,⟨_,_,_,rfl⟩,hb2,HR2⟩
     case measure=>simp[Go.RowKit.intOf];omega
  ·have e:k=S.length:=by omega
   subst e
   have hcnt:(((S.take S.length).filter (hasAt base a b)).length)=(merged base a b).length:=by rw[List.take_length,HSn.out];exact count_has HV.out.2.1 HV.out.2.2
   have hcf:(S.take S.length).filter (fun i=>(pickAt base a b i).2)=confs base a b:=by rw[List.take_length,HSn.out];exact confs_ids _ _ _
   rw[hcnt]
   rw[hcf]at hR
   clear hcnt hcf hk hlt HALL HSn H0
   by_cases hn:(merged base a b).length<=24
   rotate_left
   ·have HP:=Lib.hid (refPost_err (mem:=mem) (mergeF_long hn) (hb.trans (hb4.mono hb.size)))
    go_wp2_with fail
    go_ret3
    exact HP.out
   have HME:=Lib.hid (mergeF_yes HV.out hn)
   have HREF:=Lib.hid (ref_merged (X:=base) HV.out.2.1 HV.out.2.2)
   have hb3:=hb.trans (hb4.mono hb.size)
   have hz3:=hb3.size
   have hR3:=hR.out.less hwz
   clear hb hb4 hR hwz hwr
   by_cases hkp:Keeps (ids b) (ids base)
   ·have hmv:movedL (ids base) (-1) (ids b)=false:=(HKP.out false).2 (by rw[decide_eq_true hkp];rfl)
    have cM:=cV _ hmv
    have hlead:leadOf base a b=ids a:=by unfold leadOf;rw[if_pos hkp]
    have hfoll:follOf base a b=ids b:=by unfold follOf;rw[if_pos hkp]
    have HREF2:Hid ((refSt base a b (ids a) (ids b) b.length).1.filterMap (pk base a b)=merged base a b):=Lib.hid (by
     have:=HREF.out
     rw[hlead,hfoll]at this
     unfold refSt
     rw[List.take_of_length_le (by rw[List.length_map];omega)]
     exact this)
    have HALL0:=Lib.hid (refSt_all base a b (ids a) (ids b))
    have HLEN0:=Lib.hid (refSt_len base a b (ids a) (ids b))
    clear hmv hlead hfoll HREF hkp cV
    go_wp2_with fail
    refine(cM wr (HS.out.bel hb3)).mono ?_
    rintro e w5 ⟨rfl,hb5⟩
    have hb35:=hb3.trans (hb5.mono hz3)
    have hR5:=Lib.hid (hR3.bel hb5)
    have hs5:=HS.out.bel hb35
    have HS5:=Lib.hid hs5
    have hz5:=hb35.size
    clear hb3 hb5 hz3 hR3 cM hs5
    go_wp2_with fail
    go_loopw [23,22] (fun i r wq=>∃ k:Nat,k<=a.length/\i=.int .i64 k/\(∃ ra rn rc,r=.slice ra rn rc)/\Below w5.heap.size w5 wq/\Hid (MRow mem wq w5.heap.size r (((ids a).take k).filterMap (pk base a b)))) (fun i _ _=>a.length - (Go.RowKit.intOf i).toNat)
    case atStart=>exact⟨0,Nat.zero_le _,rfl,⟨_,_,_,rfl⟩,Below.refl _ _,Lib.hid (MRow.nil _ _ _)⟩
    case round=>
     obtain⟨k,hk,rfl,⟨ra,rn,rc,rfl⟩,hb6,hO⟩:=hrel
     have hw6:=hb6.size
     by_cases hlt:k<a.length
     ·obtain⟨_,lo,lc,_,c9⟩:=(HB2.out k hlt).nine (HS5.out.bel hb6)
      have c0:=c9.c0
      obtain rfl:=HAO2.out (by omega)
      have hki:k<(ids a).length:=by rw[List.length_map];exact hlt
      have HF:=Lib.hid (fm_snoc (X:=base) (Y:=a) (Z:=b) hki)
      have hid:(ids a)[k]=a[k].id:=List.getElem_map _
      have hfl:(((ids a).take k).filterMap (pk base a b)).length<=48:=by
       have:=List.length_filterMap_le (pk base a b) ((ids a).take k)
       rw[List.length_take,List.length_map]at this;omega
      rw[hid]at HF
      clear c9 hid hki
      generalize a[k].id=y at *
      have cC:=HCH.out y wr ((HS5.out).bel hb6)
      generalize hgl:((ids a).take k).filterMap (pk base a b)=Lk at *
      clear hgl
      have hpk:Hid (pk base a b y=(pickAt base a b y).1):=Lib.hid rfl
      generalize hp:pickAt base a b y=p at *
      have hlt0:k+1<=a.length:=hlt
      go_wp2_with fail
      refine cC.mono ?_
      clear cC
      rintro e w6 ⟨v,rfl,hv,hb7⟩
      have hO7:=hO.out.bel hb7
      have hb67:=hb6.trans (hb7.mono hw6)
      have hw7:=hb67.size
      clear hb7 hp
      obtain⟨px,pq⟩:=p
      cases px with
      |none=>
       subst hv
       have HL:Hid (((ids a).take (k+1)).filterMap (pk base a b)=Lk):=Lib.hid (by rw[HF.out,hpk.out];simp)
       clear HF hpk
       go_wp2_with fail
       go_roundw
       case rel=>exact⟨k+1,hlt0,by go_num,⟨_,_,_,rfl⟩,(hb67.alloc hw7 _),Lib.hid (by rw[HL.out];exact hO7.bel ((Below.refl _ _).alloc (Nat.le_refl _) _))⟩
       case measure=>simp[Go.RowKit.intOf];omega
      |some x=>
       obtain⟨xo,xc,hxi,rfl⟩:=hv
       have HL:Hid (((ids a).take (k+1)).filterMap (pk base a b)=Lk++[x]):=Lib.hid (by rw[HF.out,hpk.out];simp)
       have HXI:=Lib.hid hxi
       clear HF hpk hxi
       go_wp2_with (at_builtin;refine wpList_app_sblk rfl _ _ rfl w5.heap.size _ Lk rfl (hO7.bel (((Below.refl _ _).alloc (Nat.le_refl _) _).alloc (by simp) _)) x xo xc HXI.out (w6.heap.size+1) 1 rfl (heap_new2 w6 _ _) (by omega) (by simp;omega) ?_;intro v2 w2 h2 hg2;have HR2:=Lib.hid (by rw[HL.out];exact h2:MRow mem w2 w5.heap.size v2 (((ids a).take (k+1)).filterMap (pk base a b)));have hb2:Below w5.heap.size w5 w2:=((hb67.alloc hw7 _).alloc (by simp;omega) _).grown hg2 (by simp;omega) (fun j e=>(hO7.ge j e).1);obtain⟨qa,qn,qc,rfl⟩:=h2.sl;clear h2 hg2)
       go_roundw
       case rel=>exact⟨k+1,hlt0,by go_num,⟨_,_,_,rfl⟩,hb2,HR2⟩
       case measure=>simp[Go.RowKit.intOf];omega
     ·have e:k=a.length:=by omega
      subst e
      have HO0:Hid (MRow mem wr w5.heap.size (.slice ra rn rc) ((refSt base a b (ids a) (ids b) 0).1.filterMap (pk base a b))):=Lib.hid (by
       have h:=hO.out
       rw[List.take_of_length_le (by rw[List.length_map];omega)]at h
       have e2:(refSt base a b (ids a) (ids b) 0).1.filterMap (pk base a b)=(ids a).filterMap (pk base a b):=by
        show ((ids a).filter (hasAt base a b)).filterMap (pk base a b)=_
        exact fm_filter (pk base a b) _
       rw[e2];exact h)
      clear hO hk hlt
      go_wp2_with fail
      go_loopw [28,22,27] (fun i r la wq=>∃ k:Nat,k<=b.length/\i=.int .i64 k/\la=.int .i64 (refSt base a b (ids a) (ids b) k).2/\(∃ ra rn rc,r=.slice ra rn rc)/\Below w5.heap.size w5 wq/\Hid (MRow mem wq w5.heap.size r ((refSt base a b (ids a) (ids b) k).1.filterMap (pk base a b)))) (fun i _ _ _=>b.length - (Go.RowKit.intOf i).toNat)
      case atStart=>exact⟨0,Nat.zero_le _,rfl,rfl,⟨_,_,_,rfl⟩,hb6,HO0⟩
      case round=>
       obtain⟨k,hk,rfl,rfl,⟨ra,rn,rc,rfl⟩,hb8,hO⟩:=hrel
       have hw8:=hb8.size
       by_cases hlt:k<b.length
       ·obtain⟨_,lo,lc,_,c9⟩:=(HB3.out k hlt).nine (HS5.out.bel hb8)
        have c0:=c9.c0
        obtain rfl:=HAO3.out (by omega)
        have hki:k<(ids b).length:=by rw[List.length_map];exact hlt
        have hid:(ids b)[k]=b[k].id:=List.getElem_map _
        have HSN:=Lib.hid (fun h=>step_none (X:=base) (Y:=a) (Z:=b) (lead:=ids a) hki h)
        have HSI:=Lib.hid (fun x h hm=>step_in (X:=base) (Y:=a) (Z:=b) (lead:=ids a) hki (x:=x) h hm)
        have HSO:=Lib.hid (fun x h hm=>step_out (X:=base) (Y:=a) (Z:=b) (lead:=ids a) hki (x:=x) h hm)
        rw[hid]at HSN HSI HSO
        have HAL:=Lib.hid (HALL0.out.2 k (by rw[List.length_map];omega))
        have hlen:=HLEN0.out k
        rw[List.length_map]at hlen
        clear c9 hid hki
        generalize b[k].id=y at *
        have cC:=HCH.out y wr ((HS5.out).bel hb8)
        have hpk:Hid (pk base a b y=(pickAt base a b y).1):=Lib.hid rfl
        generalize hst:refSt base a b (ids a) (ids b) k=st at *
        clear hst
        obtain⟨s,la⟩:=st
        generalize hp:pickAt base a b y=p at *
        have hlt0:k+1<=b.length:=hlt
        have hsl:s.length<=48:=by simp at hlen;omega
        clear hlen
        go_wp2_with fail
        refine cC.mono ?_
        clear cC
        rintro e w6 ⟨v,rfl,hv,hb7⟩
        have hO7:=hO.out.bel hb7
        have hb67:=hb8.trans (hb7.mono hw8)
        have hw7:=hb67.size
        clear hb7 hp hO
        obtain⟨px,pq⟩:=p
        cases px with
        |none=>
         subst hv
         have HST:=Lib.hid (HSN.out hpk.out)
         have HR2:Hid (MRow mem w6 w5.heap.size (.slice ra rn rc) ((refSt base a b (ids a) (ids b) (k+1)).1.filterMap (pk base a b))):=Lib.hid (by rw[HST.out];exact hO7)
         clear HSN HSI HSO hpk hO7
         go_wp2_with fail
         go_roundw
         case rel=>exact⟨k+1,hlt0,by go_num,by rw[HST.out],⟨_,_,_,rfl⟩,(hb67.alloc hw7 _),Lib.hid (HR2.out.bel ((Below.refl _ _).alloc (Nat.le_refl _) _))⟩
         case measure=>simp[Go.RowKit.intOf];omega
        |some x=>
         obtain⟨xo,xc,hxi,rfl⟩:=hv
         have hpx:pk base a b y=some x:=hpk.out
         obtain rfl:=pk_id hpx
         have HXI:=Lib.hid hxi
         have hs6:Sees mem w6:=HS5.out.bel hb67
         have cA:=HAT2.out x.id (w6.alloc (.cells (blkCells x (.slice xo x.lab.after.length xc)) 58)) (hs6.alloc _)
         by_cases hm:x.id∈ids a
         ·have e1:idxI (ids a) x.id=((ids a).idxOf x.id:Nat):=by unfold idxI;rw[if_pos hm]
          rw[e1]at cA
          have HST:=Lib.hid (HSI.out x hpx hm)
          have HR2:Hid (MRow mem w6 w5.heap.size (.slice ra rn rc) ((refSt base a b (ids a) (ids b) (k+1)).1.filterMap (pk base a b))):=Lib.hid (by rw[HST.out];exact hO7)
          generalize (ids a).idxOf x.id=j at *
          clear HSN HSI HSO hpk hO7 hpx hm hxi e1 hs6
          go_wp2_with fail
          refine cA.mono ?_
          rintro e w' ⟨rfl,rfl⟩
          clear cA
          go_wp2_with fail
          go_roundw
          case rel=>exact⟨k+1,hlt0,by go_num,by rw[HST.out],⟨_,_,_,rfl⟩,(hb67.alloc hw7 _),Lib.hid (HR2.out.bel ((Below.refl _ _).alloc (Nat.le_refl _) _))⟩
          case measure=>simp[Go.RowKit.intOf];omega
         ·have e1:idxI (ids a) x.id=-1:=by unfold idxI;rw[if_neg hm]
          rw[e1]at cA
          have HST:=Lib.hid (HSO.out x hpx hm)
          have hOA:=hO7.bel ((Below.refl _ w6).alloc (Nat.le_refl _) (.cells (blkCells x (.slice xo x.lab.after.length xc)) 58))
          have hblk:=hOA.blks (hs6.alloc _) (fun z hz=>by
           obtain⟨i,_,hi⟩:=List.mem_filterMap.1 hz
           exact HOK.out i z hi)
          have cO:=atR_any _ _ hblk la _ (Sees.self _)
          rw[ids_of HAL.out]at cO
          obtain⟨hb0,hb1⟩:=placeI_bound s la
          have hidx:idxI s la=placeI s la:=rfl
          rw[hidx]at cO
          have HIN:=Lib.hid (fm_ins HAL.out hpx (placeI s la+1).toNat)
          have hfl:=fm_len HAL.out
          obtain⟨kk,hkk⟩:∃ kk:Nat,placeI s la=(kk:Int) - 1:=⟨(placeI s la+1).toNat,by omega⟩
          rw[hkk]at cO hb0 hb1
          have hkt:(placeI s la+1).toNat=kk:=by rw[hkk];omega
          rw[hkt]at HIN HST
          generalize hLk:s.filterMap (pk base a b)=Lk at *
          obtain⟨vs,hn,hnc,hcm,hrd,hbv⟩:=hOA.reads
          subst hn
          have hkl:kk<=Lk.length:=by omega
          have hll:Lk.length<=48:=by omega
          have hcm2:(rc:Int)<=9223372036854775807:=by unfold maxLen at hcm;omega
          have hek:kk=(Lk.take kk).length:=by rw[List.length_take];omega
          have hed:Lk.length - kk=(Lk.drop kk).length:=by rw[List.length_drop]
          have hzA:(w6.alloc (.cells (blkCells x (.slice xo x.lab.after.length xc)) 58)).heap.size=w6.heap.size+1:=by simp
          rw[hzA]at hrd
          have hrdp:=hrd.pre hkl
          rw[show Reads _ _ _ _ kk _=Reads _ _ _ _ (Lk.take kk).length _ by rw[<-hek]]at hrdp
          have hrdd:=hrd.cut hkl hnc
          rw[hed]at hrdd
          have HRP:=Lib.hid hrdp
          have HRD:=Lib.hid hrdd
          have HBP:=Lib.hid (hbv.take kk)
          have HBD:=Lib.hid (hbv.drop kk)
          have HEK:=Lib.hid hek
          have HED:=Lib.hid hed
          have hk0:(0:Int)<=kk:=by omega
          have hkr:(kk:Int)<=rc:=by omega
          have hkl2:(kk:Int)<=Lk.length:=by omega
          have tok1:True:=trivial
          have tok2:True:=trivial
          have tok3:True:=trivial
          clear HSN HSI HSO hpk hpx hm hxi e1 hs6 hblk hidx hkt hfl hLk hek hed hzA hrdp hrdd hrd hbv hcm hb0 hb1 hkk hOA
          go_wp2_with fail
          refine cA.mono ?_
          rintro e w' ⟨rfl,rfl⟩
          clear cA
          go_wp2_with fail
          refine cO.mono ?_
          rintro e w' ⟨rfl,rfl⟩
          clear cO
          go_wp2_with (first
           |(at_builtin;have _t:=tok1;refine wpList_app_sblks rfl _ _ rfl (w6.heap.size+1) (.slice none 0 0) [] rfl (MRow.nil _ _ _) (Lk.take kk) (vs.take (kk * 9)) (w6.heap.size+1) ra kk rc rfl HEK.out HRP.out HBP.out (by simp;omega) (by simp) ?_;intro v2 w10 h2 hg2;clear tok1 _t
             rw[List.nil_append]at h2
             have hh:=(hg2.block w6.heap.size (by simp) (by intro e;cases e)).trans (World.alloc_heap_new _ _)
             have hz10:w6.heap.size+1<=w10.heap.size:=by have:=hg2.size;simpa using this
             have HG2:=Lib.hid hg2
             have d0:=blk_cell hh 0;have d1:=blk_cell hh 1;have d2:=blk_cell hh 2;have d3:=blk_cell hh 3;have d4:=blk_cell hh 4;have d5:=blk_cell hh 5;have d6:=blk_cell hh 6;have d7:=blk_cell hh 7;have d8:=blk_cell hh 8
             simp only[List.getElem?_toArray,List.getElem?_cons_zero,List.getElem?_cons_succ]at d0 d1 d2 d3 d4 d5 d6 d7 d8
             obtain⟨na,nn,nc,rfl⟩:=h2.sl
             have HH:=Lib.hid hh
             clear hg2 hh)
           |(at_builtin;have _t:=tok2;refine wpList_app_sblk rfl _ _ rfl (w6.heap.size+1) _ (Lk.take kk) rfl (h2.bel ((Below.refl _ _).alloc (Nat.le_refl _) _)) x xo xc HXI.out w10.heap.size 1 rfl (World.alloc_heap_new _ _) (by rw[List.length_take];omega) (by simp;omega) ?_;intro v3 w11 h3 hg3;clear tok2 _t
             have hge:=h2.ge
             have HRD11:=Lib.hid (((HRD.out.grown HG2.out (by simp) (fun g e=>by cases e)).alloc hz10 _).grown hg3 (by simp;omega) (fun g e=>(hge g e).1))
             have hh11:=(hg3.block w6.heap.size (by simp;omega) (fun e=>by have:=(hge _ e.symm).1;omega)).trans ((Below.heap_alloc _ _ _ (by omega)).trans HH.out)
             have hz11:w6.heap.size+1<=w11.heap.size:=by have:=hg3.size;simp at this;omega
             have HG3:=Lib.hid hg3
             have HGE:=Lib.hid hge
             have d0:=blk_cell hh11 0
             simp only[List.getElem?_toArray,List.getElem?_cons_zero]at d0
             obtain⟨ma,mn,mc,rfl⟩:=h3.sl
             have HH11:=Lib.hid hh11
             clear hg3 hh11 hge h2)
           |(at_builtin;have _t:=tok3;refine wpList_app_sblks rfl _ _ rfl (w6.heap.size+1) _ (Lk.take kk++[x]) rfl h3 (Lk.drop kk) (vs.drop (kk * 9)) (w6.heap.size+1) (if rc=kk then ra else ra.map (·.add (kk * 9))) (Lk.length - kk) (rc - kk) rfl HED.out HRD11.out HBD.out (by simp;omega) (by omega) ?_;intro v4 w12 h4 hg4;clear tok3 _t
             have hge:=h3.ge
             have hh12:=(hg4.block w6.heap.size (by omega) (fun e=>by have:=(hge _ e.symm).1;omega)).trans HH11.out
             have d0:=blk_cell hh12 0
             simp only[List.getElem?_toArray,List.getElem?_cons_zero]at d0
             have HR2:Hid (MRow mem w12 w5.heap.size v4 ((refSt base a b (ids a) (ids b) (k+1)).1.filterMap (pk base a b))):=Lib.hid (by
              rw[HST.out]
              show MRow mem w12 w5.heap.size v4 ((insAt s kk x.id).filterMap (pk base a b))
              rw[HIN.out]
              exact h4.less (by omega))
             have hb12:Below w5.heap.size w5 w12:=((((hb67.alloc hw7 _).grown HG2.out (by simp;omega) (fun j e=>by cases e)).alloc (by omega) _).grown HG3.out (by simp;omega) (fun j e=>by have:=(HGE.out j e).1;omega)).grown hg4 (by omega) (fun j e=>by have:=(hge j e).1;omega)
             obtain⟨qa,qn,qc,rfl⟩:=h4.sl
             clear hg4 hh12 hge h3 h4))
          go_roundw
          case rel=>exact⟨k+1,hlt0,by go_num,by rw[HST.out],⟨_,_,_,rfl⟩,hb12,HR2⟩
          case measure=>simp[Go.RowKit.intOf];omega
       ·have e:k=b.length:=by omega
        subst e
        have hrow:=hO.out
        rw[HREF2.out]at hrow
        have hrow2:=hrow.less hz5
        have hcf:=hR5.out.bel hb8
        have hbf:=hb35.trans (hb8.mono hz5)
        have HF:=Lib.hid (And.intro hrow2 (And.intro hcf hbf))
        clear hrow hrow2 hcf hbf hO
        go_wp2_with fail
        go_ret3
        obtain⟨hrow2,hcf,hbf⟩:=HF.out
        unfold RefPost
        rw[HME.out]
        exact⟨_,_,rfl,hrow2,hcf,hbf⟩
   ·have hmv:movedL (ids base) (-1) (ids b)=true:=(HKP.out true).2 (by rw[decide_eq_false hkp];rfl)
    have cM:=cV _ hmv
    have hlead:leadOf base a b=ids b:=by unfold leadOf;rw[if_neg hkp]
    have hfoll:follOf base a b=ids a:=by unfold follOf;rw[if_neg hkp]
    have HREF2:Hid ((refSt base a b (ids b) (ids a) a.length).1.filterMap (pk base a b)=merged base a b):=Lib.hid (by
     have:=HREF.out
     rw[hlead,hfoll]at this
     unfold refSt
     rw[List.take_of_length_le (by rw[List.length_map];omega)]
     exact this)
    have HALL0:=Lib.hid (refSt_all base a b (ids b) (ids a))
    have HLEN0:=Lib.hid (refSt_len base a b (ids b) (ids a))
    clear hmv hlead hfoll HREF hkp cV
    go_wp2_with fail
    refine(cM wr (HS.out.bel hb3)).mono ?_
    rintro e w5 ⟨rfl,hb5⟩
    have hb35:=hb3.trans (hb5.mono hz3)
    have hR5:=Lib.hid (hR3.bel hb5)
    have hs5:=HS.out.bel hb35
    have HS5:=Lib.hid hs5
    have hz5:=hb35.size
    clear hb3 hb5 hz3 hR3 cM hs5
    go_wp2_with fail
    go_loopw [23,22] (fun i r wq=>∃ k:Nat,k<=b.length/\i=.int .i64 k/\(∃ ra rn rc,r=.slice ra rn rc)/\Below w5.heap.size w5 wq/\Hid (MRow mem wq w5.heap.size r (((ids b).take k).filterMap (pk base a b)))) (fun i _ _=>b.length - (Go.RowKit.intOf i).toNat)
    case atStart=>exact⟨0,Nat.zero_le _,rfl,⟨_,_,_,rfl⟩,Below.refl _ _,Lib.hid (MRow.nil _ _ _)⟩
    case round=>
     obtain⟨k,hk,rfl,⟨ra,rn,rc,rfl⟩,hb6,hO⟩:=hrel
     have hw6:=hb6.size
     by_cases hlt:k<b.length
     ·obtain⟨_,lo,lc,_,c9⟩:=(HB3.out k hlt).nine (HS5.out.bel hb6)
      have c0:=c9.c0
      obtain rfl:=HAO3.out (by omega)
      have hki:k<(ids b).length:=by rw[List.length_map];exact hlt
      have HF:=Lib.hid (fm_snoc (X:=base) (Y:=a) (Z:=b) hki)
      have hid:(ids b)[k]=b[k].id:=List.getElem_map _
      have hfl:(((ids b).take k).filterMap (pk base a b)).length<=48:=by
       have:=List.length_filterMap_le (pk base a b) ((ids b).take k)
       rw[List.length_take,List.length_map]at this;omega
      rw[hid]at HF
      clear c9 hid hki
      generalize b[k].id=y at *
      have cC:=HCH.out y wr ((HS5.out).bel hb6)
      generalize hgl:((ids b).take k).filterMap (pk base a b)=Lk at *
      clear hgl
      have hpk:Hid (pk base a b y=(pickAt base a b y).1):=Lib.hid rfl
      generalize hp:pickAt base a b y=p at *
      have hlt0:k+1<=b.length:=hlt
      go_wp2_with fail
      refine cC.mono ?_
      clear cC
      rintro e w6 ⟨v,rfl,hv,hb7⟩
      have hO7:=hO.out.bel hb7
      have hb67:=hb6.trans (hb7.mono hw6)
      have hw7:=hb67.size
      clear hb7 hp
      obtain⟨px,pq⟩:=p
      cases px with
      |none=>
       subst hv
       have HL:Hid (((ids b).take (k+1)).filterMap (pk base a b)=Lk):=Lib.hid (by rw[HF.out,hpk.out];simp)
       clear HF hpk
       go_wp2_with fail
       go_roundw
       case rel=>exact⟨k+1,hlt0,by go_num,⟨_,_,_,rfl⟩,(hb67.alloc hw7 _),Lib.hid (by rw[HL.out];exact hO7.bel ((Below.refl _ _).alloc (Nat.le_refl _) _))⟩
       case measure=>simp[Go.RowKit.intOf];omega
      |some x=>
       obtain⟨xo,xc,hxi,rfl⟩:=hv
       have HL:Hid (((ids b).take (k+1)).filterMap (pk base a b)=Lk++[x]):=Lib.hid (by rw[HF.out,hpk.out];simp)
       have HXI:=Lib.hid hxi
       clear HF hpk hxi
       go_wp2_with (at_builtin;refine wpList_app_sblk rfl _ _ rfl w5.heap.size _ Lk rfl (hO7.bel (((Below.refl _ _).alloc (Nat.le_refl _) _).alloc (by simp) _)) x xo xc HXI.out (w6.heap.size+1) 1 rfl (heap_new2 w6 _ _) (by omega) (by simp;omega) ?_;intro v2 w2 h2 hg2;have HR2:=Lib.hid (by rw[HL.out];exact h2:MRow mem w2 w5.heap.size v2 (((ids b).take (k+1)).filterMap (pk base a b)));have hb2:Below w5.heap.size w5 w2:=((hb67.alloc hw7 _).alloc (by simp;omega) _).grown hg2 (by simp;omega) (fun j e=>(hO7.ge j e).1);obtain⟨qa,qn,qc,rfl⟩:=h2.sl;clear h2 hg2)
       go_roundw
       case rel=>exact⟨k+1,hlt0,by go_num,⟨_,_,_,rfl⟩,hb2,HR2⟩
       case measure=>simp[Go.RowKit.intOf];omega
     ·have e:k=b.length:=by omega
      subst e
      have HO0:Hid (MRow mem wr w5.heap.size (.slice ra rn rc) ((refSt base a b (ids b) (ids a) 0).1.filterMap (pk base a b))):=Lib.hid (by
       have h:=hO.out
       rw[List.take_of_length_le (by rw[List.length_map];omega)]at h
       have e2:(refSt base a b (ids b) (ids a) 0).1.filterMap (pk base a b)=(ids b).filterMap (pk base a b):=by
        show ((ids b).filter (hasAt base a b)).filterMap (pk base a b)=_
        exact fm_filter (pk base a b) _
       rw[e2];exact h)
      clear hO hk hlt
      go_wp2_with fail
      go_loopw [28,22,27] (fun i r la wq=>∃ k:Nat,k<=a.length/\i=.int .i64 k/\la=.int .i64 (refSt base a b (ids b) (ids a) k).2/\(∃ ra rn rc,r=.slice ra rn rc)/\Below w5.heap.size w5 wq/\Hid (MRow mem wq w5.heap.size r ((refSt base a b (ids b) (ids a) k).1.filterMap (pk base a b)))) (fun i _ _ _=>a.length - (Go.RowKit.intOf i).toNat)
      case atStart=>exact⟨0,Nat.zero_le _,rfl,rfl,⟨_,_,_,rfl⟩,hb6,HO0⟩
      case round=>
       obtain⟨k,hk,rfl,rfl,⟨ra,rn,rc,rfl⟩,hb8,hO⟩:=hrel
       have hw8:=hb8.size
       by_cases hlt:k<a.length
       ·obtain⟨_,lo,lc,_,c9⟩:=(HB2.out k hlt).nine (HS5.out.bel hb8)
        have c0:=c9.c0
        obtain rfl:=HAO2.out (by omega)
        have hki:k<(ids a).length:=by rw[List.length_map];exact hlt
        have hid:(ids a)[k]=a[k].id:=List.getElem_map _
        have HSN:=Lib.hid (fun h=>step_none (X:=base) (Y:=a) (Z:=b) (lead:=ids b) hki h)
        have HSI:=Lib.hid (fun x h hm=>step_in (X:=base) (Y:=a) (Z:=b) (lead:=ids b) hki (x:=x) h hm)
        have HSO:=Lib.hid (fun x h hm=>step_out (X:=base) (Y:=a) (Z:=b) (lead:=ids b) hki (x:=x) h hm)
        rw[hid]at HSN HSI HSO
        have HAL:=Lib.hid (HALL0.out.2 k (by rw[List.length_map];omega))
        have hlen:=HLEN0.out k
        rw[List.length_map]at hlen
        clear c9 hid hki
        generalize a[k].id=y at *
        have cC:=HCH.out y wr ((HS5.out).bel hb8)
        have hpk:Hid (pk base a b y=(pickAt base a b y).1):=Lib.hid rfl
        generalize hst:refSt base a b (ids b) (ids a) k=st at *
        clear hst
        obtain⟨s,la⟩:=st
        generalize hp:pickAt base a b y=p at *
        have hlt0:k+1<=a.length:=hlt
        have hsl:s.length<=48:=by simp at hlen;omega
        clear hlen
        go_wp2_with fail
        refine cC.mono ?_
        clear cC
        rintro e w6 ⟨v,rfl,hv,hb7⟩
        have hO7:=hO.out.bel hb7
        have hb67:=hb8.trans (hb7.mono hw8)
        have hw7:=hb67.size
        clear hb7 hp hO
        obtain⟨px,pq⟩:=p
        cases px with
        |none=>
         subst hv
         have HST:=Lib.hid (HSN.out hpk.out)
         have HR2:Hid (MRow mem w6 w5.heap.size (.slice ra rn rc) ((refSt base a b (ids b) (ids a) (k+1)).1.filterMap (pk base a b))):=Lib.hid (by rw[HST.out];exact hO7)
         clear HSN HSI HSO hpk hO7
         go_wp2_with fail
         go_roundw
         case rel=>exact⟨k+1,hlt0,by go_num,by rw[HST.out],⟨_,_,_,rfl⟩,(hb67.alloc hw7 _),Lib.hid (HR2.out.bel ((Below.refl _ _).alloc (Nat.le_refl _) _))⟩
         case measure=>simp[Go.RowKit.intOf];omega
        |some x=>
         obtain⟨xo,xc,hxi,rfl⟩:=hv
         have hpx:pk base a b y=some x:=hpk.out
         obtain rfl:=pk_id hpx
         have HXI:=Lib.hid hxi
         have hs6:Sees mem w6:=HS5.out.bel hb67
         have cA:=HAT3.out x.id (w6.alloc (.cells (blkCells x (.slice xo x.lab.after.length xc)) 58)) (hs6.alloc _)
         by_cases hm:x.id∈ids b
         ·have e1:idxI (ids b) x.id=((ids b).idxOf x.id:Nat):=by unfold idxI;rw[if_pos hm]
          rw[e1]at cA
          have HST:=Lib.hid (HSI.out x hpx hm)
          have HR2:Hid (MRow mem w6 w5.heap.size (.slice ra rn rc) ((refSt base a b (ids b) (ids a) (k+1)).1.filterMap (pk base a b))):=Lib.hid (by rw[HST.out];exact hO7)
          generalize (ids b).idxOf x.id=j at *
          clear HSN HSI HSO hpk hO7 hpx hm hxi e1 hs6
          go_wp2_with fail
          refine cA.mono ?_
          rintro e w' ⟨rfl,rfl⟩
          clear cA
          go_wp2_with fail
          go_roundw
          case rel=>exact⟨k+1,hlt0,by go_num,by rw[HST.out],⟨_,_,_,rfl⟩,(hb67.alloc hw7 _),Lib.hid (HR2.out.bel ((Below.refl _ _).alloc (Nat.le_refl _) _))⟩
          case measure=>simp[Go.RowKit.intOf];omega
         ·have e1:idxI (ids b) x.id=-1:=by unfold idxI;rw[if_neg hm]
          rw[e1]at cA
          have HST:=Lib.hid (HSO.out x hpx hm)
          have hOA:=hO7.bel ((Below.refl _ w6).alloc (Nat.le_refl _) (.cells (blkCells x (.slice xo x.lab.after.length xc)) 58))
          have hblk:=hOA.blks (hs6.alloc _) (fun z hz=>by
           obtain⟨i,_,hi⟩:=List.mem_filterMap.1 hz
           exact HOK.out i z hi)
          have cO:=atR_any _ _ hblk la _ (Sees.self _)
          rw[ids_of HAL.out]at cO
          obtain⟨hb0,hb1⟩:=placeI_bound s la
          have hidx:idxI s la=placeI s la:=rfl
          rw[hidx]at cO
          have HIN:=Lib.hid (fm_ins HAL.out hpx (placeI s la+1).toNat)
          have hfl:=fm_len HAL.out
          obtain⟨kk,hkk⟩:∃ kk:Nat,placeI s la=(kk:Int) - 1:=⟨(placeI s la+1).toNat,by omega⟩
          rw[hkk]at cO hb0 hb1
          have hkt:(placeI s la+1).toNat=kk:=by rw[hkk];omega
          rw[hkt]at HIN HST
          generalize hLk:s.filterMap (pk base a b)=Lk at *
          obtain⟨vs,hn,hnc,hcm,hrd,hbv⟩:=hOA.reads
          subst hn
          have hkl:kk<=Lk.length:=by omega
          have hll:Lk.length<=48:=by omega
          have hcm2:(rc:Int)<=9223372036854775807:=by unfold maxLen at hcm;omega
          have hek:kk=(Lk.take kk).length:=by rw[List.length_take];omega
          have hed:Lk.length - kk=(Lk.drop kk).length:=by rw[List.length_drop]
          have hzA:(w6.alloc (.cells (blkCells x (.slice xo x.lab.after.length xc)) 58)).heap.size=w6.heap.size+1:=by simp
          rw[hzA]at hrd
          have hrdp:=hrd.pre hkl
          rw[show Reads _ _ _ _ kk _=Reads _ _ _ _ (Lk.take kk).length _ by rw[<-hek]]at hrdp
          have hrdd:=hrd.cut hkl hnc
          rw[hed]at hrdd
          have HRP:=Lib.hid hrdp
          have HRD:=Lib.hid hrdd
          have HBP:=Lib.hid (hbv.take kk)
          have HBD:=Lib.hid (hbv.drop kk)
          have HEK:=Lib.hid hek
          have HED:=Lib.hid hed
          have hk0:(0:Int)<=kk:=by omega
          have hkr:(kk:Int)<=rc:=by omega
          have hkl2:(kk:Int)<=Lk.length:=by omega
          have tok1:True:=trivial
          have tok2:True:=trivial
          have tok3:True:=trivial
          clear HSN HSI HSO hpk hpx hm hxi e1 hs6 hblk hidx hkt hfl hLk hek hed hzA hrdp hrdd hrd hbv hcm hb0 hb1 hkk hOA
          go_wp2_with fail
          refine cA.mono ?_
          rintro e w' ⟨rfl,rfl⟩
          clear cA
          go_wp2_with fail
          refine cO.mono ?_
          rintro e w' ⟨rfl,rfl⟩
          clear cO
          go_wp2_with (first
           |(at_builtin;have _t:=tok1;refine wpList_app_sblks rfl _ _ rfl (w6.heap.size+1) (.slice none 0 0) [] rfl (MRow.nil _ _ _) (Lk.take kk) (vs.take (kk * 9)) (w6.heap.size+1) ra kk rc rfl HEK.out HRP.out HBP.out (by simp;omega) (by simp) ?_;intro v2 w10 h2 hg2;clear tok1 _t
             rw[List.nil_append]at h2
             have hh:=(hg2.block w6.heap.size (by simp) (by intro e;cases e)).trans (World.alloc_heap_new _ _)
             have hz10:w6.heap.size+1<=w10.heap.size:=by have:=hg2.size;simpa using this
             have HG2:=Lib.hid hg2
             have d0:=blk_cell hh 0;have d1:=blk_cell hh 1;have d2:=blk_cell hh 2;have d3:=blk_cell hh 3;have d4:=blk_cell hh 4;have d5:=blk_cell hh 5;have d6:=blk_cell hh 6;have d7:=blk_cell hh 7;have d8:=blk_cell hh 8
             simp only[List.getElem?_toArray,List.getElem?_cons_zero,List.getElem?_cons_succ]at d0 d1 d2 d3 d4 d5 d6 d7 d8
             obtain⟨na,nn,nc,rfl⟩:=h2.sl
             have HH:=Lib.hid hh
             clear hg2 hh)
           |(at_builtin;have _t:=tok2;refine wpList_app_sblk rfl _ _ rfl (w6.heap.size+1) _ (Lk.take kk) rfl (h2.bel ((Below.refl _ _).alloc (Nat.le_refl _) _)) x xo xc HXI.out w10.heap.size 1 rfl (World.alloc_heap_new _ _) (by rw[List.length_take];omega) (by simp;omega) ?_;intro v3 w11 h3 hg3;clear tok2 _t
             have hge:=h2.ge
             have HRD11:=Lib.hid (((HRD.out.grown HG2.out (by simp) (fun g e=>by cases e)).alloc hz10 _).grown hg3 (by simp;omega) (fun g e=>(hge g e).1))
             have hh11:=(hg3.block w6.heap.size (by simp;omega) (fun e=>by have:=(hge _ e.symm).1;omega)).trans ((Below.heap_alloc _ _ _ (by omega)).trans HH.out)
             have hz11:w6.heap.size+1<=w11.heap.size:=by have:=hg3.size;simp at this;omega
             have HG3:=Lib.hid hg3
             have HGE:=Lib.hid hge
             have d0:=blk_cell hh11 0
             simp only[List.getElem?_toArray,List.getElem?_cons_zero]at d0
             obtain⟨ma,mn,mc,rfl⟩:=h3.sl
             have HH11:=Lib.hid hh11
             clear hg3 hh11 hge h2)
           |(at_builtin;have _t:=tok3;refine wpList_app_sblks rfl _ _ rfl (w6.heap.size+1) _ (Lk.take kk++[x]) rfl h3 (Lk.drop kk) (vs.drop (kk * 9)) (w6.heap.size+1) (if rc=kk then ra else ra.map (·.add (kk * 9))) (Lk.length - kk) (rc - kk) rfl HED.out HRD11.out HBD.out (by simp;omega) (by omega) ?_;intro v4 w12 h4 hg4;clear tok3 _t
             have hge:=h3.ge
             have hh12:=(hg4.block w6.heap.size (by omega) (fun e=>by have:=(hge _ e.symm).1;omega)).trans HH11.out
             have d0:=blk_cell hh12 0
             simp only[List.getElem?_toArray,List.getElem?_cons_zero]at d0
             have HR2:Hid (MRow mem w12 w5.heap.size v4 ((refSt base a b (ids b) (ids a) (k+1)).1.filterMap (pk base a b))):=Lib.hid (by
              rw[HST.out]
              show MRow mem w12 w5.heap.size v4 ((insAt s kk x.id).filterMap (pk base a b))
              rw[HIN.out]
              exact h4.less (by omega))
             have hb12:Below w5.heap.size w5 w12:=((((hb67.alloc hw7 _).grown HG2.out (by simp;omega) (fun j e=>by cases e)).alloc (by omega) _).grown HG3.out (by simp;omega) (fun j e=>by have:=(HGE.out j e).1;omega)).grown hg4 (by omega) (fun j e=>by have:=(hge j e).1;omega)
             obtain⟨qa,qn,qc,rfl⟩:=h4.sl
             clear hg4 hh12 hge h3 h4))
          go_roundw
          case rel=>exact⟨k+1,hlt0,by go_num,by rw[HST.out],⟨_,_,_,rfl⟩,hb12,HR2⟩
          case measure=>simp[Go.RowKit.intOf];omega
       ·have e:k=a.length:=by omega
        subst e
        have hrow:=hO.out
        rw[HREF2.out]at hrow
        have hrow2:=hrow.less hz5
        have hcf:=hR5.out.bel hb8
        have hbf:=hb35.trans (hb8.mono hz5)
        have HF:=Lib.hid (And.intro hrow2 (And.intro hcf hbf))
        clear hrow hrow2 hcf hbf hO
        go_wp2_with fail
        go_ret3
        obtain⟨hrow2,hcf,hbf⟩:=HF.out
        unfold RefPost
        rw[HME.out]
        exact⟨_,_,rfl,hrow2,hcf,hbf⟩
theorem refmerge_any {mem:Addr->Option Value} {v1 v2 v3:Value} {base a b:List Blk} (h1:BlksM mem v1 base) (h2:BlksM mem v2 a) (h3:BlksM mem v3 b) (w:World) (hs:Sees mem w):
 Calls Tryz.prog 122 #[v1,v2,v3] w (RefPost mem base a b w):=by
 by_cases hv:ValidL base/\ValidL a/\ValidL b
 ·exact refmerge_good h1 h2 h3 hv.1 hv.2.1 hv.2.2 w hs
 ·exact refmerge_bad h1 h2 h3 hv w hs
end Go.Proofs.YtdkkhmjlamkgdaaGreatDoor
namespace Go.Proofs.YtdkkhmjlamkgdaaGreatDoor
open Go.RowKit Mg Go.Shelf Go.Maps
theorem MRow.sh {mem:Addr->Option Value} {w w0 w':World} {v:Value} {l:List Blk} (h:MRow mem w' w0.heap.size v l) (hs:Sees mem w) (h0:w.heap.size<=w0.heap.size) (hp:∀ x∈l,x.text.size<=maxLen/\okI x.kind/\okI x.id):BlksM (memSh mem w.heap.size w' (fun _=>False)) v l:=by
 obtain⟨vs,h1,h2⟩:=h
 have hm:∀ a u,mem a=some u->memSh mem w.heap.size w' (fun _=>False) a=some u:=fun a u e=>memSh_low e (World.block_lt_of_cell? w a (hs a u e))
 have hg:=(h2.mono hm).get
 rcases h1.2 with ⟨rfl,hz⟩ | ⟨g,cap,cur,rfl,hb,hgg,hn,hc,hs,ht⟩
 ·have:l=[]:=List.eq_nil_of_length_eq_zero hz
  subst this
  exact BlksM.nil _
 ·refine⟨g,0,⟨Nat.le_trans hn hc,some ⟨g,0,none⟩,cap,rfl,hn,hc,fun _=>rfl⟩,fun j hj=>?_⟩
  obtain⟨ao,cp,hi,hv⟩:=hg j hj
  have hcell:∀ t,t<9->memSh mem w.heap.size w' (fun _=>False) ⟨g,0+j * 9+t,none⟩=(blkVals l[j] (.slice ao l[j].lab.after.length cp))[t]?:=fun t ht9=>by
   have h6:w'.cell? ⟨g,0+j * 9+t,none⟩=(blkVals l[j] (.slice ao l[j].lab.after.length cp))[t]?:=by
    rw[rowcell hgg]
    have h5:(cur.toList.take (l.length * 9))[j * 9+t]?=vs[j * 9+t]?:=by rw[ht]
    rw[List.getElem?_take_of_lt (by omega)]at h5
    rw[show 0+j * 9+t=j * 9+t by omega,<-Array.getElem?_toList,h5]
    exact hv t ht9
   rw[<-h6]
   have h7:((blkVals l[j] (.slice ao l[j].lab.after.length cp))[t]?).isSome=true:=by
    rw[List.getElem?_eq_getElem (by show t<9;exact ht9)];rfl
   rw[<-h6]at h7
   obtain⟨u,hu⟩:=Option.isSome_iff_exists.1 h7
   rw[hu]
   exact memSh_new (memNo_of hu (fun q=>q)) (by simp only;omega)
  exact⟨⟨hcell 0 (by omega),hcell 1 (by omega),hcell 2 (by omega),hcell 3 (by omega),hcell 4 (by omega)⟩,⟨hcell 5 (by omega),hcell 7 (by omega),hcell 8 (by omega)⟩,hp _ (List.getElem_mem hj),_,hcell 6 (by omega),hi⟩
def RevisedPost (mem:Addr->Option Value) (l:List Fct) (now:List Blk) (f:Fct) (w:World) (e:Ending) (w':World):Prop:=∃ v',e=.returned v'/\BlksM (memSh mem w.heap.size w' (fun _=>False)) v' (revised l now f)/\Below w.heap.size w w'
theorem sh_of {mem:Addr->Option Value} {w w':World} (hs:Sees mem w) {v:Value} {l:List Blk} (h:BlksM mem v l):BlksM (memSh mem w.heap.size w' (fun _=>False)) v l:=
 h.mono (fun a u e=>memSh_low e (World.block_lt_of_cell? w a (hs a u e)))
theorem mergeF_blks {X Y Z:List Blk} (hY:∀ x∈Y,x.text.size<=maxLen/\okI x.kind/\okI x.id) (hZ:∀ x∈Z,x.text.size<=maxLen/\okI x.kind/\okI x.id) (h:(mergeF X Y Z).2.2=0):∀ x∈(mergeF X Y Z).1,x.text.size<=maxLen/\okI x.kind/\okI x.id:=fun x hx=>by
 rcases mergeF_in h x hx with q | q
 ·exact hY x q
 ·exact hZ x q
def EsM2 (memE mem:Addr->Option Value) (v:Value) (fs:List FctE):Prop:=∃ fa fc fb fo,v=.slice fa fs.length fc/\fs.length<=maxLen/\(0<fs.length->fa=some ⟨fb,fo,none⟩)/\∀ j (h:j<fs.length),fs[j].ok mem/\fs[j].at memE fb (fo+j * 23)
set_option maxRecDepth 100000 in
set_option maxHeartbeats 4000000 in
theorem revised_any {mem memE:Addr->Option Value} {lv nv:Value} {fs:List FctE} {now:List Blk} {y:FctE} (hE:EsM2 memE mem lv fs) (hN:BlksM mem nv now) (hY:y.ok mem) (w:World) (hs:Sees mem w) (hsE:Sees memE w):
 Calls Tryz.prog 91 #[lv,nv,.agg y.cells] w (RevisedPost mem (fs.map FctE.f) now y.f w):=by
 obtain⟨fa,fc,fb,fo,rfl,hfm,hfa,hfe⟩:=hE
 obtain⟨na,nc,rfl⟩:=hN.slice
 have HFA:=Lib.hid hfa
 have HFE:=Lib.hid hfe
 have HN:=Lib.hid hN
 have HY:=Lib.hid hY
 have HS:=Lib.hid hs
 obtain⟨W1,hW1⟩:∃ W1,W1=w.alloc (.cells y.cells 50):=⟨_,rfl⟩
 have hb1:Below w.heap.size w W1:=by rw[hW1];exact bel1 w _
 have HX1:Hid (W1.heap[w.heap.size]?=some (.cells (fctCells y.f y.tv y.bv y.av) 50 (0,0))):=Lib.hid (by rw[hW1,<-FctE.cells_eq];exact World.alloc_heap_new _ _)
 have HB1:=Lib.hid hb1
 have HW1:=Lib.hid hW1
 have HS1:=Lib.hid (hs.bel hb1)
 have HE1:=Lib.hid (hsE.bel hb1)
 have HYB:Hid (BlksM mem y.bv y.f.blocks):=Lib.hid hY.parts.2.1
 have HOK:Hid (∀ W',Below w.heap.size w W'->revised (fs.map FctE.f) now y.f=y.f.blocks->RevisedPost mem (fs.map FctE.f) now y.f w (.returned y.bv) W'):=Lib.hid (fun W' hb e=>⟨_,rfl,by rw[e];exact sh_of hs hY.parts.2.1,hb⟩)
 have hfl:fs.length<=9223372036854775807:=by unfold maxLen at hfm;omega
 clear hN hY hs hsE hfa hfe hb1 hW1 hfm
 go_enter Tryz.func91,Tryz.ntmps91
 go_upto_region 1 with fail
 rw[<-HW1.out]
 clear HW1
 have HL:Hid ((fs.map FctE.f).length=fs.length):=Lib.hid (List.length_map _)
 obtain⟨n,hn⟩:∃ n,fs.length=n:=⟨_,rfl⟩
 have HNN:=Lib.hid hn
 rw[hn]at HL hfl ⊢
 have q6:W1.cell? ⟨w.heap.size,6,none⟩=some (.int .i64 y.f.base):=rowcell HX1.out
 have q10:W1.cell? ⟨w.heap.size,10,none⟩=some (.slice y.ba y.f.blocks.length y.bc):=rowcell HX1.out
 clear hn
 rcases n with _ | j
 ·go_quiet (fail)
  have HF:=Lib.hid (HOK.out (W1.drewN nq) (below_drewN HB1.out _) (revised_zero HL.out now y.f))
  go_wp2_with fail
  go_ret
  exact HF.out
 ·have hj:j<fs.length:=by rw[HNN.out];omega
  have hj0:((j:Int)+1 == 0)=false:=by simp;omega
  have hjw:IntKind.i64.wrap (j:Int)=j:=IntWalk.i64_in _ (by omega)
  obtain rfl:=HFA.out (by omega)
  have c5:W1.cell? ⟨fb,fo+j * 23+5,none⟩=some (.int .i64 fs[j].f.rev):=HE1.out _ _ ((HFE.out j hj).2 5 _ rfl)
  have HRB:Hid (y.f.base=fs[j].f.rev->revised (fs.map FctE.f) now y.f=y.f.blocks):=Lib.hid (fun e=>revised_base (j:=j) HL.out.symm now y.f (by rw[List.getElem_map];exact e))
  have HRM:Hid (¬ y.f.base=fs[j].f.rev->revised (fs.map FctE.f) now y.f=if (mergeF (Mg.named (fs.map FctE.f) y.f.base) now y.f.blocks).2.2=0 then (mergeF (Mg.named (fs.map FctE.f) y.f.base) now y.f.blocks).1 else y.f.blocks):=Lib.hid (fun e=>revised_merge (j:=j) HL.out.symm now y.f (by rw[List.getElem_map];exact e))
  generalize hrv:fs[j].f.rev=rv at *
  clear hrv
  by_cases hb:y.f.base=rv
  ·have hbe:(rv == y.f.base)=true:=by simpa using hb.symm
   have HRB2:=Lib.hid (HRB.out hb)
   clear hb HRB HRM
   go_quiet (fail)
   have HF:=Lib.hid (HOK.out (W1.drewN nq) (below_drewN HB1.out _) HRB2.out)
   go_wp2_with fail
   go_ret
   exact HF.out
  ·have hbe:(rv == y.f.base)=false:=by simpa using fun e=>hb (Eq.symm e)
   have HRM2:=Lib.hid (HRM.out hb)
   clear hb HRB HRM
   go_quiet (fail)
   have HB2:Hid (Below W1.heap.size W1 (W1.drewN nq)):=Lib.hid (below_drewN (Below.refl _ _) _)
   generalize W1.drewN nq=W2 at *
   clear c5 q6 q10 hbe
   go_wp2_with fail
   go_loopw [8,7] (fun i v wr=>∃ k:Nat,k<=j+1/\i=.int .i64 k/\(∃ ba bl bc,v=.slice ba bl bc)/\Hid (BlksM mem v (Mg.named ((fs.map FctE.f).take k) y.f.base))/\Hid (Below W1.heap.size W1 wr)) (fun i _ _=>j+1 - (intOf i).toNat)
   case atStart=>exact⟨0,Nat.zero_le _,rfl,⟨_,_,_,rfl⟩,Lib.hid (by rw[List.take_zero];exact BlksM.nil _),HB2⟩
   case round=>
    obtain⟨k,hk,rfl,⟨ba,bl,bc,rfl⟩,HNM,HB⟩:=hrel
    have HXR:=Lib.hid ((HB.out.block _ (qh HX1.out)).trans HX1.out)
    by_cases hlt:k<j+1
    ·have hkf:k<fs.length:=by rw[HNN.out];exact hlt
     obtain⟨hxo,hat⟩:=HFE.out k hkf
     have HSR:=Lib.hid (HE1.out.bel HB.out)
     have p5:wr.cell? ⟨fb,fo+k * 23+5,none⟩=some (.int .i64 fs[k].f.rev):=HSR.out _ _ (hat 5 _ rfl)
     have P10:Hid (wr.cell? ⟨fb,fo+k * 23+10,none⟩=some fs[k].bv):=Lib.hid (HSR.out _ _ (hat 10 _ rfl))
     have q6:wr.cell? ⟨w.heap.size,6,none⟩=some (.int .i64 y.f.base):=rowcell HXR.out
     have HBX:Hid (BlksM mem fs[k].bv fs[k].f.blocks):=Lib.hid hxo.parts.2.1
     have HSN:Hid (Mg.named ((fs.map FctE.f).take (k+1)) y.f.base=if fs[k].f.rev=y.f.base then fs[k].f.blocks else Mg.named ((fs.map FctE.f).take k) y.f.base):=Lib.hid (by
      rw[List.take_succ_eq_append_getElem (by rw[List.length_map];exact hkf),named_snoc,List.getElem_map])
     clear hxo hat
     generalize fs[k]=x at *
     by_cases hr:x.f.rev=y.f.base
     ·have hre:(x.f.rev == y.f.base)=true:=by simpa using hr
      have HNX:Hid (BlksM mem x.bv (Mg.named ((fs.map FctE.f).take (k+1)) y.f.base)):=Lib.hid (by rw[HSN.out,if_pos hr];exact HBX.out)
      clear hr HSN
      go_upto_region 7 with fail
      go_quiet (fail)
      have HBD:Hid (Below W1.heap.size W1 (wr.drewN nq)):=Lib.hid (below_drewN HB.out _)
      have p10:(wr.drewN nq).cell? ⟨fb,fo+k * 23+10,none⟩=some (.slice x.ba x.f.blocks.length x.bc):=P10.out
      generalize wr.drewN nq=W3 at *
      go_wp2_with fail
      go_roundw
      case rel=>exact⟨k+1,by omega,by go_num,⟨_,_,_,rfl⟩,HNX,HBD⟩
      case measure=>(try simp only[intOf]);omega
     ·have hre:(x.f.rev == y.f.base)=false:=by simpa using hr
      have HNX:Hid (BlksM mem (.slice ba bl bc) (Mg.named ((fs.map FctE.f).take (k+1)) y.f.base)):=Lib.hid (by rw[HSN.out,if_neg hr];exact HNM.out)
      clear hr HSN
      go_upto_region 7 with fail
      go_quiet (fail)
      go_wp2_with fail
      go_roundw
      case rel=>exact⟨k+1,by omega,by go_num,⟨_,_,_,rfl⟩,HNX,Lib.hid (below_drewN HB.out _)⟩
      case measure=>(try simp only[intOf]);omega
    ·obtain rfl:k=j+1:=by omega
     have HNB:Hid (BlksM mem (.slice ba bl bc) (Mg.named (fs.map FctE.f) y.f.base)):=Lib.hid (by
      have:=HNM.out
      rwa [<-HL.out,List.take_length]at this)
     have q10:wr.cell? ⟨w.heap.size,10,none⟩=some (.slice y.ba y.f.blocks.length y.bc):=rowcell HXR.out
     have cM:=Lib.hid (refmerge_any HNB.out HN.out HYB.out wr (HS1.out.bel HB.out))
     generalize hZ:Mg.named (fs.map FctE.f) y.f.base=Z at *
     go_wp2_with fail
     refine cM.out.mono ?_
     rintro e w4 ⟨mv,uv,rfl,hmr,_,hb4⟩
     have HB4:Hid (Below w.heap.size w w4):=Lib.hid (HB1.out.trans ((HB.out.trans (hb4.mono HB.out.size)).mono HB1.out.size))
     have q10':w4.cell? ⟨w.heap.size,10,none⟩=some (.slice y.ba y.f.blocks.length y.bc):=rowcell ((hb4.block _ (qh HXR.out)).trans HXR.out)
     have HMR:=Lib.hid hmr
     clear cM hb4 q10
     rcases mergeF_err Z now y.f.blocks with he | he
     ·have HF:Hid (RevisedPost mem (fs.map FctE.f) now y.f w (.returned mv) w4):=Lib.hid ⟨_,rfl,by
       rw[HRM2.out,if_pos he]
       exact hmr.sh HS.out (Nat.le_trans HB1.out.size HB.out.size) (mergeF_blks (blks_ok HN.out) (blks_ok HYB.out) he),HB4.out⟩
      rw[he]
      clear he hmr HRM2
      go_wp2_with fail
      go_ret
      exact HF.out
     ·have HF:=Lib.hid (HOK.out w4 HB4.out (by rw[HRM2.out,if_neg (by rw[he];decide)]))
      rw[he]
      clear he hmr HRM2
      go_wp2_with fail
      go_ret
      exact HF.out
end Go.Proofs.YtdkkhmjlamkgdaaGreatDoor
namespace Go.Proofs.YtdkkhmjlamkgdaaGreatDoor
open Go.RowKit
theorem trimR_cons (a c:UInt8) (r:List UInt8):Lib.trimRightB (a::r) c=if Lib.trimRightB r c=[]/\a=c then [] else a::Lib.trimRightB r c:=by
 unfold Lib.trimRightB
 rw[List.reverse_cons,List.dropWhile_append]
 cases hd:List.dropWhile (fun x=>x == c) r.reverse with
 |nil=>
  by_cases h:a=c
  ·simp[h]
  ·simp[h]
 |cons x t=>simp
theorem trim_comm (c:UInt8):∀ l:List UInt8,Lib.trimRightB (Lib.trimLeftB l c) c=Lib.trimB l c
 |[]=>rfl
 |a::r=>by
  have ih:=trim_comm c r
  unfold Lib.trimB at ih ⊢
  rw[trimR_cons]
  by_cases h:a=c
  ·have e:Lib.trimLeftB (a::r) c=Lib.trimLeftB r c:=by unfold Lib.trimLeftB;rw[List.dropWhile_cons_of_pos (by simp[h])]
   rw[e,ih]
   by_cases h2:Lib.trimRightB r c=[]
   ·rw[if_pos ⟨h2,h⟩,h2]
   ·rw[if_neg (fun q=>h2 q.1)]
    unfold Lib.trimLeftB
    rw[List.dropWhile_cons_of_pos (by simp[h])]
  ·have e:∀ t,Lib.trimLeftB (a::t) c=a::t:=fun t=>by unfold Lib.trimLeftB;rw[List.dropWhile_cons_of_neg (by simp[h])]
   rw[e,if_neg (fun q=>h q.2),e,trimR_cons,if_neg (fun q=>h q.2)]
theorem trimL_step (c:UInt8) (r:List UInt8):Lib.trimLeftB (c::r) c=Lib.trimLeftB r c:=by
 unfold Lib.trimLeftB;rw[List.dropWhile_cons_of_pos (by simp)]
theorem trimL_stop {c:UInt8} {l:List UInt8} (h:∀ x,l[0]?=some x->x≠c):Lib.trimLeftB l c=l:=by
 cases l with
 |nil=>rfl
 |cons a r=>
  have:=h a rfl
  unfold Lib.trimLeftB;rw[List.dropWhile_cons_of_neg (by simp[this])]
theorem trimR_step (c:UInt8) (r:List UInt8):Lib.trimRightB (r++[c]) c=Lib.trimRightB r c:=by
 unfold Lib.trimRightB
 rw[List.reverse_append,List.reverse_singleton,List.singleton_append,List.dropWhile_cons_of_pos (by simp)]
theorem trimR_stop {c:UInt8} {l:List UInt8} (h:∀ x,l.getLast?=some x->x≠c):Lib.trimRightB l c=l:=by
 rcases List.eq_nil_or_concat l with rfl | ⟨r,a,rfl⟩
 ·rfl
 ·have:=h a (by simp)
  unfold Lib.trimRightB
  rw[List.concat_eq_append,List.reverse_append,List.reverse_singleton,List.singleton_append,List.dropWhile_cons_of_neg (by simp[this])]
  simp
theorem ext_first (s:ByteArray):(s.extract 1 s.size).data.toList=s.data.toList.drop 1:=by
 rw[Lib.extract_from]
theorem ext_last (s:ByteArray):(s.extract 0 (s.size - 1)).data.toList=s.data.toList.take (s.size - 1):=by
 rw[Lib.extract_upto]
theorem trimL_cut {s:ByteArray} (h:bAt s 0=32):Lib.trimLeftB (s.extract 1 s.size).data.toList 32=Lib.trimLeftB s.data.toList 32:=by
 rw[ext_first]
 unfold bAt at h
 cases hl:s.data.toList with
 |nil=>rfl
 |cons a r=>
  rw[hl]at h
  have ha:a=32:=UInt8.toNat_inj.1 (by simpa using h)
  subst ha
  rw[trimL_step];rfl
theorem trimL_end {s:ByteArray} (h:s.size=0\/bAt s 0≠32):Lib.trimLeftB s.data.toList 32=s.data.toList:=by
 refine trimL_stop fun x hx e=>?_
 subst e
 unfold bAt at h
 rw[List.getD_eq_getElem?_getD,hx]at h
 rcases h with h | h
 ·have:s.data.toList.length=s.size:=Array.length_toList
  have h2:=(List.getElem?_eq_some_iff.1 hx).1
  omega
 ·exact h rfl
theorem list_last (s:ByteArray) (h:0<s.size):s.data.toList=s.data.toList.take (s.size - 1)++[s.data.toList.getD (s.size - 1) 0]:=by
 have hl:s.data.toList.length=s.size:=Array.length_toList
 conv=>lhs;rw[<-List.take_append_drop (s.size - 1) s.data.toList]
 congr 1
 rw[List.drop_eq_getElem_cons (by omega),List.drop_eq_nil_of_le (by omega),List.getD_eq_getElem?_getD,List.getElem?_eq_getElem (by omega)]
 rfl
theorem trimR_cut {s:ByteArray} (h0:0<s.size) (h:bAt s (s.size - 1)=32):Lib.trimRightB (s.extract 0 (s.size - 1)).data.toList 32=Lib.trimRightB s.data.toList 32:=by
 rw[ext_last]
 conv=>rhs;rw[list_last s h0]
 have e:s.data.toList.getD (s.size - 1) 0=32:=UInt8.toNat_inj.1 h
 rw[e,trimR_step]
theorem trimR_end {s:ByteArray} (h:s.size=0\/bAt s (s.size - 1)≠32):Lib.trimRightB s.data.toList 32=s.data.toList:=by
 refine trimR_stop fun x hx e=>?_
 subst e
 have hl:s.data.toList.length=s.size:=Array.length_toList
 rw[List.getLast?_eq_getElem?,hl]at hx
 rcases h with h | h
 ·have h2:=(List.getElem?_eq_some_iff.1 hx).1
  omega
 ·refine h ?_
  unfold bAt
  rw[List.getD_eq_getElem?_getD,hx];rfl
theorem sentGo_end (s:ByteArray) (start:Nat):sentGo s 0 start=if piece s start s.size=[] then [] else [piece s start s.size]:=rfl
end Go.Proofs.YtdkkhmjlamkgdaaGreatDoor
namespace Go.Proofs.YtdkkhmjlamkgdaaGreatDoor
open Go.RowKit Mg Go.Shelf Go.Maps
theorem empty_of {t:ByteArray} (h:t.size=0):t.toList.isEmpty=true/\(!t.toList.isEmpty)=false:=by
 have:t.toList=[]:=by rw[ByteArray.toList_eq];exact List.eq_nil_of_length_eq_zero (by rw[Array.length_toList];exact h)
 rw[this];exact⟨rfl,rfl⟩
theorem empty_not {t:ByteArray} (h:t.size≠0):t.toList.isEmpty=false/\(!t.toList.isEmpty)=true:=by
 have:t.toList≠[]:=fun e=>by
  rw[ByteArray.toList_eq]at e
  have:=congrArg List.length e
  rw[Array.length_toList]at this
  exact h this
 cases hl:t.toList with
 |nil=>exact absurd hl this
 |cons a r=>exact⟨rfl,rfl⟩
set_option maxHeartbeats 4000000 in
theorem ends_any (s:ByteArray) (k:Nat) (hk:k<s.size) (hs:s.size<=1099511627776) (w:World):
 Calls Tryz.prog 106 #[.string s,.int .i64 k] w fun e w'=>e=.returned (.bool (sEnds s k))/\w=w':=by
 rcases k with _ | _ | k
 ·have hb:bAt s 0=s[0].toNat:=bAt_get s 0 hk
  have HB:=Lib.hid hb
  clear hb
  by_cases h1:0+1<s.size
  ·have hb1:bAt s (0+1)=(s[1]'h1).toNat:=bAt_get s (0+1) h1
   have HB1:=Lib.hid hb1
   clear hb1
   go_enter Tryz.func106,Tryz.ntmps106
   go_wp2_with fail
   all_goals
    go_ret
    refine⟨ret_bool ?_,rfl⟩
    symm
    rw[Bool.eq_iff_iff,sEnds_iff,HB.out,HB1.out]
    simp[initB]
    try simp only[ne_eq,bne_iff_ne,bne_eq_false_iff_eq]at *
    try omega
  ·have h2:0+1=s.size:=by omega
   go_enter Tryz.func106,Tryz.ntmps106
   go_wp2_with fail
   all_goals
    go_ret
    refine⟨ret_bool ?_,rfl⟩
    symm
    rw[Bool.eq_iff_iff,sEnds_iff,HB.out]
    simp[initB]
    try simp only[ne_eq,bne_iff_ne,bne_eq_false_iff_eq]at *
    try omega
 ·have hb:bAt s (0+1)=s[1].toNat:=bAt_get s (0+1) hk
  have HB:=Lib.hid hb
  clear hb
  have hb0:bAt s 0=(s[0]'(by omega)).toNat:=bAt_get s 0 (by omega)
  have HB0:=Lib.hid hb0
  clear hb0
  by_cases h1:0+1+1<s.size
  ·have hb1:bAt s (0+1+1)=(s[2]'h1).toNat:=bAt_get s (0+1+1) h1
   have HB1:=Lib.hid hb1
   clear hb1
   go_enter Tryz.func106,Tryz.ntmps106
   go_wp2_with fail
   all_goals
    go_ret
    refine⟨ret_bool ?_,rfl⟩
    symm
    rw[Bool.eq_iff_iff,sEnds_iff,HB.out,HB1.out]
    simp[initB,HB0.out]
    try simp only[ne_eq,bne_iff_ne,bne_eq_false_iff_eq]at *
    try omega
  ·have h2:0+1+1=s.size:=by omega
   go_enter Tryz.func106,Tryz.ntmps106
   go_wp2_with fail
   all_goals
    go_ret
    refine⟨ret_bool ?_,rfl⟩
    symm
    rw[Bool.eq_iff_iff,sEnds_iff,HB.out]
    simp[initB,HB0.out]
    try simp only[ne_eq,bne_iff_ne,bne_eq_false_iff_eq]at *
    try omega
 ·have hb:bAt s (k+1+1)=s[k+1+1].toNat:=bAt_get s (k+1+1) hk
  have HB:=Lib.hid hb
  clear hb
  have hb0:bAt s (k+1)=(s[k+1]'(by omega)).toNat:=bAt_get s (k+1) (by omega)
  have HB0:=Lib.hid hb0
  clear hb0
  have hb9:bAt s k=(s[k]'(by omega)).toNat:=bAt_get s k (by omega)
  have HB9:=Lib.hid hb9
  clear hb9
  by_cases h1:k+1+1+1<s.size
  ·have hb1:bAt s (k+1+1+1)=(s[k+1+1+1]'h1).toNat:=bAt_get s (k+1+1+1) h1
   have HB1:=Lib.hid hb1
   clear hb1
   go_enter Tryz.func106,Tryz.ntmps106
   go_wp2_with fail
   all_goals
    go_ret
    refine⟨ret_bool ?_,rfl⟩
    symm
    rw[Bool.eq_iff_iff,sEnds_iff,HB.out,HB1.out]
    simp[initB,HB0.out,HB9.out]
    try simp only[ne_eq,bne_iff_ne,bne_eq_false_iff_eq]at *
    try omega
  ·have h2:k+1+1+1=s.size:=by omega
   go_enter Tryz.func106,Tryz.ntmps106
   go_wp2_with fail
   all_goals
    go_ret
    refine⟨ret_bool ?_,rfl⟩
    symm
    rw[Bool.eq_iff_iff,sEnds_iff,HB.out]
    simp[initB,HB0.out,HB9.out]
    try simp only[ne_eq,bne_iff_ne,bne_eq_false_iff_eq]at *
    try omega
end Go.Proofs.YtdkkhmjlamkgdaaGreatDoor

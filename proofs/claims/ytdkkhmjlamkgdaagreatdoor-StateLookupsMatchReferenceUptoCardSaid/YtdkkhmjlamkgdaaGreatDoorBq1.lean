/-
  WHAT IS PROVED HERE: 32 texts joined, each with its own head: what the walks of the program give. Conditions: each at its place.
-/
import Derived.WalkKit
import Derived.WalkSpells
import Derived.WalkLawsBesides
import Derived.Below
import Derived.Lib.ConvBytes
import Derived.Lib.Hide
import Derived.Laws.IdiomStrings
import Derived.Lib.AppendStr
import Derived.Lib.Strings
import Derived.Laws.OwnMore
import Derived.Deep.AppendLies
import Derived.Deep.Draws
import Derived.Maps.AppendAt
import Derived.RegionTactic
import Derived.OwnWalk
import Derived.Great.BuildSlice
import Derived.Deep.WholeRow
import Derived.Laws.MakeOwn
import Derived.Deep.MidRow
import Derived.Maps.OwnSet
import Derived.Maps.OwnOps
import Derived.Maps.OwnIn
import Derived.Maps.Ext
import Derived.Lib.TrimByte
import Derived.RangeFuncBox
import Derived.Test.YtdkkhmjlamkgdaaGreatDoorProg
import Derived.Deep.QuietTactic
import Derived.BigQuiet
import Derived.Shelf.Abstract
import Derived.OwnWalkIn
import Derived.TacticsInMore
import Derived.LoopNIn
import Derived.LoopIn
import Derived.RangeFuncNested
import Derived.RangeFuncBound
import Derived.RangeFuncCalls
import Derived.RangeFuncLeaves
import Derived.RangeFuncWrites
import Derived.Deep.RegionHeld
import Derived.StillTail
import Derived.OrdersIn
import Derived.Laws.Rows
import Derived.Laws.CopyOwn
import Derived.Deep.Cut
import Derived.StillTailTactics
namespace Go.Proofs.YtdkkhmjlamkgdaaGreatDoor
open Go.RowKit
def bs (l:List UInt8):ByteArray:=⟨l.toArray⟩
@[simp] theorem bs_size (l:List UInt8):(bs l).size=l.length:=by simp[bs,ByteArray.size]
@[simp] theorem bs_list (l:List UInt8):(bs l).data.toList=l:=by simp[bs]
theorem bs_get (l:List UInt8) (j:Nat) (h:j<(bs l).size):(bs l)[j]=l[j]'(by simpa using h):=by simp[bs,ByteArray.getElem_eq_getElem_data]
theorem bs_of (s:ByteArray):bs s.data.toList=s:=by simp[bs]
theorem size_list (s:ByteArray):s.data.toList.length=s.size:=by simp
theorem get_list (s:ByteArray) (j:Nat) (h:j<s.size):s.data.toList[j]'(by simpa using h)=s[j]:=by simp[ByteArray.getElem_eq_getElem_data]
theorem str_ext {a b:ByteArray} (h:a.data.toList=b.data.toList):a=b:=by rw[<-bs_of a,h,bs_of]
theorem extract_list (s:ByteArray) (a b:Nat):(s.extract a b).data.toList=(s.data.toList.take b).drop a:=by
 simp[ByteArray.data_extract,List.drop_take]
theorem list_get (s:ByteArray) (j:Nat) (h:j<s.size):s.data.toList[j]?=some s[j]:=by
 rw[List.getElem?_eq_getElem (by simpa using h),get_list s j h]
structure Upd (F:Nat->Prop) (w w':World):Prop where
 os:w'.os=w.os
 tape:w'.tape=w.tape
 output:w'.output=w.output
 size:w.heap.size<=w'.heap.size
 block:∀ k,k<w.heap.size->¬ F k->w'.heap[k]?=w.heap[k]?
section
variable {F:Nat->Prop} {a w w':World}
theorem Upd.refl (F:Nat->Prop) (w:World):Upd F w w:=⟨rfl,rfl,rfl,Nat.le_refl _,fun _ _ _=>rfl⟩
theorem Upd.trans {G:Nat->Prop} (h:Upd F a w) (k:Upd G w w') (hG:∀ i,G i->F i\/a.heap.size<=i):Upd F a w':=
 ⟨k.os.trans h.os,k.tape.trans h.tape,k.output.trans h.output,Nat.le_trans h.size k.size,fun i hi hn=>
   (k.block i (Nat.lt_of_lt_of_le hi h.size) (fun g=>by rcases hG i g with g | g;exact hn g;omega)).trans (h.block i hi hn)⟩
theorem Upd.mono {G:Nat->Prop} (h:Upd F a w) (hG:∀ i,F i->G i\/a.heap.size<=i):Upd G a w:=
 ⟨h.os,h.tape,h.output,h.size,fun i hi hn=>h.block i hi (fun f=>by rcases hG i f with g | g;exact hn g;omega)⟩
theorem Upd.drew (h:Upd F a w):Upd F a w.drew:=⟨h.os,h.tape,h.output,h.size,h.block⟩
theorem Upd.alloc (h:Upd F a w) (o:Obj):Upd F a (w.alloc o):=
 ⟨h.os,h.tape,h.output,Nat.le_trans h.size (by simp),fun i hi hn=>(Below.heap_alloc _ _ _ (Nat.lt_of_lt_of_le hi h.size)).trans (h.block i hi hn)⟩
theorem Upd.setCell (h:Upd F a w) {p:Addr} (hp:F p.block\/a.heap.size<=p.block) (u:Value):Upd F a (w.setCell p u):=
 ⟨h.os,h.tape,h.output,Nat.le_trans h.size (by simp[World.setCell]),fun i hi hn=>by
   rw[Below.heap_setCell _ _ _ _ (fun e=>by subst e;rcases hp with g | g;exact hn g;omega)];exact h.block i hi hn⟩
theorem Upd.of_below {B:Nat} (h:Below B w w'):Upd (fun k=>B<=k) w w':=⟨h.os,h.tape,h.output,h.size,fun i _ hn=>h.block i (by omega)⟩
theorem Upd.below {B:Nat} (h:Upd F w w') (hF:∀ i,F i->B<=i) (hB:B<=w.heap.size):Below B w w':=
 ⟨h.os,h.tape,h.output,h.size,fun i hi=>h.block i (by omega) (fun f=>by have:=hF i f;omega)⟩
theorem Upd.grown {row:Option Nat} (h:Upd F a w) (hg:w.grownBy w' row) (hr:∀ k,row=some k->F k\/a.heap.size<=k):Upd F a w':=
 h.trans (G:=fun k=>row=some k) ⟨hg.os,hg.tape,hg.output,hg.size,fun k hk hn=>hg.block k hk (fun e=>hn e.symm)⟩ (fun i e=>hr i e)
theorem Upd.cell (h:Upd F w w') {p:Addr} (hp:p.block<w.heap.size) (hn:¬ F p.block):w'.cell? p=w.cell? p:=World.cell?_of_block (h.block p.block hp hn)
theorem Upd.frozen (h:Upd F w w') {p:Addr} (hp:p.block<w.heap.size) (hn:¬ F p.block):w'.frozen? p=w.frozen? p:=World.frozen?_of_block (h.block p.block hp hn)
theorem Upd.cell_some (h:Upd F w w') {p:Addr} {v:Value} (hv:w.cell? p=some v) (hn:¬ F p.block):w'.cell? p=some v:=
 (h.cell (World.block_lt_of_cell? w p hv) hn).trans hv
end
theorem named {α:Sort _} (x:α):∃ y,Hid (y=x):=⟨x,Lib.hid rfl⟩
theorem sc_other {w:World} {a b:Addr} {v:Value} (h:a≠b):(w.setCell a v).cell? b=w.cell? b:=by
 first|exact World.cell?_setCell_other h | exact World.cell?_setCell_other _ _ _ _ h | exact World.cell?_setCell_other _ _ _ h
theorem sc_blk {w:World} {g h i j:Nat} {v:Value} (e:g≠h):(w.setCell ⟨g,i,none⟩ v).cell? ⟨h,j,none⟩=w.cell? ⟨h,j,none⟩:=
 sc_other (by intro e;injection e;omega)
theorem block_of_add (a:Addr) (n:Nat):(a.add n).block=a.block:=by unfold Addr.add;split <;> rfl
theorem add_of_add (a:Addr) (i j:Nat):(a.add i).add j=a.add (i+j):=by
 unfold Addr.add
 by_cases hi:i=0 <;> by_cases hj:j=0 <;> simp[hi,hj,Nat.add_assoc]
def Reads (w:World) (B size:Nat) (A:Option Addr) (n:Nat) (xs:List Value):Prop:=
 xs.length=n * size/\(0<n->∃ ad,A=some ad/\ad.block<B/\∀ j u,xs[j]?=some u->w.cell? (ad.add j)=some u)
section
variable {w w':World} {B B' size n:Nat} {A:Option Addr} {xs:List Value}
theorem Reads.none_:Reads w B size A 0 []:=⟨by simp,fun h=>absurd h (by omega)⟩
theorem Reads.keep (h:Reads w B size A n xs) (hk:∀ p:Addr,p.block<B->w'.cell? p=w.cell? p):Reads w' B size A n xs:=
 ⟨h.1,fun hn=>by
   obtain⟨ad,e,hb,hc⟩:=h.2 hn
   exact⟨ad,e,hb,fun j u hu=>(hk _ (by rw[block_of_add];exact hb)).trans (hc j u hu)⟩⟩
theorem Reads.alloc (h:Reads w B size A n xs) (hB:B<=w.heap.size) (o:Obj):Reads (w.alloc o) B size A n xs:=h.keep fun p hp=>World.cell?_alloc_lt w o p (by omega)
theorem Reads.grown (h:Reads w B size A n xs) {row:Option Nat} (hg:w.grownBy w' row) (hB:B<=w.heap.size) (hr:∀ g,row=some g->B<=g):Reads w' B size A n xs:=
 h.keep fun p hp=>World.cell?_of_block (hg.block p.block (by omega) (fun e=>by have:=hr _ e.symm;omega))
theorem Reads.cut (h:Reads w B size A n xs) {k cap:Nat} (hk:k<=n) (hc:n<=cap):
 Reads w B size (if cap=k then A else A.map (·.add (k * size))) (n - k) (xs.drop (k * size)):=by
 refine⟨by rw[List.length_drop,h.1,Nat.sub_mul],fun hn=>?_⟩
 obtain⟨ad,rfl,hb,hcell⟩:=h.2 (by omega)
 rw[if_neg (by omega)]
 refine⟨ad.add (k * size),rfl,by rw[block_of_add];exact hb,fun j u hu=>?_⟩
 rw[add_of_add]
 exact hcell _ u (by rw[<-hu,List.getElem?_drop])
theorem Reads.of_own {base:Nat} {e:TypeId} {c:Nat} (h:w.ownsRow base e size (.slice A n c) n xs):Reads w w.heap.size size A n xs:=by
 refine⟨h.1,fun hn=>?_⟩
 obtain⟨g,cap,hv,_,hlt⟩:=h.form hn
 have hA:A=some ⟨g,0,none⟩:=by injection hv
 subst hA
 exact⟨_,rfl,hlt,h.cells (g:=g) rfl⟩
end
section
variable {P:Program} (w:World)
theorem run_append_of_nil (base:Nat) (t ty e:TypeId) (i:TypeInfo) (size:Nat) (ht:P.underlying t=some (.slice e)) (hi:P.info? e=some i)
 (v:Value) (n:Nat) (xs:List Value) (hown:w.ownsRow base e size v n xs) (c:Nat):(Builtin.append_ #[t,t] ty #[v,.slice none 0 c]).run P w=.ok v w:=by
 rcases hown.2 with ⟨rfl,rfl⟩ | ⟨g,cap,cur,rfl,_,_,hnc,_⟩
 ·simp[Builtin.append_,run_underlying ht,sizeOf,typeInfo,hi,Builtin.lenOf,Builtin.firstCells]
 ·simp[Builtin.append_,run_underlying ht,sizeOf,typeInfo,hi,Builtin.lenOf,Builtin.firstCells,hnc,storeCells]
theorem run_append_any (base:Nat) (t ty e:TypeId) (i:TypeInfo) (z:Value) (size bytes:Nat) (ht:P.underlying t=some (.slice e)) (hi:P.info? e=some i) (hz:i.zero=some z)
 (hsize:i.size=size) (hby:i.bytes=bytes) (hzs:z.cells.size=size) (hsz:0<size)
 (v:Value) (n:Nat) (xs:List Value) (hown:w.ownsRow base e size v n xs)
 (B:Nat) (A:Option Addr) (m c:Nat) (news:List Value) (hr:Reads w B size A m news) (h1:∀ u∈news,u.oneCell'=true)
 (h63:n+m<=maxLen) (hbytes:(n+m) * bytes<=140737488355328) (hbase:base<=w.heap.size):
 ∃ v' w',(Builtin.append_ #[t,t] ty #[v,.slice A m c]).run P w=.ok v' w'/\w'.ownsRow base e size v' (n+m) (xs++news)/\w.grownBy w' v.ownBlock ∧
  (v'.ownBlock=v.ownBlock\/v'.ownBlock=some w.heap.size):=by
 rcases A with _ | ad
 ·have hm:m=0:=by
   rcases Nat.eq_zero_or_pos m with h0 | h0
   ·exact h0
   ·obtain⟨ad,h,_⟩:=hr.2 h0
    cases h
  subst hm
  have hn:news=[]:=List.eq_nil_of_length_eq_zero (by simpa using hr.1)
  subst hn
  exact⟨v,w,run_append_of_nil w base t ty e i size ht hi v n xs hown c,by simpa using hown,World.grownBy.refl w _,.inl rfl⟩
 ·have hcells:∀ j u,news[j]?=some u->w.cell? (ad.add j)=some u:=by
   intro j u hu
   rcases Nat.eq_zero_or_pos m with h0 | h0
   ·subst h0
    have hn:news=[]:=List.eq_nil_of_length_eq_zero (by simpa using hr.1)
    subst hn
    simp at hu
   ·obtain⟨ad',h,_,hc⟩:=hr.2 h0
    injection h with h
    subst h
    exact hc j u hu
  obtain⟨v',w',hrun,h2,h3,_,h5⟩:=run_append_own_at (P:=P) w base t ty e i z size bytes ht hi hz hsize hby hzs hsz v n xs hown ad m c news hr.1 hcells h1 h63 hbytes hbase
  exact⟨v',w',hrun,h2,h3,h5⟩
theorem wp_append_any {o:Oper} {a:Act} {K:Act->World->Prop} {Q:Exit->Act->World->Prop} (s x:Operand) (t:TypeId)
 (ho:o.op=.call { callee:=.builtin .append,args:=#[s,x],argTypes:=#[t,t] })
 (base:Nat) (e:TypeId) (i:TypeInfo) (z:Value) (size bytes:Nat) (ht:P.underlying t=some (.slice e)) (hi:P.info? e=some i) (hz:i.zero=some z)
 (hsize:i.size=size) (hby:i.bytes=bytes) (hzs:z.cells.size=size) (hsz:0<size)
 (v:Value) (n:Nat) (xs:List Value) (hs:a.eval s=v) (hown:w.ownsRow base e size v n xs)
 (B:Nat) (A:Option Addr) (m c:Nat) (news:List Value) (hx:a.eval x=.slice A m c) (hr:Reads w B size A m news) (h1:∀ u∈news,u.oneCell'=true)
 (h63:n+m<=maxLen) (hbytes:(n+m) * bytes<=140737488355328) (hbase:base<=w.heap.size)
 (h:∀ v' w',w'.ownsRow base e size v' (n+m) (xs++news)->w.grownBy w' v.ownBlock->(v'.ownBlock=v.ownBlock\/v'.ownBlock=some w.heap.size)->K (a.put o.dst v') w'):o.wp P a w K Q:=by
 obtain⟨v',w',hrun,h2,h3,h4⟩:=run_append_any (P:=P) w base t o.type e i z size bytes ht hi hz hsize hby hzs hsz v n xs hown B A m c news hr h1 h63 hbytes hbase
 unfold Oper.wp execOp
 simp only[ho,resolve,invoke,builtin,Sem.run_bind,Sem.run_pure,Result.andThen_ok,List.map_toArray,List.map_cons,List.map_nil,hs,hx,hrun]
 exact h v' w' h2 h3 h4
theorem wpList_append_any {ops:Array Oper} {rest:List Oper} {o:Oper} {a:Act} {Q:Exit->Act->World->Prop} (hgd:o.guard=none) (s x:Operand) (t:TypeId)
 (ho:o.op=.call { callee:=.builtin .append,args:=#[s,x],argTypes:=#[t,t] })
 (base:Nat) (e:TypeId) (i:TypeInfo) (z:Value) (size bytes:Nat) (ht:P.underlying t=some (.slice e)) (hi:P.info? e=some i) (hz:i.zero=some z)
 (hsize:i.size=size) (hby:i.bytes=bytes) (hzs:z.cells.size=size) (hsz:0<size)
 (v:Value) (n:Nat) (xs:List Value) (hs:a.eval s=v) (hown:w.ownsRow base e size v n xs)
 (B:Nat) (A:Option Addr) (m c:Nat) (news:List Value) (hx:a.eval x=.slice A m c) (hr:Reads w B size A m news) (h1:∀ u∈news,u.oneCell'=true)
 (h63:n+m<=maxLen) (hbytes:(n+m) * bytes<=140737488355328) (hbase:base<=w.heap.size)
 (h:∀ v' w',w'.ownsRow base e size v' (n+m) (xs++news)->w.grownBy w' v.ownBlock->(v'.ownBlock=v.ownBlock\/v'.ownBlock=some w.heap.size)->wpList P ops Q rest (a.put o.dst v') w'):wpList P ops Q (o::rest) a w:=
 wpList_plain hgd fun _ hK=>wp_append_any w s x t ho base e i z size bytes ht hi hz hsize hby hzs hsz v n xs hs hown B A m c news hx hr h1 h63 hbytes hbase fun v' w' h2 h3 h4=>hK _ _ (h v' w' h2 h3 h4)
end
structure ElemT (P:Program) (t e:TypeId) (z:Value) (sz bytes:Nat):Prop where
 und:P.underlying t=some (.slice e)
 inf:(P.info? e).map (fun i=>(i.zero,i.size,i.bytes))=some (some z,sz,bytes)
 zs:z.cells.size=sz
 pos:0<sz
 small:bytes<=1000
 small2:sz<=1000
def OneC (c:Array Value):Prop:=∀ u∈c.toList,u.oneCell'=true
def GRow (w:World) (B:Nat) (e:TypeId) (sz:Nat) (v:Value) (cs:List (Array Value)):Prop:=
 w.ownsRow B e sz v cs.length (cs.flatMap Array.toList)/\∀ c∈cs,c.size=sz/\OneC c
theorem flat_len {sz:Nat}:∀ {cs:List (Array Value)},(∀ c∈cs,c.size=sz)->(cs.flatMap Array.toList).length=cs.length * sz
 |[],_=>by simp
 |c::cs,h=>by
  rw[List.flatMap_cons,List.length_append,flat_len (fun x hx=>h x (List.mem_cons_of_mem _ hx)),Array.length_toList,h c List.mem_cons_self,List.length_cons,Nat.succ_mul];omega
theorem flat_cells {sz:Nat}:∀ {cs:List (Array Value)} (_:∀ c∈cs,c.size=sz) (j t:Nat) (hj:j<cs.length),t<sz->(cs.flatMap Array.toList)[j * sz+t]?=cs[j][t]?
 |[],_,_,_,hj,_=>absurd hj (by simp)
 |c::cs,h,0,t,_,ht=>by
  have:=h c List.mem_cons_self
  rw[List.flatMap_cons,List.getElem?_append_left (by rw[Array.length_toList];omega)]
  simp
 |c::cs,h,j+1,t,hj,ht=>by
  have hc:=h c List.mem_cons_self
  have e:(j+1) * sz+t - c.toList.length=j * sz+t:=by rw[Array.length_toList,hc,Nat.succ_mul];omega
  rw[List.flatMap_cons,List.getElem?_append_right (by rw[Array.length_toList,hc,Nat.succ_mul];omega),e]
  exact flat_cells (fun x hx=>h x (List.mem_cons_of_mem _ hx)) j t (by simpa using hj) ht
theorem rowcell {w:World} {g j:Nat} {cs:Array Value} {t:TypeId} (h:w.heap[g]?=some (.cells cs t (0,0))):w.cell? ⟨g,j,none⟩=cs[j]?:=cell_of_row w g j cs t (0,0) h
theorem rowfree {w:World} {g j:Nat} {cs:Array Value} {t:TypeId} (h:w.heap[g]?=some (.cells cs t (0,0))):w.frozen? ⟨g,j,none⟩=false:=by simp[World.frozen?,h]
theorem heap_lt {w:World} {g:Nat} {x:Obj} (h:w.heap[g]?=some x):g<w.heap.size:=(Array.getElem?_eq_some_iff.1 h).1
section
variable {w w':World} {B:Nat} {e:TypeId} {sz:Nat} {v:Value} {cs:List (Array Value)}
theorem GRow.nil (w:World) (B:Nat) (e:TypeId) (sz:Nat):GRow w B e sz (.slice none 0 0) []:=⟨World.ownsRow_nil _ _ _ _,by simp⟩
theorem GRow.ge (h:GRow w B e sz v cs):∀ k,v.ownBlock=some k->B<=k/\k<w.heap.size:=World.ownsRow.lt h.1
theorem GRow.shape (h:GRow w B e sz v cs):∃ ao cap,v=.slice ao cs.length cap:=by
 rcases h.1.2 with ⟨rfl,hz⟩ | ⟨g,cap,cur,rfl,_⟩
 ·exact⟨none,0,by rw[hz]⟩
 ·exact⟨_,_,rfl⟩
theorem GRow.same (h:GRow w B e sz v cs) (hk:∀ k,v.ownBlock=some k->w'.heap[k]?=w.heap[k]?):GRow w' B e sz v cs:=by
 refine⟨⟨h.1.1,?_⟩,h.2⟩
 rcases h.1.2 with hq | ⟨g,cap,cur,rfl,hb,hgg,rest⟩
 ·exact .inl hq
 ·exact .inr ⟨g,cap,cur,rfl,hb,(hk g rfl).trans hgg,rest⟩
theorem GRow.upd {F:Nat->Prop} (h:GRow w B e sz v cs) (hu:Upd F w w') (hn:∀ k,v.ownBlock=some k->¬ F k):GRow w' B e sz v cs:=
 h.same fun k hk=>hu.block k (h.ge k hk).2 (hn k hk)
theorem GRow.bel (h:GRow w B e sz v cs) (hb:Below w.heap.size w w'):GRow w' B e sz v cs:=h.same fun k hk=>hb.block k (h.ge k hk).2
theorem GRow.alloc (h:GRow w B e sz v cs) (o:Obj):GRow (w.alloc o) B e sz v cs:=h.bel ((Below.refl _ w).alloc (Nat.le_refl _) _)
theorem GRow.weaken {B':Nat} (h:GRow w B e sz v cs) (hB:B'<=B):GRow w B' e sz v cs:=by
 refine⟨⟨h.1.1,?_⟩,h.2⟩
 rcases h.1.2 with hq | ⟨g,cap,cur,rfl,hb,rest⟩
 ·exact .inl hq
 ·exact .inr ⟨g,cap,cur,rfl,by omega,rest⟩
theorem GRow.blk (h:GRow w B e sz v cs):∀ k,v.ownBlock=some k->∃ cells,w.heap[k]?=some (.cells cells e (0,0)):=fun k hk=>by
 rcases h.1.2 with ⟨rfl,_⟩ | ⟨g,cap,cur,rfl,_,hgg,_⟩
 ·cases hk
 ·injection hk with hk
  subst hk
  exact⟨_,hgg⟩
theorem GRow.at_ (h:GRow w B e sz v cs) (j:Nat) (hj:j<cs.length):∃ g cap,v=.slice (some ⟨g,0,none⟩) cs.length cap/\B<=g/\g<w.heap.size/\cs.length<=cap/\cap<=maxLen/\(∀ t,t<sz->w.cell? ⟨g,j * sz+t,none⟩=cs[j][t]?)/\∀ i,w.frozen? ⟨g,i,none⟩=false:=by
 rcases h.1.2 with ⟨_,hz⟩ | ⟨g,cap,cur,rfl,hb,hgg,hn,hc,hs,ht⟩
 ·omega
 ·refine⟨g,cap,rfl,hb,heap_lt hgg,hn,hc,fun t htl=>?_,fun i=>rowfree hgg⟩
  rw[rowcell hgg]
  have h5:(cur.toList.take (cs.length * sz))[j * sz+t]?=(cs.flatMap Array.toList)[j * sz+t]?:=by rw[ht]
  rw[List.getElem?_take_of_lt (by
   have:(j+1) * sz<=cs.length * sz:=Nat.mul_le_mul_right _ (by omega)
   rw[Nat.succ_mul]at this
   omega),flat_cells (fun c hc=>(h.2 c hc).1) j t hj htl]at h5
  rw[<-Array.getElem?_toList];exact h5
theorem GRow.reads {ao:Option Addr} {cap:Nat} (h:GRow w B e sz (.slice ao cs.length cap) cs):Reads w w.heap.size sz ao cs.length (cs.flatMap Array.toList):=Reads.of_own h.1
end
theorem flat_set {sz:Nat} {u:Value}:∀ {cs:List (Array Value)} (_:∀ c∈cs,c.size=sz) (j t:Nat) (hj:j<cs.length),t<sz->(cs.set j (cs[j].setIfInBounds t u)).flatMap Array.toList=(cs.flatMap Array.toList).set (j * sz+t) u
 |[],_,_,_,hj,_=>absurd hj (by simp)
 |c::cs,h,0,t,_,ht=>by
  have:=h c List.mem_cons_self
  rw[List.set_cons_zero,List.flatMap_cons,List.flatMap_cons,List.set_append_left _ _ (by rw[Array.length_toList];omega)]
  simp
 |c::cs,h,j+1,t,hj,ht=>by
  have hc:=h c List.mem_cons_self
  have e:(j+1) * sz+t - c.toList.length=j * sz+t:=by rw[Array.length_toList,hc,Nat.succ_mul];omega
  rw[List.set_cons_succ,List.flatMap_cons,List.flatMap_cons,List.set_append_right _ _ (by rw[Array.length_toList,hc,Nat.succ_mul];omega),e]
  congr 1
  exact flat_set (fun x hx=>h x (List.mem_cons_of_mem _ hx)) j t (by simpa using hj) ht
theorem GRow.set_ {w:World} {B:Nat} {e:TypeId} {sz:Nat} {g n cap:Nat} {cs:List (Array Value)} (h:GRow w B e sz (.slice (some ⟨g,0,none⟩) n cap) cs) (j t:Nat) (hj:j<cs.length) (ht:t<sz) {u:Value} (hu:u.oneCell'=true):
 GRow (w.setCell ⟨g,j * sz+t,none⟩ u) B e sz (.slice (some ⟨g,0,none⟩) n cap) (cs.set j (cs[j].setIfInBounds t u)):=by
 have hsz:∀ c∈cs,c.size=sz:=fun c hc=>(h.2 c hc).1
 refine⟨⟨by rw[flat_set hsz j t hj ht,List.length_set,List.length_set];exact h.1.1,?_⟩,fun c hc=>?_⟩
 ·rcases h.1.2 with ⟨hq,_⟩ | ⟨g',cap',cur,hv,hb,hgg,hn,hc,hs,htk⟩
  ·cases hq
  ·injection hv with hv hv2 hv3
   subst hv2 hv3
   injection hv with hv
   injection hv with hv
   subst hv
   refine .inr ⟨g,cap,cur.setIfInBounds (j * sz+t) u,by rw[List.length_set],hb,?_,by rw[List.length_set];exact hn,hc,by rw[Array.size_setIfInBounds];exact hs,?_⟩
   ·rw[setCell_eq_setRow w g (j * sz+t) cur e (0,0) u hgg]
    exact setRow_heap _ _ _ _ _ _ hgg
   ·rw[List.length_set,flat_set hsz j t hj ht,Array.toList_setIfInBounds,List.take_set,htk]
 ·rcases List.mem_or_eq_of_mem_set hc with hc | hc
  ·exact h.2 c hc
  ·subst hc
   have h0:=h.2 _ (List.getElem_mem hj)
   refine⟨by rw[Array.size_setIfInBounds];exact h0.1,fun x hx=>?_⟩
   rw[Array.toList_setIfInBounds]at hx
   rcases List.mem_or_eq_of_mem_set hx with hx | hx
   ·exact h0.2 x hx
   ·rw[hx];exact hu
theorem fold_set (P:List Value):∀ (l:List Value) (k:Nat) (acc:Array Value),P.length=k->acc.toList=P++acc.toList.drop k->k+l.length<=acc.size →
 ((l.zipIdx k).foldl (fun (cs:Array Value) (x:Value × Nat)=>cs.setIfInBounds (0+x.2) x.1) acc).toList=P++l++acc.toList.drop (k+l.length)
 |[],k,acc,_,h,_=>by simpa using h
 |c::l,k,acc,hP,h,hs=>by
  have hk:k<acc.size:=by simp at hs;omega
  rw[List.zipIdx_cons,List.foldl_cons]
  have e1:(acc.setIfInBounds (0+k) c).toList=(P++[c])++(acc.setIfInBounds (0+k) c).toList.drop (k+1):=by
   rw[Array.toList_setIfInBounds,Nat.zero_add]
   have hP2:P=acc.toList.take k:=by
    have:=congrArg (List.take k) h
    rw[<-hP,List.take_left]at this
    rw[<-hP];exact this.symm
   rw[List.drop_set,if_pos (by omega)]
   rw[List.set_eq_take_append_cons_drop,if_pos (by simpa using hk),hP2]
   simp
  have:=fold_set (P++[c]) l (k+1) (acc.setIfInBounds (0+k) c) (by simp[hP]) e1 (by simp at hs ⊢;omega)
  rw[this,Array.toList_setIfInBounds,Nat.zero_add,List.drop_set,if_pos (by omega)]
  simp[Nat.add_assoc,Nat.add_comm 1]
theorem fill_one (sz:Nat) (init:Array Value) (v:Value) (h1:v.cells.size=sz) (h2:init.size=sz):Instr.fill (fun i=>some (i * sz,sz)) init [(0,v)]=some v.cells:=by
 unfold Instr.fill
 dsimp only
 rw[Nat.zero_mul,if_neg (by simp[h1,h2])]
 unfold Instr.fill
 congr 1
 apply Array.ext'
 have h3:v.cells.zipIdx.foldl (fun (cs:Array Value) (x:Value × Nat)=>cs.setIfInBounds (0+x.2) x.1) init=(v.cells.toList.zipIdx 0).foldl (fun (cs:Array Value) (x:Value × Nat)=>cs.setIfInBounds (0+x.2) x.1) init:=by
  rw[<-Array.foldl_toList,Array.toList_zipIdx]
 have h4:=fold_set [] v.cells.toList 0 init rfl (by simp) (by simp[h1,h2])
 rw[<-h3]at h4
 rw[show v.cells.zipIdx.foldl (fun cs x=>match x with | (c,j)=>cs.setIfInBounds (0+j) c) init=v.cells.zipIdx.foldl (fun (cs:Array Value) (x:Value × Nat)=>cs.setIfInBounds (0+x.2) x.1) init from rfl,h4]
 simp[h1,h2]
section
variable {P:Program} {t e:TypeId} {z:Value} {sz bytes:Nat} {w:World} {B:Nat} {v:Value} {cs:List (Array Value)}
theorem run_app_row (T:ElemT P t e z sz bytes) (h:GRow w B e sz v cs) (ao:Option Addr) (cap:Nat) (ds:List (Array Value)) (hd:∀ c∈ds,c.size=sz/\OneC c) (hr:Reads w w.heap.size sz ao ds.length (ds.flatMap Array.toList)) (hlen:cs.length+ds.length<=100000) (hB:B<=w.heap.size) (ty:Nat):
 ∃ v' w',(Builtin.append_ #[t,t] ty #[v,.slice ao ds.length cap]).run P w=.ok v' w'/\GRow w' B e sz v' (cs++ds)/\w.grownBy w' v.ownBlock/\(v'.ownBlock=v.ownBlock\/v'.ownBlock=some w.heap.size):=by
 obtain⟨i0,hi0,hz0,hz1,hz2⟩:=info_parts T.inf
 have hsm:=T.small
 obtain⟨v',w',hr,g2,g3,g5⟩:=run_append_any (P:=P) w B t ty e i0 z sz bytes T.und hi0 hz0 hz1 hz2 T.zs T.pos v cs.length (cs.flatMap Array.toList) h.1 w.heap.size ao ds.length cap (ds.flatMap Array.toList) hr
  (fun u hu=>by obtain⟨c,hc,hu⟩:=List.mem_flatMap.1 hu;exact(hd c hc).2 u hu) (by unfold maxLen;omega)
  (by have:=Nat.mul_le_mul hlen hsm;omega) hB
 refine⟨v',w',hr,⟨by rw[List.length_append,List.flatMap_append];exact g2,fun c hc=>?_⟩,g3,g5⟩
 rcases List.mem_append.1 hc with hc | hc
 ·exact h.2 c hc
 ·exact hd c hc
variable {ops:Array Oper} {rest:List Oper} {o:Oper} {a:Act} {Q:Exit->Act->World->Prop} {K:Act->World->Prop}
theorem wp_app_row (T:ElemT P t e z sz bytes) (s x:Operand) (ho:o.op=.call { callee:=.builtin .append,args:=#[s,x],argTypes:=#[t,t] })
 (hs:a.eval s=v) (h:GRow w B e sz v cs) (ao:Option Addr) (cap:Nat) (ds:List (Array Value)) (hd:∀ c∈ds,c.size=sz/\OneC c) (hx:a.eval x=.slice ao ds.length cap) (hr:Reads w w.heap.size sz ao ds.length (ds.flatMap Array.toList)) (hlen:cs.length+ds.length<=100000) (hB:B<=w.heap.size)
 (hK:∀ v' w',GRow w' B e sz v' (cs++ds)->w.grownBy w' v.ownBlock->(v'.ownBlock=v.ownBlock\/v'.ownBlock=some w.heap.size)->K (a.put o.dst v') w'):o.wp P a w K Q:=by
 obtain⟨v',w',hr,h2,h3,h4⟩:=run_app_row T h ao cap ds hd hr hlen hB o.type
 unfold Oper.wp execOp
 simp only[ho,resolve,invoke,builtin,Sem.run_bind,Sem.run_pure,Result.andThen_ok,List.map_toArray,List.map_cons,List.map_nil,hs,hx,hr]
 exact hK v' w' h2 h3 h4
theorem wpList_app_row (hgd:o.guard=none) (T:ElemT P t e z sz bytes) (s x:Operand) (ho:o.op=.call { callee:=.builtin .append,args:=#[s,x],argTypes:=#[t,t] })
 (hs:a.eval s=v) (h:GRow w B e sz v cs) (ao:Option Addr) (cap:Nat) (ds:List (Array Value)) (hd:∀ c∈ds,c.size=sz/\OneC c) (hx:a.eval x=.slice ao ds.length cap) (hr:Reads w w.heap.size sz ao ds.length (ds.flatMap Array.toList)) (hlen:cs.length+ds.length<=100000) (hB:B<=w.heap.size)
 (hK:∀ v' w',GRow w' B e sz v' (cs++ds)->w.grownBy w' v.ownBlock->(v'.ownBlock=v.ownBlock\/v'.ownBlock=some w.heap.size)->wpList P ops Q rest (a.put o.dst v') w'):wpList P ops Q (o::rest) a w:=
 wpList_plain hgd fun _ hK'=>wp_app_row T s x ho hs h ao cap ds hd hx hr hlen hB fun v' w' h1 h2 h3=>hK' _ _ (hK v' w' h1 h2 h3)
theorem reads_one {g:Nat} {c:Array Value} (hc:w.heap[g]?=some (.cells c e (0,0))) (hs:c.size=sz):Reads w w.heap.size sz (some ⟨g,0,none⟩) [c].length ([c].flatMap Array.toList):=by
 refine⟨by simp[hs],fun _=>⟨_,rfl,heap_lt hc,fun j u hj=>?_⟩⟩
 have e:(⟨g,0,none⟩:Addr).add j=⟨g,j,none⟩:=by unfold Addr.add;by_cases h0:j=0 <;> simp[h0]
 rw[e,rowcell hc]
 simpa using hj
theorem wp_app_one (T:ElemT P t e z sz bytes) (s x:Operand) (ho:o.op=.call { callee:=.builtin .append,args:=#[s,x],argTypes:=#[t,t] })
 (hs:a.eval s=v) (h:GRow w B e sz v cs) (c:Array Value) (hsz:c.size=sz) (h1:OneC c) (g cap:Nat) (hx:a.eval x=.slice (some ⟨g,0,none⟩) 1 cap) (hc:w.heap[g]?=some (.cells c e (0,0))) (hlen:cs.length+1<=100000) (hB:B<=w.heap.size)
 (hK:∀ v' w',GRow w' B e sz v' (cs++[c])->w.grownBy w' v.ownBlock->(v'.ownBlock=v.ownBlock\/v'.ownBlock=some w.heap.size)->K (a.put o.dst v') w'):o.wp P a w K Q:=
 wp_app_row T s x ho hs h _ cap [c] (fun y hy=>by rw[List.mem_singleton.1 hy];exact⟨hsz,h1⟩) hx (reads_one hc hsz) hlen hB hK
theorem wpList_app_one (hgd:o.guard=none) (T:ElemT P t e z sz bytes) (s x:Operand) (ho:o.op=.call { callee:=.builtin .append,args:=#[s,x],argTypes:=#[t,t] })
 (hs:a.eval s=v) (h:GRow w B e sz v cs) (c:Array Value) (hsz:c.size=sz) (h1:OneC c) (g cap:Nat) (hx:a.eval x=.slice (some ⟨g,0,none⟩) 1 cap) (hc:w.heap[g]?=some (.cells c e (0,0))) (hlen:cs.length+1<=100000) (hB:B<=w.heap.size)
 (hK:∀ v' w',GRow w' B e sz v' (cs++[c])->w.grownBy w' v.ownBlock->(v'.ownBlock=v.ownBlock\/v'.ownBlock=some w.heap.size)->wpList P ops Q rest (a.put o.dst v') w'):wpList P ops Q (o::rest) a w:=
 wpList_plain hgd fun _ hK'=>wp_app_one T s x ho hs h c hsz h1 g cap hx hc hlen hB fun v' w' h1 h2 h3=>hK' _ _ (hK v' w' h1 h2 h3)
theorem wp_one_slice (T:ElemT P t e z sz bytes) (parts:Array (Nat × Operand)) (ho:o.op=.buildSlice t 1 parts) (u:Value) (hu:u.cells.size=sz) (hf:(parts.map fun (i,x)=>(i,a.eval x)).toList=[(0,u)])
 (hK:K (a.put o.dst (.slice (some ⟨w.heap.size,0,none⟩) 1 1)) (w.alloc (.cells u.cells e))):o.wp P a w K Q:=by
 obtain⟨i0,hi0,hz0,hz1,hz2⟩:=info_parts T.inf
 have hsm:=T.small2
 have hp:=T.pos
 refine wp_buildSlice t e 1 parts ho u.cells i0 z T.und hi0 hz0 (by rw[hz1];omega) (by rw[hz1];omega) ?_ hK
 rw[hf,hz1]
 exact fill_one sz _ u hu (by simp)
theorem wpList_one_slice (hgd:o.guard=none) (T:ElemT P t e z sz bytes) (parts:Array (Nat × Operand)) (ho:o.op=.buildSlice t 1 parts) (u:Value) (hu:u.cells.size=sz) (hf:(parts.map fun (i,x)=>(i,a.eval x)).toList=[(0,u)])
 (hK:wpList P ops Q rest (a.put o.dst (.slice (some ⟨w.heap.size,0,none⟩) 1 1)) (w.alloc (.cells u.cells e))):wpList P ops Q (o::rest) a w:=
 wpList_plain hgd fun _ hK'=>wp_one_slice T parts ho u hu hf (hK' _ _ hK)
end
structure StructT (P:Program) (t:TypeId) (sz:Nat):Prop where
 und:∃ fs,P.underlying t=some (.struct fs)
 size:(P.info? t).map (·.size)=some sz
 pos:0<sz
section
variable {P:Program} {t:TypeId} {sz:Nat} {w:World} {ops:Array Oper} {rest:List Oper} {o:Oper} {a:Act} {Q:Exit->Act->World->Prop} {K:Act->World->Prop} {F:Fence} {n:Nat}
theorem at_sload (t:TypeId) (x:Operand) (_:o.op=.load t x) (h:wpList P ops Q (o::rest) a w):wpList P ops Q (o::rest) a w:=h
theorem at_sstore (t:TypeId) (x y:Operand) (_:o.op=.store t x y) (h:wpList P ops Q (o::rest) a w):wpList P ops Q (o::rest) a w:=h
theorem at_sbuild (t:TypeId) (parts:Array (Nat × Operand)) (_:o.op=.build t parts) (h:wpList P ops Q (o::rest) a w):wpList P ops Q (o::rest) a w:=h
theorem at_sslice (t:TypeId) (n:Nat) (parts:Array (Nat × Operand)) (_:o.op=.buildSlice t n parts) (h:wpList P ops Q (o::rest) a w):wpList P ops Q (o::rest) a w:=h
theorem at_sappend (s x:Operand) (t:TypeId) (_:o.op=.call { callee:=.builtin .append,args:=#[s,x],argTypes:=#[t,t] }) (h:wpList P ops Q (o::rest) a w):wpList P ops Q (o::rest) a w:=h
theorem exec_smid (T:StructT P t sz) (x:Operand) (ho:o.op=.load t x) {b i:Nat} (hx:a.eval x=.pointer (some ⟨b,i,none⟩)) (cs:Array Value) (hs:cs.size=sz) (hc:∀ j,j<sz->w.cell? ⟨b,i+j,none⟩=cs[j]?):(execOp a.eval o).run P w=.ok (.value (.agg cs)) w:=by
 obtain⟨fs,hu⟩:=T.und
 have hl:=run_loadVar_mid (P:=P) w b i t cs.toList _ (fun j u hj=>by
  have hj2:j<sz:=by have:=(List.getElem?_eq_some_iff.1 hj).1;simpa [hs] using this
  rw[hc j hj2];simpa using hj) hu rfl (by rw[T.size];simp[hs])
 unfold execOp
 simp only[ho,hx,Instr.loadAt,Instr.sureAddr,Sem.run_bind,Sem.run_pure,Result.andThen_ok,hl,Array.toArray_toList]
theorem wp_smid (T:StructT P t sz) (x:Operand) (ho:o.op=.load t x) {b i:Nat} (hx:a.eval x=.pointer (some ⟨b,i,none⟩)) (cs:Array Value) (hs:cs.size=sz) (hc:∀ j,j<sz->w.cell? ⟨b,i+j,none⟩=cs[j]?)
 (h:K (a.put o.dst (.agg cs)) w):o.wp P a w K Q:=by
 unfold Oper.wp
 rw[exec_smid T x ho hx cs hs hc]
 exact h
theorem wpList_smid (hgd:o.guard=none) (T:StructT P t sz) (x:Operand) (ho:o.op=.load t x) {b i:Nat} (hx:a.eval x=.pointer (some ⟨b,i,none⟩)) (cs:Array Value) (hs:cs.size=sz) (hc:∀ j,j<sz->w.cell? ⟨b,i+j,none⟩=cs[j]?)
 (h:wpList P ops Q rest (a.put o.dst (.agg cs)) w):wpList P ops Q (o::rest) a w:=
 wpList_plain hgd fun _ hK=>wp_smid T x ho hx cs hs hc (hK _ _ h)
theorem whole_cells {g:Nat} {cs:Array Value} {e:TypeId} (hg:w.heap[g]?=some (.cells cs e (0,0))):∀ j,j<sz->w.cell? ⟨g,0+j,none⟩=cs[j]?:=fun j _=>by rw[Nat.zero_add];exact rowcell hg
theorem wpList_sload (hgd:o.guard=none) (T:StructT P t sz) (x:Operand) (ho:o.op=.load t x) {g:Nat} (hx:a.eval x=.pointer (some ⟨g,0,none⟩)) (cs:Array Value) (hs:cs.size=sz) {e:TypeId} (hg:w.heap[g]?=some (.cells cs e (0,0)))
 (h:wpList P ops Q rest (a.put o.dst (.agg cs)) w):wpList P ops Q (o::rest) a w:=
 wpList_smid hgd T x ho hx cs hs (whole_cells hg) h
theorem wp_sstore (T:StructT P t sz) (x y:Operand) (ho:o.op=.store t x y) {g:Nat} (hx:a.eval x=.pointer (some ⟨g,0,none⟩)) {cs old:Array Value} (hy:a.eval y=.agg cs) {e:TypeId} (hg:w.heap[g]?=some (.cells old e (0,0))) (ho2:old.size=sz) (hs:cs.size=sz) (h1:cs.all (·.oneCell')=true)
 (h:K (a.put o.dst undef) (w.setRow g cs)):o.wp P a w K Q:=
 wp_store_row _ x y ho g cs hx hy _ old hg (by rw[T.size,hs]) (by omega) h1 h
theorem wpList_sstore (hgd:o.guard=none) (T:StructT P t sz) (x y:Operand) (ho:o.op=.store t x y) {g:Nat} (hx:a.eval x=.pointer (some ⟨g,0,none⟩)) {cs old:Array Value} (hy:a.eval y=.agg cs) {e:TypeId} (hg:w.heap[g]?=some (.cells old e (0,0))) (ho2:old.size=sz) (hs:cs.size=sz) (h1:cs.all (·.oneCell')=true)
 (h:wpList P ops Q rest (a.put o.dst undef) (w.setRow g cs)):wpList P ops Q (o::rest) a w:=
 wpList_plain hgd fun _ hK=>wp_sstore T x y ho hx hy hg ho2 hs h1 (hK _ _ h)
theorem wpList_snew (hgd:o.guard=none) (T:StructT P t sz) (x y:Operand) (ho:o.op=.store t x y) (hd:o.dst=none) (w0:World) (old cells:Array Value) {e:TypeId} (hx:a.eval x=.pointer (some ⟨w0.heap.size,0,none⟩)) (hy:a.eval y=.agg cells)
 (hold:old.size=sz) (hc:cells.size=sz) (h1:cells.all (·.oneCell')=true)
 (h:wpList P ops Q rest a (w0.alloc (.cells cells e))):wpList P ops Q (o::rest) a (w0.alloc (.cells old e)):=
 wpList_store_rowTo hgd t x y ho hd w0.heap.size cells hx hy e old (heap_alloc_last w0 _) (by rw[T.size,hc]) (by omega) h1 (by rw[World.setRow_alloc_new];exact h)
end
end Go.Proofs.YtdkkhmjlamkgdaaGreatDoor
namespace Go.Proofs.YtdkkhmjlamkgdaaGreatDoor.Mg
def insAt (l:List Int) (k:Nat) (x:Int):List Int:=l.take k++x::l.drop k
def step (has:Int->Bool) (lead:List Int) (st:List Int × Nat) (id:Int):List Int × Nat:=
 if has id then (if id∈lead then (st.1,st.1.idxOf id+1) else (insAt st.1 st.2 id,st.2+1)) else st
def orderF (has:Int->Bool) (lead follow:List Int):List Int:=(follow.foldl (step has lead) (lead.filter has,0)).1
theorem insAt_mem {l:List Int} {k:Nat} {x y:Int}:y∈insAt l k x↔y=x\/y∈l:=by
 unfold insAt
 have h:y∈l↔y∈l.take k\/y∈l.drop k:=by rw[<-List.mem_append,List.take_append_drop]
 rw[List.mem_append,List.mem_cons,h]
 constructor
 ·rintro (h | h | h)
  ·exact .inr (.inl h)
  ·exact .inl h
  ·exact .inr (.inr h)
 ·rintro (h | h | h)
  ·exact .inr (.inl h)
  ·exact .inl h
  ·exact .inr (.inr h)
theorem insAt_sub (l:List Int) (k:Nat) (x:Int):List.Sublist l (insAt l k x):=by
 have h:List.Sublist (l.take k++l.drop k) (l.take k++x::l.drop k):=(List.Sublist.refl _).append (List.sublist_cons_self _ _)
 rwa [List.take_append_drop]at h
theorem insAt_nodup {l:List Int} {k:Nat} {x:Int} (h:l.Nodup) (hx:x∉l):(insAt l k x).Nodup:=by
 have hp:List.Perm (insAt l k x) (x::l):=by
  unfold insAt
  have:=(List.perm_middle (a:=x) (l₁:=l.take k) (l₂:=l.drop k))
  rwa [List.take_append_drop]at this
 rw[hp.nodup_iff]
 exact List.nodup_cons.2 ⟨hx,h⟩
theorem insAt_length (l:List Int) (k:Nat) (x:Int):(insAt l k x).length=l.length+1:=by
 unfold insAt;simp;omega
structure Inv (has:Int->Bool) (lead p:List Int) (st:List Int × Nat):Prop where
 nodup:st.1.Nodup
 mem:∀ y,y∈st.1↔has y=true/\(y∈lead\/y∈p)
 lead:List.Sublist (lead.filter has) st.1
 le:st.2<=st.1.length
theorem inv_start (has:Int->Bool) (lead:List Int) (h:lead.Nodup):Inv has lead [] (lead.filter has,0):=
 ⟨h.filter _,fun y=>by simp[and_comm],List.Sublist.refl _,Nat.zero_le _⟩
theorem inv_step {has:Int->Bool} {lead p:List Int} {st:List Int × Nat} (h:Inv has lead p st) (id:Int) (hp:id∉p):Inv has lead (p++[id]) (step has lead st id):=by
 unfold step
 by_cases h1:has id=true
 ·rw[if_pos h1]
  by_cases h2:id∈lead
  ·rw[if_pos h2]
   have hm:id∈st.1:=(h.mem id).2 ⟨h1,.inl h2⟩
   refine⟨h.nodup,fun y=>?_,h.lead,?_⟩
   ·rw[h.mem,List.mem_append,List.mem_singleton]
    constructor
    ·rintro ⟨a,b | b⟩
     ·exact⟨a,.inl b⟩
     ·exact⟨a,.inr (.inl b)⟩
    ·rintro ⟨a,b | b | b⟩
     ·exact⟨a,.inl b⟩
     ·exact⟨a,.inr b⟩
     ·exact⟨a,.inl (b ▸ h2)⟩
   ·exact List.idxOf_lt_length_of_mem hm
  ·rw[if_neg h2]
   have hm:id∉st.1:=fun hh=>by
    rcases ((h.mem id).1 hh).2 with b | b
    ·exact h2 b
    ·exact hp b
   refine⟨insAt_nodup h.nodup hm,fun y=>?_,h.lead.trans (insAt_sub _ _ _),?_⟩
   ·rw[insAt_mem,h.mem,List.mem_append,List.mem_singleton]
    constructor
    ·rintro (b | ⟨a,b | b⟩)
     ·exact⟨b ▸ h1,.inr (.inr b)⟩
     ·exact⟨a,.inl b⟩
     ·exact⟨a,.inr (.inl b)⟩
    ·rintro ⟨a,b | b | b⟩
     ·exact .inr ⟨a,.inl b⟩
     ·exact .inr ⟨a,.inr b⟩
     ·exact .inl b
   ·rw[insAt_length];have:=h.le;omega
 ·rw[if_neg h1]
  refine⟨h.nodup,fun y=>?_,h.lead,h.le⟩
  rw[h.mem,List.mem_append,List.mem_singleton]
  constructor
  ·rintro ⟨a,b | b⟩
   ·exact⟨a,.inl b⟩
   ·exact⟨a,.inr (.inl b)⟩
  ·rintro ⟨a,b | b | b⟩
   ·exact⟨a,.inl b⟩
   ·exact⟨a,.inr b⟩
   ·exact absurd (b ▸ a) h1
theorem inv_fold (has:Int->Bool) (lead:List Int):∀ (r p:List Int) (st:List Int × Nat),Inv has lead p st->(p++r).Nodup->Inv has lead (p++r) (r.foldl (step has lead) st)
 |[],p,st,h,_=>by simpa using h
 |id::r,p,st,h,hn=>by
  have hp:id∉p:=fun hh=>(List.nodup_append.1 hn).2.2 _ hh id List.mem_cons_self rfl
  have:=inv_fold has lead r (p++[id]) _ (inv_step h id hp) (by simpa using hn)
  simpa using this
theorem order_inv (has:Int->Bool) (lead follow:List Int) (hl:lead.Nodup) (hf:follow.Nodup):
 (orderF has lead follow).Nodup/\(∀ y,y∈orderF has lead follow↔has y=true/\(y∈lead\/y∈follow))/\List.Sublist (lead.filter has) (orderF has lead follow):=by
 have h:=inv_fold has lead follow [] (lead.filter has,0) (inv_start has lead hl) (by simpa using hf)
 rw[List.nil_append]at h
 exact⟨h.nodup,h.mem,h.lead⟩
structure Lab where
 till:Int
 after:List Int
 appr:Int
 denied:Int
deriving DecidableEq
structure Blk where
 id:Int
 kind:Int
 text:ByteArray
 story:Int
 ref:Int
 lab:Lab
deriving DecidableEq
abbrev ids (l:List Blk):List Int:=l.map Blk.id
def find (l:List Blk) (i:Int):Option Blk:=l.find? (fun b=>decide (b.id=i))
def pick (x y z:Option Blk):Option Blk × Bool:=if y=x then (z,false) else if z=x\/z=y then (y,false) else if z.isSome then (z,true) else (y,true)
def pickAt (base a b:List Blk) (i:Int):Option Blk × Bool:=pick (find base i) (find a i) (find b i)
def hasAt (base a b:List Blk) (i:Int):Bool:=(pickAt base a b i).1.isSome
def Keeps (l base:List Int):Prop:=List.Sublist (l.filter (fun y=>decide (y∈base))) base
instance (l base:List Int):Decidable (Keeps l base):=by unfold Keeps;infer_instance
def orderOf (base a b:List Blk):List Int:=if Keeps (ids b) (ids base) then orderF (hasAt base a b) (ids a) (ids b) else orderF (hasAt base a b) (ids b) (ids a)
def merged (base a b:List Blk):List Blk:=(orderOf base a b).filterMap fun i=>(pickAt base a b i).1
theorem find_id {l:List Blk} {i:Int} {x:Blk} (h:find l i=some x):x.id=i/\x∈l:=by
 unfold find at h
 exact⟨by simpa using List.find?_some h,List.mem_of_find?_eq_some h⟩
theorem find_none {l:List Blk} {i:Int}:find l i=none↔i∉ids l:=by
 unfold find
 rw[List.find?_eq_none]
 simp
theorem pick_cases (x y z:Option Blk):(pick x y z).1=y\/(pick x y z).1=z:=by
 unfold pick
 split
 ·exact .inr rfl
 split
 ·exact .inl rfl
 split
 ·exact .inr rfl
 ·exact .inl rfl
theorem pickAt_id {base a b:List Blk} {i:Int} {x:Blk} (h:(pickAt base a b i).1=some x):x.id=i/\(x∈a\/x∈b):=by
 rcases pick_cases (find base i) (find a i) (find b i) with e | e
 ·have:=find_id (e.symm.trans h);exact⟨this.1,.inl this.2⟩
 ·have:=find_id (e.symm.trans h);exact⟨this.1,.inr this.2⟩
theorem has_in {base a b:List Blk} {i:Int} (h:hasAt base a b i=true):i∈ids a\/i∈ids b:=by
 obtain⟨x,hx⟩:=Option.isSome_iff_exists.1 h
 obtain⟨h1,h2⟩:=pickAt_id hx
 rcases h2 with h2 | h2
 ·exact .inl (List.mem_map.2 ⟨x,h2,h1⟩)
 ·exact .inr (List.mem_map.2 ⟨x,h2,h1⟩)
theorem orderOf_inv {base a b:List Blk} (ha:(ids a).Nodup) (hb:(ids b).Nodup):(orderOf base a b).Nodup/\∀ i,i∈orderOf base a b↔hasAt base a b i=true:=by
 unfold orderOf
 split
 ·obtain⟨h1,h2,_⟩:=order_inv (hasAt base a b) (ids a) (ids b) ha hb
  exact⟨h1,fun i=>by rw[h2];exact⟨fun h=>h.1,fun h=>⟨h,has_in h⟩⟩⟩
 ·obtain⟨h1,h2,_⟩:=order_inv (hasAt base a b) (ids b) (ids a) hb ha
  exact⟨h1,fun i=>by rw[h2];exact⟨fun h=>h.1,fun h=>⟨h,(has_in h).symm⟩⟩⟩
theorem ids_filterMap (f:Int->Option Blk) (hf:∀ i x,f i=some x->x.id=i):∀ l:List Int,(∀ i∈l,(f i).isSome=true)->ids (l.filterMap f)=l
 |[],_=>rfl
 |i::r,h=>by
  obtain⟨x,hx⟩:=Option.isSome_iff_exists.1 (h i List.mem_cons_self)
  rw[List.filterMap_cons_some hx]
  show x.id::ids (r.filterMap f)=_
  rw[hf i x hx,ids_filterMap f hf r (fun j hj=>h j (List.mem_cons_of_mem _ hj))]
theorem merged_ids {base a b:List Blk} (ha:(ids a).Nodup) (hb:(ids b).Nodup):ids (merged base a b)=orderOf base a b:=
 ids_filterMap _ (fun _ _ h=>(pickAt_id h).1) _ (fun i hi=>((orderOf_inv ha hb).2 i).1 hi)
theorem perm_length {l r:List Int} (hl:l.Nodup) (hr:r.Nodup) (h:∀ y,y∈l↔y∈r):l.length=r.length:=
 ((List.perm_ext_iff_of_nodup hl hr).2 h).length_eq
theorem pick_conflict (x y z:Option Blk):(pick x y z).2=true↔x≠y/\x≠z/\y≠z:=by
 unfold pick
 split
 ·next h=>simp[h]
 split
 ·next h1 h=>rcases h with h | h <;> simp[h]
 split
 ·next h1 h2 h3=>simp only[true_iff];exact⟨fun e=>h1 e.symm,fun e=>h2 (.inl e.symm),fun e=>h2 (.inr e.symm)⟩
 ·next h1 h2 h3=>simp only[true_iff];exact⟨fun e=>h1 e.symm,fun e=>h2 (.inl e.symm),fun e=>h2 (.inr e.symm)⟩
theorem merged_nodup {base a b:List Blk} (ha:(ids a).Nodup) (hb:(ids b).Nodup):(ids (merged base a b)).Nodup:=by rw[merged_ids ha hb];exact(orderOf_inv ha hb).1
theorem merged_length {base a b:List Blk} (ha:(ids a).Nodup) (hb:(ids b).Nodup):(merged base a b).length=(orderOf base a b).length:=by rw[<-merged_ids ha hb,List.length_map]
def movedL (base:List Int):Int->List Int->Bool
 |_,[]=>false
 |last,i::r=>if i∈base then (if (base.idxOf i:Int)<last then true else movedL base (base.idxOf i) r) else movedL base last r
theorem movedL_iff (base:List Int):∀ (l:List Int) (last:Int),movedL base last l=false ↔
 (l.filter (fun y=>decide (y∈base))).Pairwise (fun x y=>base.idxOf x<=base.idxOf y)/\∀ y∈l.filter (fun y=>decide (y∈base)),last<=(base.idxOf y:Int)
 |[],last=>by simp[movedL]
 |i::r,last=>by
  unfold movedL
  by_cases hi:i∈base
  ·rw[if_pos hi,List.filter_cons_of_pos (by simpa using hi),List.pairwise_cons]
   by_cases hlt:(base.idxOf i:Int)<last
   ·rw[if_pos hlt]
    constructor
    ·intro h;cases h
    ·rintro ⟨_,h⟩
     have:=h i List.mem_cons_self
     omega
   ·rw[if_neg hlt,movedL_iff base r]
    constructor
    ·rintro ⟨h1,h2⟩
     refine⟨⟨fun y hy=>by have:=h2 y hy;omega,h1⟩,fun y hy=>?_⟩
     rcases List.mem_cons.1 hy with e | e
     ·subst e;omega
     ·have:=h2 y e;omega
    ·rintro ⟨⟨h1,h2⟩,_⟩
     exact⟨h2,fun y hy=>by have:=h1 y hy;omega⟩
  ·rw[if_neg hi,List.filter_cons_of_neg (by simpa using hi),movedL_iff base r]
theorem idx_inj {l:List Int} {x y:Int} (hx:x∈l) (hy:y∈l) (h:l.idxOf x=l.idxOf y):x=y:=by
 have h1:l[l.idxOf x]'(List.idxOf_lt_length_of_mem hx)=x:=List.getElem_idxOf _
 have h2:l[l.idxOf y]'(List.idxOf_lt_length_of_mem hy)=y:=List.getElem_idxOf _
 rw[<-h1,<-h2]
 simp only[h]
theorem base_sorted {base:List Int} (hb:base.Nodup):base.Pairwise (fun x y=>base.idxOf x<base.idxOf y):=by
 rw[List.pairwise_iff_getElem]
 intro i j hi hj hij
 rw[hb.idxOf_getElem i hi,hb.idxOf_getElem j hj]
 exact hij
theorem sub_sorted {base f:List Int} (hb:base.Nodup) (hf:f.Nodup) (hm:∀ y∈f,y∈base):f.Pairwise (fun x y=>base.idxOf x<=base.idxOf y)↔List.Sublist f base:=by
 constructor
 ·intro h
  have h1:f.Pairwise (fun x y=>base.idxOf x<base.idxOf y):=by
   refine((h.and hf).imp_of_mem ?_)
   rintro x y hx hy ⟨a,b⟩
   have:base.idxOf x≠base.idxOf y:=fun e=>b (idx_inj (hm x hx) (hm y hy) e)
   omega
  have h2:(base.filter fun y=>decide (y∈f)).Pairwise (fun x y=>base.idxOf x<base.idxOf y):=(base_sorted hb).filter _
  have key:∀ (l r:List Int),(∀ y∈l,y∈base)->(∀ y∈r,y∈base)->l.Pairwise (fun x y=>base.idxOf x<base.idxOf y)->r.Pairwise (fun x y=>base.idxOf x<base.idxOf y)->(∀ y,y∈l↔y∈r)->l=r:=by
   intro l
   induction l with
   |nil=>
    intro r _ _ _ _ h
    cases r with
    |nil=>rfl
    |cons b r=>exact absurd ((h b).2 List.mem_cons_self) (by simp)
   |cons a l ih=>
    intro r hl hr pl pr h
    cases r with
    |nil=>exact absurd ((h a).1 List.mem_cons_self) (by simp)
    |cons b r=>
     obtain⟨l1,l2⟩:=List.pairwise_cons.1 pl
     obtain⟨r1,r2⟩:=List.pairwise_cons.1 pr
     have hab:a=b:=by
      rcases List.mem_cons.1 ((h a).1 List.mem_cons_self) with e | e
      ·exact e
      ·rcases List.mem_cons.1 ((h b).2 List.mem_cons_self) with e2 | e2
       ·exact e2.symm
       ·have:=r1 a e;have:=l1 b e2;omega
     subst hab
     rw[ih r (fun y hy=>hl y (List.mem_cons_of_mem _ hy)) (fun y hy=>hr y (List.mem_cons_of_mem _ hy)) l2 r2 fun y=>?_]
     constructor
     ·intro hy
      rcases List.mem_cons.1 ((h y).1 (List.mem_cons_of_mem _ hy)) with e | e
      ·subst e;have:=l1 y hy;omega
      ·exact e
     ·intro hy
      rcases List.mem_cons.1 ((h y).2 (List.mem_cons_of_mem _ hy)) with e | e
      ·subst e;have:=r1 y hy;omega
      ·exact e
  have:=key f (base.filter fun y=>decide (y∈f)) hm (fun y hy=>(List.mem_filter.1 hy).1) h1 h2 (fun y=>by
   rw[List.mem_filter,decide_eq_true_eq]
   exact⟨fun hy=>⟨hm y hy,hy⟩,fun hy=>hy.2⟩)
  rw[this]
  exact List.filter_sublist
 ·intro h
  exact((base_sorted hb).sublist h).imp (fun hh=>Nat.le_of_lt hh)
theorem movedL_keeps {base l:List Int} (hb:base.Nodup) (hl:l.Nodup):movedL base (-1) l=false↔Keeps l base:=by
 rw[movedL_iff]
 unfold Keeps
 rw[<-sub_sorted hb (hl.filter _) (fun y hy=>by simpa using (List.mem_filter.1 hy).2)]
 exact⟨fun h=>h.1,fun h=>⟨h,fun y _=>by omega⟩⟩
theorem merged_mem {base a b:List Blk} {x:Blk} (h:x∈merged base a b):x∈a\/x∈b:=by
 unfold merged at h
 obtain⟨i,_,hi⟩:=List.mem_filterMap.1 h
 exact(pickAt_id hi).2
def afterOK:Int->List Int->Bool
 |_,[]=>true
 |last,s::r=>decide (last+1<=s) && decide (s<=64) && afterOK s r
def validLab (l:Lab):Bool:=decide (0<=l.till) && decide (l.till<=1000000000) && decide (0<=l.appr) && decide (l.appr<=5) && decide (0<=l.denied) && decide (l.denied<=15) && afterOK 0 l.after
def textOK (s:ByteArray):Bool:=decide (s.size<=300) && s.data.toList.all fun c=>decide (32<=c.toNat) && decide (c.toNat<=126)
def nameByte (c:UInt8):Bool:=(decide (97<=c.toNat) && decide (c.toNat<=122)) || (decide (48<=c.toNat) && decide (c.toNat<=57)) || decide (c.toNat=45)
def nameOK (s:ByteArray):Bool:=decide (1<=s.size) && decide (s.size<=20) && s.data.toList.all nameByte
def kindOK (b:Blk):Bool:=
 if b.kind=1\/b.kind=2\/b.kind=4 then decide (1<=b.text.size) && textOK b.text && decide (b.story=0) && decide (b.ref=0)
 else if b.kind=5 then nameOK b.text && decide (b.story=0) && decide (b.ref=0)
 else if b.kind=3 then textOK b.text && decide (1<=b.story) && decide (b.story<=64) && decide (1<=b.ref) && decide (b.ref<=1000)
 else false
def validBlk (b:Blk):Bool:=decide (1<=b.id) && decide (b.id<=1000) && validLab b.lab && kindOK b
def ValidL (l:List Blk):Prop:=l.length<=24/\(∀ b∈l,validBlk b=true)/\(ids l).Nodup
instance (l:List Blk):Decidable (ValidL l):=by unfold ValidL;infer_instance
theorem ValidL.range {l:List Blk} (h:ValidL l):∀ i∈ids l,1<=i/\i<=1000:=by
 intro i hi
 obtain⟨b,hb,rfl⟩:=List.mem_map.1 hi
 have:=h.2.1 b hb
 unfold validBlk at this
 simp only[Bool.and_eq_true,decide_eq_true_eq]at this
 omega
theorem valid_take {l:List Blk} (k:Nat) (hk:k<l.length):((∀ b∈l.take (k+1),validBlk b=true)/\(ids (l.take (k+1))).Nodup)↔((∀ b∈l.take k,validBlk b=true)/\(ids (l.take k)).Nodup)/\validBlk l[k]=true/\l[k].id∉ids (l.take k):=by
 rw[List.take_succ_eq_append_getElem hk]
 unfold ids
 rw[List.map_append,List.nodup_append]
 constructor
 ·rintro ⟨h1,h2,_,h3⟩
  exact⟨⟨fun b hb=>h1 b (List.mem_append_left _ hb),h2⟩,h1 _ (List.mem_append_right _ (List.mem_singleton.2 rfl)),fun hh=>h3 _ hh _ (by simp) rfl⟩
 ·rintro ⟨⟨h1,h2⟩,h3,h4⟩
  refine⟨fun b hb=>?_,h2,by simp,fun x hx y hy e=>?_⟩
  ·rcases List.mem_append.1 hb with hb | hb
   ·exact h1 b hb
   ·simp at hb;rw[hb];exact h3
  ·simp at hy
   subst hy
   exact h4 (e ▸ hx)
theorem merged_valid {base a b:List Blk} (ha:ValidL a) (hb:ValidL b) (hn:(merged base a b).length<=24):ValidL (merged base a b):=
 ⟨hn,fun x hx=>(merged_mem hx).elim (ha.2.1 x) (hb.2.1 x),merged_nodup ha.2.2 hb.2.2⟩
def confs (base a b:List Blk):List Int:=((List.range 1000).map fun n:Nat=>(n:Int)+1).filter (fun i=>(pickAt base a b i).2)
def mergeF (base a b:List Blk):List Blk × List Int × Int:=
 if ValidL base/\ValidL a/\ValidL b then
  if (merged base a b).length<=24 then (merged base a b,confs base a b,0)
  else ([],[],40)
 else ([],[],40)
theorem mergeF_yes {base a b:List Blk} (h:ValidL base/\ValidL a/\ValidL b) (hn:(merged base a b).length<=24):mergeF base a b=(merged base a b,confs base a b,0):=by unfold mergeF;rw[if_pos h,if_pos hn]
theorem mergeF_long {base a b:List Blk} (hn:¬ (merged base a b).length<=24):mergeF base a b=([],[],40):=by
 unfold mergeF
 split
 ·first|rw[if_neg hn] | rfl
 ·rfl
theorem mergeF_bad {base a b:List Blk} (h:¬ (ValidL base/\ValidL a/\ValidL b)):mergeF base a b=([],[],40):=by unfold mergeF;rw[if_neg h]
theorem mergeF_ok {base a b:List Blk} (h:(mergeF base a b).2.2=0):ValidL base/\ValidL a/\ValidL b/\ValidL (merged base a b)/\(mergeF base a b).1=merged base a b:=by
 unfold mergeF at h ⊢
 split at h
 ·next hv=>
  split at h
  ·next hn=>
   rw[if_pos hv,if_pos hn]
   exact⟨hv.1,hv.2.1,hv.2.2,merged_valid hv.2.1 hv.2.2 hn,rfl⟩
  ·cases h
 ·cases h
theorem conflict_in {base a b:List Blk} {i:Int} (h:(pickAt base a b i).2=true):i∈ids base\/i∈ids a\/i∈ids b:=by
 obtain⟨h1,h2,h3⟩:=(pick_conflict _ _ _).1 h
 refine Classical.byContradiction fun hh=>?_
 have e1:find a i=none:=find_none.2 (fun e=>hh (.inr (.inl e)))
 have e2:find b i=none:=find_none.2 (fun e=>hh (.inr (.inr e)))
 exact h3 (e1.trans e2.symm)
structure Fct where
 n:Int
 time:Int
 kind:Int
 story:Int
 lang:ByteArray
 rev:Int
 base:Int
 title:ByteArray
 author:ByteArray
 topics:List ByteArray
 blocks:List Blk
 lab:Lab
 editor:Int
 block:Int
 sentence:Int
 text:ByteArray
 name:ByteArray
 partner:Int
 cls:Int
 till:Int
deriving DecidableEq
def lab0:Lab:=⟨0,[],0,0⟩
def str0:ByteArray:=⟨#[]⟩
end Go.Proofs.YtdkkhmjlamkgdaaGreatDoor.Mg
namespace Go.Proofs.YtdkkhmjlamkgdaaGreatDoor
open Go.RowKit Go.Maps
def heldV (v:Value):Option (DataW Value × List MemPlace):=some (.held v,[])
def okI (i:Int):Prop:=-9223372036854775808<=i/\i<=9223372036854775807
theorem okI_wf {i:Int} (h:okI i):(Lit.int .i64 i).wf=true:=by
 obtain⟨h1,h2⟩:=h
 have e1:IntKind.i64.min=-9223372036854775808:=by decide
 have e2:IntKind.i64.max=9223372036854775807:=by decide
 simp only[Lit.wf,e1,e2,Bool.and_eq_true,decide_eq_true_eq]
 exact⟨h1,h2⟩
def keysL (l:List (Int × Value)):List Int:=l.map Prod.fst
def getL (l:List (Int × Value)) (i:Int):Option Value:=(l.find? (fun p=>decide (p.1=i))).map Prod.snd
theorem getL_none {l:List (Int × Value)} {i:Int} (h:i∉keysL l):getL l i=none:=by
 unfold getL
 rw[List.find?_eq_none.2]
 ·rfl
 ·intro p hp e
  exact h (List.mem_map.2 ⟨p,hp,by simpa using e⟩)
theorem getL_isSome {l:List (Int × Value)} {i:Int}:(getL l i).isSome=decide (i∈keysL l):=by
 by_cases h:i∈keysL l
 ·rw[decide_eq_true h]
  obtain⟨p,hp,rfl⟩:=List.mem_map.1 h
  unfold getL
  rw[Option.isSome_map,List.find?_isSome]
  exact⟨p,hp,by simp⟩
 ·rw[getL_none h,decide_eq_false h];rfl
theorem getL_snoc_same {l:List (Int × Value)} {i:Int} {v:Value} (h:i∉keysL l):getL (l++[(i,v)]) i=some v:=by
 have:=getL_none h
 unfold getL at this ⊢
 rw[List.find?_append]
 rw[Option.map_eq_none_iff]at this
 rw[this];simp
theorem getL_snoc_other {l:List (Int × Value)} {i j:Int} {v:Value} (h:i≠j):getL (l++[(i,v)]) j=getL l j:=by
 unfold getL
 rw[List.find?_append,List.find?_singleton]
 rw[if_neg (by simpa using h),Option.or_none]
def IMap (P:Program) (k:TypeId) (w:World) (b:Nat) (l:List (Int × Value)):Prop:=
 ∃ D:DataW Value,w.ownsMap P k heldV b l.length D/\(keysL l).Nodup/\(∀ p∈l,okI p.1)/\Maps.size D=l.length ∧
  ∀ i,okI i->Maps.has D (.int .i64 i)=decide (i∈keysL l)/\∀ z,D.atKey (.int .i64 i) (.held z)=.held ((getL l i).getD z)
section
variable {P:Program} {k:TypeId} {w w':World} {b:Nat} {l:List (Int × Value)}
theorem IMap.made (P:Program) (k:TypeId) (w:World):IMap P k (w.alloc (.map #[] 0)) w.heap.size []:=
 ⟨_,World.ownsMap_made w P k heldV,List.nodup_nil,by simp,rfl,fun i _=>⟨rfl,fun _=>rfl⟩⟩
theorem IMap.lt (h:IMap P k w b l):b<w.heap.size:=by obtain⟨D,h,_⟩:=h;exact h.lt
theorem IMap.of_block (h:IMap P k w b l) (e:w'.heap[b]?=w.heap[b]?):IMap P k w' b l:=by
 obtain⟨D,⟨es,clock,hb,r⟩,h2⟩:=h
 exact⟨D,⟨es,clock,e.trans hb,r⟩,h2⟩
theorem IMap.look (h:IMap P k w b l) (hk:P.underlying k=some (.int .i64)) {t e:TypeId} (ht:P.underlying t=some (.map k e)) {z:Value} (hz:(zeroValue e).run P w=.ok z w) {i:Int} (hi:Go.Proofs.YtdkkhmjlamkgdaaGreatDoor.okI i):
 (Instr.lookup t (.map (some b)) (.int .i64 i) false).run P w=.ok ((getL l i).getD z) w:=by
 obtain⟨D,ho,_,_,_,hD⟩:=h
 obtain⟨v,ps,hr,hv⟩:=ho.lookup (int_keyed hk) ht hz (zd:=.held z) (zp:=[]) rfl (keyOf_int_mk hk (okI_wf hi))
 rw[(hD i hi).2 z]at hv
 have:v=(getL l i).getD z:=by
  have:=(Option.some.inj hv)
  injection this with h1 _
  injection h1
 rw[<-this];exact hr
theorem IMap.lookOk (h:IMap P k w b l) (hk:P.underlying k=some (.int .i64)) {t e:TypeId} (ht:P.underlying t=some (.map k e)) {z:Value} (hz:(zeroValue e).run P w=.ok z w) {i:Int} (hi:Go.Proofs.YtdkkhmjlamkgdaaGreatDoor.okI i):
 (Instr.lookup t (.map (some b)) (.int .i64 i) true).run P w=.ok (.tuple #[(getL l i).getD z,.bool (getL l i).isSome]) w:=by
 obtain⟨D,ho,_,_,_,hD⟩:=h
 obtain⟨v,ps,hr,hv⟩:=ho.look_ok (int_keyed hk) ht hz (zd:=.held z) (zp:=[]) rfl (keyOf_int_mk hk (okI_wf hi))
 rw[(hD i hi).2 z]at hv
 have:v=(getL l i).getD z:=by
  have:=(Option.some.inj hv)
  injection this with h1 _
  injection h1
 rw[<-this,getL_isSome,<-(hD i hi).1];exact hr
theorem IMap.store (h:IMap P k w b l) (hk:P.underlying k=some (.int .i64)) {t e:TypeId} (ht:P.underlying t=some (.map k e)) (hl:l.length<maxLen) {i:Int} (hi:Go.Proofs.YtdkkhmjlamkgdaaGreatDoor.okI i) (hn:i∉keysL l) (v:Value):
 ∃ w',(Instr.mapUpdate t (.map (some b)) (.int .i64 i) v).run P w=.ok () w'/\IMap P k w' b (l++[(i,v)])/\w.grownBy w' (some b):=by
 obtain⟨D,ho,h1,h2,h3,hD⟩:=h
 have hkey:=keyOf_int_mk (P:=P) hk (okI_wf hi)
 obtain⟨w',hr,ho',hg⟩:=ho.update (int_keyed hk) ht hl hkey (val:=v) (d:=.held v) (ps:=[]) rfl
 have hkl:WideAt.IsKeyLit (.int .i64 i):=trivial
 have hks:keysL (l++[(i,v)])=keysL l++[i]:=by unfold keysL;simp
 refine⟨w',hr,⟨_,by simpa using ho',?_,?_,?_,fun j hj=>?_⟩,hg⟩
 ·rw[hks]
  exact List.nodup_append.2 ⟨h1,by simp,fun a ha c hc e=>by simp at hc;subst hc;subst e;exact hn ha⟩
 ·intro p hp
  rcases List.mem_append.1 hp with hp | hp
  ·exact h2 p hp
  ·simp at hp;subst hp;exact hi
 ·rw[size_put (ho.tidy (int_keyed hk)),(hD i hi).1,decide_eq_false hn,h3];simp
 ·rw[hks]
  by_cases e:j=i
  ·subst e
   rw[has_put_same ho.isMap hkl]
   refine⟨by simp,fun z=>?_⟩
   rw[atKey_put_same ho.isMap hkl,getL_snoc_same hn];rfl
  ·have hne:(Lit.int .i64 j)≠.int .i64 i:=fun h=>e (by injection h)
   rw[has_put_other hne,(hD j hj).1]
   refine⟨by simp[e],fun z=>?_⟩
   rw[atKey_put_other hne,(hD j hj).2 z,getL_snoc_other (Ne.symm e)]
end
section
variable {P:Program} (w:World) {ops:Array Oper} {rest:List Oper} {o:Oper} {a:Act} {Q:Exit->Act->World->Prop}
theorem wpList_imap_lookOk (hg:o.guard=none) (m x:Operand) (t:TypeId) (hop:o.op=Op.lookup t m x true) (k e:TypeId) (hk:P.underlying k=some (.int .i64)) (ht:P.underlying t=some (.map k e)) {z:Value} (hz:(zeroValue e).run P w=.ok z w) (b:Nat) (l:List (Int × Value))
 (hm:a.eval m=.map (some b)) (h:IMap P k w b l) (i:Int) (hx:a.eval x=.int .i64 i) (hi:okI i) (u:Value) (ok:Bool) (hu:(getL l i).getD z=u) (ho:(getL l i).isSome=ok)
 (hK:wpList P ops Q rest (a.put o.dst (.tuple #[u,.bool ok])) w):wpList P ops Q (o::rest) a w:=by
 refine wpList_plain hg fun K' hK'=>?_
 have hrun:=h.lookOk hk ht hz hi
 rw[hu,ho]at hrun
 unfold Oper.wp
 simp[execOp,hop,hm,hx,hrun,Result.andThen]
 exact hK' _ _ hK
variable {F:Fence} {nF:Nat}
end
end Go.Proofs.YtdkkhmjlamkgdaaGreatDoor
namespace Go.Proofs.YtdkkhmjlamkgdaaGreatDoor
open Go.RowKit Mg
def Sees (mem:Addr->Option Value) (w:World):Prop:=∀ a v,mem a=some v->w.cell? a=some v
def SliceOf (v:Value) (n b o:Nat):Prop:=n<=maxLen/\∃ ao cap,v=.slice ao n cap/\n<=cap/\cap<=maxLen/\(0<n->ao=some ⟨b,o,none⟩)
def IntsM (mem:Addr->Option Value) (v:Value) (l:List Int):Prop:=∃ b o,SliceOf v l.length b o/\∀ j (h:j<l.length),mem ⟨b,o+j,none⟩=some (.int .i64 l[j])
def BlkAt (mem:Addr->Option Value) (x:Blk) (b o:Nat):Prop:=
 (mem ⟨b,o,none⟩=some (.int .i64 x.id)/\mem ⟨b,o+1,none⟩=some (.int .i64 x.kind)/\mem ⟨b,o+2,none⟩=some (.string x.text)/\mem ⟨b,o+3,none⟩=some (.int .i64 x.story)/\mem ⟨b,o+4,none⟩=some (.int .i64 x.ref)) ∧
 (mem ⟨b,o+5,none⟩=some (.int .i64 x.lab.till)/\mem ⟨b,o+7,none⟩=some (.int .i64 x.lab.appr)/\mem ⟨b,o+8,none⟩=some (.int .i64 x.lab.denied))/\(x.text.size<=maxLen/\okI x.kind/\okI x.id) ∧
 ∃ av,mem ⟨b,o+6,none⟩=some av/\IntsM mem av x.lab.after
def BlksAt (mem:Addr->Option Value) (l:List Blk) (b o:Nat):Prop:=∀ j (h:j<l.length),BlkAt mem l[j] b (o+j * 9)
def BlksM (mem:Addr->Option Value) (v:Value) (l:List Blk):Prop:=∃ b o,SliceOf v l.length b o/\BlksAt mem l b o
abbrev labCells (x:Lab) (av:Value):Array Value:=#[.int .i64 x.till,av,.int .i64 x.appr,.int .i64 x.denied]
abbrev blkCells (x:Blk) (av:Value):Array Value:=#[.int .i64 x.id,.int .i64 x.kind,.string x.text,.int .i64 x.story,.int .i64 x.ref,.int .i64 x.lab.till,av,.int .i64 x.lab.appr,.int .i64 x.lab.denied]
section
variable {mem mem':Addr->Option Value} {w w':World}
theorem Sees.below {B:Nat} (h:Sees mem w) (hB:w.heap.size<=B) (hb:Below B w w'):Sees mem w':=
 fun a v hv=>(hb.cell (Nat.lt_of_lt_of_le (World.block_lt_of_cell? w a (h a v hv)) hB)).trans (h a v hv)
theorem Sees.bel (h:Sees mem w) (hb:Below w.heap.size w w'):Sees mem w':=h.below (Nat.le_refl _) hb
theorem Sees.alloc (h:Sees mem w) (o:Obj):Sees mem (w.alloc o):=h.bel ((Below.refl _ w).alloc (Nat.le_refl _) _)
theorem Sees.drew (h:Sees mem w):Sees mem w.drew:=h
theorem Sees.self (w:World):Sees (fun a=>w.cell? a) w:=fun _ _ h=>h
theorem IntsM.mono {v:Value} {l:List Int} (h:IntsM mem v l) (hm:∀ a u,mem a=some u->mem' a=some u):IntsM mem' v l:=by
 obtain⟨b,o,h1,h2⟩:=h
 exact⟨b,o,h1,fun j hj=>hm _ _ (h2 j hj)⟩
theorem BlkAt.mono {x:Blk} {b o:Nat} (h:BlkAt mem x b o) (hm:∀ a u,mem a=some u->mem' a=some u):BlkAt mem' x b o:=by
 obtain⟨⟨h0,h1,h2,h3,h4⟩,⟨h5,h7,h8⟩,hs,av,h6,hi⟩:=h
 exact⟨⟨hm _ _ h0,hm _ _ h1,hm _ _ h2,hm _ _ h3,hm _ _ h4⟩,⟨hm _ _ h5,hm _ _ h7,hm _ _ h8⟩,hs,av,hm _ _ h6,hi.mono hm⟩
theorem BlksAt.mono {l:List Blk} {b o:Nat} (h:BlksAt mem l b o) (hm:∀ a u,mem a=some u->mem' a=some u):BlksAt mem' l b o:=fun j hj=>(h j hj).mono hm
theorem BlksM.mono {v:Value} {l:List Blk} (h:BlksM mem v l) (hm:∀ a u,mem a=some u->mem' a=some u):BlksM mem' v l:=by
 obtain⟨b,o,h1,h2⟩:=h
 exact⟨b,o,h1,h2.mono hm⟩
theorem sliceNil:SliceOf (.slice none 0 0) 0 0 0:=⟨by unfold maxLen;omega,none,0,rfl,Nat.le_refl _,by unfold maxLen;omega,fun h=>absurd h (by omega)⟩
theorem IntsM.nil (mem:Addr->Option Value):IntsM mem (.slice none 0 0) []:=⟨0,0,sliceNil,fun j hj=>absurd hj (by simp)⟩
theorem BlksM.nil (mem:Addr->Option Value):BlksM mem (.slice none 0 0) []:=⟨0,0,sliceNil,fun j hj=>absurd hj (by simp)⟩
theorem IntsM.open_ {v:Value} {l:List Int} (h:IntsM mem v l) (hs:Sees mem w):∃ ao cap b o,v=.slice ao l.length cap/\l.length<=cap/\cap<=maxLen/\(0<l.length->ao=some ⟨b,o,none⟩)/\∀ j (h:j<l.length),w.cell? ⟨b,o+j,none⟩=some (.int .i64 l[j]):=by
 obtain⟨b,o,⟨_,ao,cap,h1,h2,h3,h4⟩,h5⟩:=h
 exact⟨ao,cap,b,o,h1,h2,h3,h4,fun j hj=>hs _ _ (h5 j hj)⟩
theorem IntsM.slice {v:Value} {l:List Int} (h:IntsM mem v l):∃ ao cap,v=.slice ao l.length cap:=by
 obtain⟨b,o,⟨_,ao,cap,h1,_⟩,_⟩:=h
 exact⟨ao,cap,h1⟩
end
structure Cells9 (w:World) (b o:Nat) (x:Blk) (av:Value):Prop where
 c0:w.cell? ⟨b,o,none⟩=some (.int .i64 x.id)
 c1:w.cell? ⟨b,o+1,none⟩=some (.int .i64 x.kind)
 c2:w.cell? ⟨b,o+2,none⟩=some (.string x.text)
 c3:w.cell? ⟨b,o+3,none⟩=some (.int .i64 x.story)
 c4:w.cell? ⟨b,o+4,none⟩=some (.int .i64 x.ref)
 c5:w.cell? ⟨b,o+5,none⟩=some (.int .i64 x.lab.till)
 c6:w.cell? ⟨b,o+6,none⟩=some av
 c7:w.cell? ⟨b,o+7,none⟩=some (.int .i64 x.lab.appr)
 c8:w.cell? ⟨b,o+8,none⟩=some (.int .i64 x.lab.denied)
theorem BlkAt.nine {mem:Addr->Option Value} {w:World} {x:Blk} {b o:Nat} (h:BlkAt mem x b o) (hs:Sees mem w):(x.text.size<=maxLen/\okI x.kind/\okI x.id)/\∃ ao cap,IntsM mem (.slice ao x.lab.after.length cap) x.lab.after/\Cells9 w b o x (.slice ao x.lab.after.length cap):=by
 obtain⟨⟨h0,h1,h2,h3,h4⟩,⟨h5,h7,h8⟩,hp,av,h6,hi⟩:=h
 obtain⟨ao,cap,rfl⟩:=hi.slice
 exact⟨hp,ao,cap,hi,hs _ _ h0,hs _ _ h1,hs _ _ h2,hs _ _ h3,hs _ _ h4,hs _ _ h5,hs _ _ h6,hs _ _ h7,hs _ _ h8⟩
theorem BlksM.open_ {mem:Addr->Option Value} {v:Value} {l:List Blk} (h:BlksM mem v l):∃ ao cap b o,v=.slice ao l.length cap/\l.length<=cap/\cap<=maxLen/\(0<l.length->ao=some ⟨b,o,none⟩)/\BlksAt mem l b o:=by
 obtain⟨b,o,⟨_,ao,cap,h1,h2,h3,h4⟩,h5⟩:=h
 exact⟨ao,cap,b,o,h1,h2,h3,h4,h5⟩
theorem BlksM.slice {mem:Addr->Option Value} {v:Value} {l:List Blk} (h:BlksM mem v l):∃ ao cap,v=.slice ao l.length cap:=by
 obtain⟨ao,cap,_,_,h,_⟩:=h.open_;exact⟨ao,cap,h⟩
def StrsM (mem:Addr->Option Value) (v:Value) (l:List ByteArray):Prop:=∃ b o,SliceOf v l.length b o/\(∀ s∈l,s.size<=maxLen)/\∀ j (h:j<l.length),mem ⟨b,o+j,none⟩=some (.string l[j])
structure FOK (f:Fct):Prop where
 i0:okI f.n
 i1:okI f.time
 i2:okI f.kind
 i3:okI f.story
 s4:f.lang.size<=maxLen
 i5:okI f.rev
 i6:okI f.base
 s7:f.title.size<=maxLen
 s8:f.author.size<=maxLen
 i11:okI f.lab.till
 i13:okI f.lab.appr
 i14:okI f.lab.denied
 i15:okI f.editor
 i16:okI f.block
 i17:okI f.sentence
 s18:f.text.size<=maxLen
 s19:f.name.size<=maxLen
 i20:okI f.partner
 i21:okI f.cls
 i22:okI f.till
 bl:∀ x∈f.blocks,x.text.size<=maxLen/\okI x.kind/\okI x.id
abbrev fctCells (f:Fct) (tv bv av:Value):Array Value:=#[.int .i64 f.n,.int .i64 f.time,.int .i64 f.kind,.int .i64 f.story,.string f.lang,.int .i64 f.rev,.int .i64 f.base,.string f.title,.string f.author,tv,bv,.int .i64 f.lab.till,av,.int .i64 f.lab.appr,.int .i64 f.lab.denied,.int .i64 f.editor,.int .i64 f.block,.int .i64 f.sentence,.string f.text,.string f.name,.int .i64 f.partner,.int .i64 f.cls,.int .i64 f.till]
def Parts (mem:Addr->Option Value) (f:Fct) (tv bv av:Value):Prop:=StrsM mem tv f.topics/\BlksM mem bv f.blocks/\IntsM mem av f.lab.after
section
variable {mem mem':Addr->Option Value} {w w':World}
theorem StrsM.mono {v:Value} {l:List ByteArray} (h:StrsM mem v l) (hm:∀ a u,mem a=some u->mem' a=some u):StrsM mem' v l:=by
 obtain⟨b,o,h1,h2,h3⟩:=h
 exact⟨b,o,h1,h2,fun j hj=>hm _ _ (h3 j hj)⟩
theorem StrsM.nil (mem:Addr->Option Value):StrsM mem (.slice none 0 0) []:=⟨0,0,sliceNil,by simp,fun j hj=>absurd hj (by simp)⟩
theorem StrsM.slice {v:Value} {l:List ByteArray} (h:StrsM mem v l):∃ ao cap,v=.slice ao l.length cap:=by
 obtain⟨_,_,⟨_,ao,cap,e,_⟩,_⟩:=h
 exact⟨ao,cap,e⟩
theorem StrsM.open_ {v:Value} {l:List ByteArray} (h:StrsM mem v l) (hs:Sees mem w):∃ ao cap b o,v=.slice ao l.length cap/\l.length<=cap/\cap<=maxLen/\(0<l.length->ao=some ⟨b,o,none⟩)/\(∀ s∈l,s.size<=maxLen)/\∀ j (h:j<l.length),w.cell? ⟨b,o+j,none⟩=some (.string l[j]):=by
 obtain⟨b,o,⟨_,ao,cap,e,h1,h2,h3⟩,h4,h5⟩:=h
 exact⟨ao,cap,b,o,e,h1,h2,h3,h4,fun j hj=>hs _ _ (h5 j hj)⟩
theorem Parts.mono {f:Fct} {tv bv av:Value} (h:Parts mem f tv bv av) (hm:∀ a u,mem a=some u->mem' a=some u):Parts mem' f tv bv av:=⟨h.1.mono hm,h.2.1.mono hm,h.2.2.mono hm⟩
end
end Go.Proofs.YtdkkhmjlamkgdaaGreatDoor
namespace Go.Proofs.YtdkkhmjlamkgdaaGreatDoor
open Go.RowKit
def bAt (s:ByteArray) (j:Nat):Nat:=(s.data.toList.getD j 0).toNat
def initB (s:ByteArray) (n:Nat):Bool:=match n with
 |0=>false
 |1=>decide (65<=bAt s 0/\bAt s 0<=90)
 |n+2=>decide ((65<=bAt s (n+1)/\bAt s (n+1)<=90)/\bAt s n=32)
theorem bAt_get (s:ByteArray) (j:Nat) (h:j<s.size):bAt s j=s[j].toNat:=by
 unfold bAt;rw[List.getD_eq_getElem?_getD,list_get s j h];rfl
def sEnds (s:ByteArray) (k:Nat):Bool:=
 ((decide (bAt s k=46) && !initB s k) || decide (bAt s k=33) || decide (bAt s k=63)) && (decide (k+1=s.size) || decide (bAt s (k+1)=32))
theorem sEnds_iff (s:ByteArray) (k:Nat):sEnds s k=true↔((bAt s k=46/\initB s k=false)\/bAt s k=33\/bAt s k=63)/\(k+1=s.size\/bAt s (k+1)=32):=by
 unfold sEnds
 cases initB s k <;> simp[or_assoc]
def piece (s:ByteArray) (a b:Nat):List UInt8:=Lib.trimB (s.extract a b).data.toList 32
def sentGo (s:ByteArray):Nat->Nat->List (List UInt8)
 |0,start=>if piece s start s.size=[] then [] else [piece s start s.size]
 |n+1,start=>if sEnds s (s.size - (n+1)) then piece s start (s.size - (n+1)+1)::sentGo s n (s.size - (n+1)+1) else sentGo s n start
def sentF (s:ByteArray):List (List UInt8):=sentGo s s.size 0
theorem sentGo_step (s:ByteArray) (k start:Nat) (h:k<s.size):
 sentGo s (s.size - k) start=if sEnds s k then piece s start (k+1)::sentGo s (s.size - (k+1)) (k+1) else sentGo s (s.size - (k+1)) start:=by
 obtain⟨m,hm⟩:∃ m,s.size - k=m+1:=⟨s.size - k - 1,by omega⟩
 have e1:s.size - (m+1)=k:=by omega
 have e2:s.size - (k+1)=m:=by omega
 rw[hm,sentGo,e1,e2]
end Go.Proofs.YtdkkhmjlamkgdaaGreatDoor
namespace Go.Proofs.YtdkkhmjlamkgdaaGreatDoor.Mg
structure Corr where
 lang:ByteArray
 block:Int
 sentence:Int
 text:ByteArray
 n:Int
deriving DecidableEq
structure EdnF where
 lang:ByteArray
 rev:Int
 title:ByteArray
 blocks:List Blk
 changed:Int
deriving DecidableEq
structure StyF where
 id:Int
 author:ByteArray
 topics:List ByteArray
 eds:List EdnF
 pub:Int
 corr:List Corr
 retr:Bool
 taken:Bool
deriving DecidableEq
structure TplF where
 name:ByteArray
 text:ByteArray
deriving DecidableEq
structure StF where
 stories:List StyF
 tpls:List TplF
deriving DecidableEq
structure EdG where
 lang:ByteArray
 rev:Int
 title:ByteArray
 changed:Int
 revs:List Fct
structure StG where
 author:ByteArray
 topics:List ByteArray
 pub:Option Int
 corr:List Corr
 retr:Bool
 taken:Bool
 eds:List EdG
def stg0:StG:=⟨str0,[],none,[],false,false,[]⟩
def newEd (f:Fct):EdG:=⟨f.lang,f.rev,f.title,f.n,[f]⟩
def reEd (f:Fct) (e:EdG):EdG:=⟨e.lang,max e.rev f.rev,f.title,f.n,e.revs++[f]⟩
def upEd (f:Fct):List EdG->List EdG
 |[]=>[newEd f]
 |e::r=>if e.lang=f.lang then reEd f e::r else e::upEd f r
def touchEd (f:Fct) (l:List EdG):List EdG:=l.map fun e=>if e.lang=f.lang then { e with changed:=f.n } else e
def corrOf (f:Fct):Corr:=⟨f.lang,f.block,f.sentence,f.text,f.n⟩
def stepG (g:StG) (f:Fct):StG:=
 if f.kind=1 then { g with author:=f.author,topics:=f.topics,eds:=upEd f g.eds }
 else if f.kind=3 then (match g.pub with
  |some _=>g
  |none=>{ g with pub:=some f.n })
 else if f.kind=4 then { g with corr:=g.corr++[corrOf f],eds:=touchEd f g.eds }
 else if f.kind=5 then { g with retr:=true }
 else if f.kind=6 then { g with taken:=true }
 else g
def foldG (l:List Fct) (id:Int):StG:=(l.filter fun f=>decide (f.story=id)).foldl stepG stg0
theorem foldG_snoc (l:List Fct) (f:Fct) (id:Int):foldG (l++[f]) id=if f.story=id then stepG (foldG l id) f else foldG l id:=by
 unfold foldG
 rw[List.filter_append,List.foldl_append]
 by_cases h:f.story=id
 ·rw[if_pos h,List.filter_cons_of_pos (by simpa using h)];rfl
 ·rw[if_neg h,List.filter_cons_of_neg (by simpa using h)];rfl
def actF (f:Fct):Bool:=decide (f.kind=1) || decide (f.kind=3) || decide (f.kind=4) || decide (f.kind=5) || decide (f.kind=6)
theorem stepG_idle {g:StG} {f:Fct} (h:actF f=false):stepG g f=g:=by
 unfold actF at h
 simp only[Bool.or_eq_false_iff,decide_eq_false_iff_not]at h
 unfold stepG
 rw[if_neg h.1.1.1.1,if_neg h.1.1.1.2,if_neg h.1.1.2,if_neg h.1.2,if_neg h.2]
def touched (l:List Fct) (id:Int):Prop:=∃ f∈l,actF f=true/\f.story=id
theorem foldG_untouched {l:List Fct} {id:Int} (h:¬ touched l id):foldG l id=stg0:=by
 have:∀ (m:List Fct) (g:StG),(∀ f∈m,actF f=false)->m.foldl stepG g=g:=fun m=>by
  induction m with
  |nil=>intro g _;rfl
  |cons f m ih=>
   intro g hm
   rw[List.foldl_cons,stepG_idle (hm f List.mem_cons_self)]
   exact ih g (fun x hx=>hm x (List.mem_cons_of_mem _ hx))
 refine this _ _ fun f hf=>?_
 obtain⟨h1,h2⟩:=List.mem_filter.1 hf
 cases ha:actF f
 ·rfl
 ·exact absurd ⟨f,h1,ha,by simpa using h2⟩ h
theorem upEd_in (f:Fct):∀ l:List EdG,f.lang∈l.map EdG.lang->(upEd f l).map EdG.lang=l.map EdG.lang
 |[],h=>by cases h
 |e::r,h=>by
  unfold upEd
  by_cases h1:e.lang=f.lang
  ·rw[if_pos h1];rfl
  ·rw[if_neg h1,List.map_cons,List.map_cons,upEd_in f r]
   rcases List.mem_cons.1 h with h2 | h2
   ·exact absurd h2.symm h1
   ·exact h2
theorem upEd_out (f:Fct):∀ l:List EdG,f.lang∉l.map EdG.lang->(upEd f l).map EdG.lang=l.map EdG.lang++[f.lang]
 |[],_=>rfl
 |e::r,h=>by
  unfold upEd
  rw[if_neg (fun h1=>h (by rw[List.map_cons,h1];exact List.mem_cons_self)),List.map_cons,List.map_cons,upEd_out f r (fun h2=>h (List.mem_cons_of_mem _ h2))];rfl
theorem touchEd_langs (f:Fct) (l:List EdG):(touchEd f l).map EdG.lang=l.map EdG.lang:=by
 unfold touchEd
 rw[List.map_map]
 refine List.map_congr_left fun e _=>?_
 show (if e.lang=f.lang then { e with changed:=f.n } else e).lang=e.lang
 split <;> rfl
def Apart (g:StG):Prop:=(g.eds.map EdG.lang).Nodup
theorem stepG_apart {g:StG} (h:Apart g) (f:Fct):Apart (stepG g f):=by
 unfold stepG
 split
 ·show ((upEd f g.eds).map EdG.lang).Nodup
  by_cases hn:f.lang∈g.eds.map EdG.lang
  ·rw[upEd_in f _ hn];exact h
  ·rw[upEd_out f _ hn];exact List.nodup_append.2 ⟨h,by simp,fun a ha b hb e=>by rw[List.mem_singleton.1 hb]at e;exact hn (e ▸ ha)⟩
 split
 ·split <;> exact h
 split
 ·show ((touchEd f g.eds).map EdG.lang).Nodup
  rw[touchEd_langs];exact h
 split
 ·exact h
 split
 ·exact h
 ·exact h
theorem foldl_apart:∀ (l:List Fct) (g:StG),Apart g->Apart (l.foldl stepG g)
 |[],_,h=>h
 |f::l,_,h=>foldl_apart l _ (stepG_apart h f)
theorem foldG_apart (l:List Fct) (id:Int):Apart (foldG l id):=foldl_apart _ _ List.nodup_nil
def named (revs:List Fct) (b:Int):List Blk:=match revs.reverse.find? (fun p=>decide (p.rev=b)) with
 |some p=>p.blocks
 |none=>[]
theorem named_snoc (revs:List Fct) (f:Fct) (b:Int):named (revs++[f]) b=if f.rev=b then f.blocks else named revs b:=by
 unfold named
 rw[List.reverse_append,List.reverse_singleton,List.singleton_append]
 by_cases h:f.rev=b
 ·rw[if_pos h,List.find?_cons_of_pos (by simpa using h)]
 ·rw[if_neg h,List.find?_cons_of_neg (by simpa using h)]
def revised (l:List Fct) (now:List Blk) (f:Fct):List Blk:=match l.getLast? with
 |none=>f.blocks
 |some p=>if f.base=p.rev then f.blocks else if (mergeF (named l f.base) now f.blocks).2.2=0 then (mergeF (named l f.base) now f.blocks).1 else f.blocks
def blksGo:List Fct->List Blk->List Fct->List Blk
 |_,now,[]=>now
 |l,now,f::r=>blksGo (l++[f]) (revised l now f) r
def blksOf (revs:List Fct):List Blk:=blksGo [] [] revs
theorem blksGo_app:∀ (r s:List Fct) (l:List Fct) (now:List Blk),blksGo l now (r++s)=blksGo (l++r) (blksGo l now r) s
 |[],s,l,now=>by rw[List.append_nil];rfl
 |f::r,s,l,now=>by
  show blksGo (l++[f]) (revised l now f) (r++s)=_
  rw[blksGo_app r s,List.append_assoc];rfl
theorem blksOf_snoc (revs:List Fct) (f:Fct):blksOf (revs++[f])=revised revs (blksOf revs) f:=by
 unfold blksOf
 rw[blksGo_app,List.nil_append];rfl
def joinB:List (List UInt8)->List UInt8
 |[]=>[]
 |[a]=>a
 |a::b::r=>a++[32]++joinB (b::r)
def applyB (c:Corr) (b:Blk):Blk:=
 if (b.kind=1\/b.kind=2\/b.kind=4)/\0<=c.sentence/\c.sentence<(sentF b.text).length then { b with text:=bs (joinB ((sentF b.text).set c.sentence.toNat c.text.data.toList)) } else b
def applyF:List Blk->Corr->List Blk
 |[],_=>[]
 |b::l,c=>if b.id=c.block then applyB c b::l else b::applyF l c
def corrLang (lang:ByteArray) (l:List Corr):List Corr:=l.filter fun c=>decide (c.lang=lang)
def edFin (corr:List Corr) (e:EdG):EdnF:=⟨e.lang,e.rev,e.title,(corrLang e.lang corr).foldl applyF (blksOf e.revs),e.changed⟩
def ltB (a b:ByteArray):Prop:=Op.bytesLess a.toList b.toList=true
structure StyIs (id:Int) (g:StG) (s:StyF):Prop where
 id:s.id=id
 pub:s.pub=g.pub.getD 0
 taken:s.taken=g.taken
 author:s.author=if g.taken then str0 else g.author
 topics:s.topics=if g.taken then [] else g.topics
 corr:s.corr=if g.taken then [] else g.corr
 retr:s.retr=(!g.taken && g.retr)
 eds:(s.eds.map EdnF.lang).Pairwise ltB
 mem:∀ e,e∈s.eds↔g.taken=false/\∃ x∈g.eds,e=edFin g.corr x
def lastTpl (l:List Fct) (name:ByteArray):Option ByteArray:=match l.reverse.find? (fun f=>decide (f.kind=7) && decide (f.name=name)) with
 |some f=>some f.text
 |none=>none
theorem lastTpl_snoc (l:List Fct) (f:Fct) (name:ByteArray):lastTpl (l++[f]) name=if f.kind=7/\f.name=name then some f.text else lastTpl l name:=by
 unfold lastTpl
 rw[List.reverse_append,List.reverse_singleton,List.singleton_append]
 by_cases h:f.kind=7/\f.name=name
 ·rw[if_pos h,List.find?_cons_of_pos (by simp[h.1,h.2])]
 ·rw[if_neg h,List.find?_cons_of_neg (by simpa using h)]
structure FoldIs (l:List Fct) (s:StF):Prop where
 ids:(s.stories.map StyF.id).Pairwise (·<·)
 mem:∀ id,id∈s.stories.map StyF.id↔(foldG l id).pub.isSome=true
 val:∀ x∈s.stories,StyIs x.id (foldG l x.id) x
 names:(s.tpls.map TplF.name).Pairwise ltB
 tpl:∀ t,t∈s.tpls↔lastTpl l t.name=some t.text
theorem bless_eq:∀ (x y:List UInt8),Op.bytesLess x y=decide (x<y)
 |[],[]=>by simp[Op.bytesLess]
 |_::_,[]=>by simp[Op.bytesLess]
 |[],_::_=>by simp[Op.bytesLess]
 |a::x,b::y=>by
  rw[Op.bytesLess,bless_eq x y]
  simp only[List.cons_lt_cons_iff]
  by_cases h1:a<b <;> by_cases h2:a=b <;> by_cases h3:x<y <;> simp[h1,h2,h3]
theorem ltB_iff (a b:ByteArray):ltB a b↔a.data.toList<b.data.toList:=by
 unfold ltB
 rw[ByteArray.toList_eq,ByteArray.toList_eq,bless_eq,decide_eq_true_eq]
theorem ltB_irr (a:ByteArray):¬ ltB a a:=fun h=>List.lt_irrefl _ ((ltB_iff a a).1 h)
theorem ltB_asym {a b:ByteArray} (h:ltB a b):¬ ltB b a:=fun h2=>List.lt_asymm ((ltB_iff a b).1 h) ((ltB_iff b a).1 h2)
theorem ltB_trans {a b c:ByteArray} (h:ltB a b) (h2:ltB b c):ltB a c:=(ltB_iff a c).2 (List.lt_trans ((ltB_iff a b).1 h) ((ltB_iff b c).1 h2))
theorem ltB_total {a b:ByteArray} (h:a≠b):ltB a b\/ltB b a:=by
 rw[ltB_iff,ltB_iff]
 by_cases h1:a.data.toList<b.data.toList
 ·exact .inl h1
 ·right
  have h2:b.data.toList<=a.data.toList:=List.not_lt.1 h1
  rcases Std.le_iff_lt_or_eq.1 h2 with h3 | h3
  ·exact h3
  ·exact absurd (str_ext h3.symm) h
theorem asc_ext {α:Type} {r:α->α->Prop} (irr:∀ a,¬ r a a) (asy:∀ a b,r a b->¬ r b a):∀ {l m:List α},l.Pairwise r->m.Pairwise r->(∀ x,x∈l↔x∈m)->l=m
 |[],[],_,_,_=>rfl
 |[],b::m,_,_,h=>absurd ((h b).2 List.mem_cons_self) (by simp)
 |a::l,[],_,_,h=>absurd ((h a).1 List.mem_cons_self) (by simp)
 |a::l,b::m,hl,hm,h=>by
  obtain⟨ha,hl2⟩:=List.pairwise_cons.1 hl
  obtain⟨hb,hm2⟩:=List.pairwise_cons.1 hm
  have e:a=b:=by
   rcases List.mem_cons.1 ((h a).1 List.mem_cons_self) with e | h1
   ·exact e
   ·rcases List.mem_cons.1 ((h b).2 List.mem_cons_self) with e | h2
    ·exact e.symm
    ·exact absurd (ha b h2) (asy _ _ (hb a h1))
  subst e
  refine congrArg (a::·) (asc_ext irr asy hl2 hm2 (fun x=>?_))
  constructor
  ·intro hx
   rcases List.mem_cons.1 ((h x).1 (List.mem_cons_of_mem _ hx)) with e | h1
   ·subst e;exact absurd (ha _ hx) (irr _)
   ·exact h1
  ·intro hx
   rcases List.mem_cons.1 ((h x).2 (List.mem_cons_of_mem _ hx)) with e | h1
   ·subst e;exact absurd (hb _ hx) (irr _)
   ·exact h1
theorem asc_map {α β:Type} {r:β->β->Prop} (k:α->β) (irr:∀ a,¬ r a a) (asy:∀ a b,r a b->¬ r b a) {l m:List α} (hl:(l.map k).Pairwise r) (hm:(m.map k).Pairwise r) (h:∀ x,x∈l↔x∈m):l=m:=
 asc_ext (r:=fun a b=>r (k a) (k b)) (fun a=>irr (k a)) (fun a b=>asy (k a) (k b)) (List.pairwise_map.1 hl) (List.pairwise_map.1 hm) h
structure Alike (g g':StG):Prop where
 pub:g'.pub=g.pub
 taken:g'.taken=g.taken
 author:g'.author=g.author
 topics:g'.topics=g.topics
 corr:g'.corr=g.corr
 retr:g'.retr=g.retr
 eds:∀ x,x∈g'.eds↔x∈g.eds
theorem Alike.refl (g:StG):Alike g g:=⟨rfl,rfl,rfl,rfl,rfl,rfl,fun _=>Iff.rfl⟩
theorem StyIs.unique {id:Int} {g g':StG} {s s':StyF} (h:StyIs id g s) (h':StyIs id g' s') (e:Alike g g'):s'=s:=by
 have he:s'.eds=s.eds:=asc_map EdnF.lang ltB_irr (fun _ _=>ltB_asym) h'.eds h.eds fun x=>by
  rw[h'.mem,h.mem,e.taken,e.corr]
  constructor
  ·rintro ⟨h1,y,h2,h3⟩;exact⟨h1,y,(e.eds y).1 h2,h3⟩
  ·rintro ⟨h1,y,h2,h3⟩;exact⟨h1,y,(e.eds y).2 h2,h3⟩
 have h1:=h'.id.trans h.id.symm
 have h2:=h'.pub;rw[e.pub,<-h.pub]at h2
 have h3:=h'.taken;rw[e.taken,<-h.taken]at h3
 have h4:=h'.author;rw[e.author,e.taken,<-h.author]at h4
 have h5:=h'.topics;rw[e.topics,e.taken,<-h.topics]at h5
 have h6:=h'.corr;rw[e.corr,e.taken,<-h.corr]at h6
 have h7:=h'.retr;rw[e.retr,e.taken,<-h.retr]at h7
 cases s
 cases s'
 simp only[StyF.mk.injEq]
 exact⟨h1,h4,h5,he,h2,h6,h7,h3⟩
theorem FoldIs.unique {l l':List Fct} {s s':StF} (h:FoldIs l s) (h':FoldIs l' s') (e:∀ id,Alike (foldG l id) (foldG l' id)) (et:∀ name,lastTpl l' name=lastTpl l name):s'=s:=by
 have hids:s'.stories.map StyF.id=s.stories.map StyF.id:=asc_ext (r:=fun a b:Int=>a<b) (fun a=>by omega) (fun a b=>by omega) h'.ids h.ids fun x=>by
  rw[h'.mem,h.mem,(e x).pub]
 have hst:s'.stories=s.stories:=asc_map StyF.id (r:=fun a b:Int=>a<b) (fun a=>by omega) (fun a b=>by omega) h'.ids h.ids fun x=>by
  constructor
  ·intro hx
   have:x.id∈s.stories.map StyF.id:=by rw[<-hids];exact List.mem_map_of_mem hx
   obtain⟨y,hy,e1⟩:=List.mem_map.1 this
   have hy2:=h.val y hy
   rw[e1]at hy2
   rw[StyIs.unique hy2 (h'.val x hx) (e _)];exact hy
  ·intro hx
   have:x.id∈s'.stories.map StyF.id:=by rw[hids];exact List.mem_map_of_mem hx
   obtain⟨y,hy,e1⟩:=List.mem_map.1 this
   have hy2:=h'.val y hy
   rw[e1]at hy2
   rw[<-StyIs.unique (h.val x hx) hy2 (e _)];exact hy
 have htp:s'.tpls=s.tpls:=asc_map TplF.name ltB_irr (fun _ _=>ltB_asym) h'.names h.names fun x=>by rw[h'.tpl,h.tpl,et]
 cases s
 cases s'
 simp only[StF.mk.injEq]
 exact⟨hst,htp⟩
theorem foldl_acts:∀ (l:List Fct) (g:StG),l.foldl stepG g=(l.filter actF).foldl stepG g
 |[],_=>rfl
 |f::l,g=>by
  rw[List.foldl_cons,foldl_acts l]
  by_cases h:actF f=true
  ·rw[List.filter_cons_of_pos h,List.foldl_cons]
  ·rw[List.filter_cons_of_neg h,stepG_idle (by simpa using h)]
def ownF (l:List Fct) (id:Int):List Fct:=l.filter fun f=>decide (f.story=id) && actF f
theorem foldG_own (l:List Fct) (id:Int):foldG l id=(ownF l id).foldl stepG stg0:=by
 unfold foldG ownF
 rw[foldl_acts,List.filter_filter]
 congr 1
 exact List.filter_congr fun f _=>Bool.and_comm _ _
def findS (s:StF) (id:Int):Option StyF:=s.stories.find? fun x=>decide (x.id=id)
def findE (l:List EdnF) (lang:ByteArray):Option EdnF:=l.find? fun e=>decide (e.lang=lang)
def sty0:StyF:=⟨0,str0,[],[],0,[],false,false⟩
def edn0:EdnF:=⟨str0,0,str0,[],0⟩
def blk0:Blk:=⟨0,0,str0,0,0,lab0⟩
def styOf (s:StF) (id:Int):StyF:=(findS s id).getD sty0
def ednOf (s:StF) (id:Int) (lang:ByteArray):Option EdnF:=findE (styOf s id).eds lang
def hasT (l:List ByteArray) (t:ByteArray):Bool:=l.any fun x=>decide (x=t)
def listedF (x:StyF):Bool:=!x.retr && !x.taken && decide (0<x.eds.length)
def countS (s:StF) (topic:ByteArray):Nat:=(s.stories.filter fun x=>listedF x && hasT x.topics topic).length
def tRemoved:List UInt8:=[91,114,101,109,111,118,101,100,93]
def tRetracted:List UInt8:=[91,114,101,116,114,97,99,116,101,100,93]
def tCircular:List UInt8:=[91,99,105,114,99,117,108,97,114,93]
def edFor (x:StyF) (lang:ByteArray):EdnF:=(findE x.eds lang).getD (x.eds.headD edn0)
def quoS (s:StF) (lang:ByteArray) (b:Blk):Blk × List UInt8:=
 if (styOf s b.story).eds=[] then (blk0,tRemoved)
 else match (edFor (styOf s b.story) lang).blocks.find? fun q=>decide (q.id=b.ref) with
  |none=>(blk0,tRemoved)
  |some q=>if (styOf s b.story).retr then (blk0,tRetracted) else (q,[])
def digs (u:Nat):List UInt8:=if u<10 then [UInt8.ofNat (48+u)] else [UInt8.ofNat (48+u / 10),UInt8.ofNat (48+u % 10)]
def shown (s:StF) (b:Blk):List UInt8:=if b.kind=5 then digs (countS s b.text) else b.text.data.toList
def resGo (s:StF) (lang:ByteArray):Nat->Blk->List UInt8
 |0,b=>if b.kind=3 then tCircular else shown s b
 |n+1,b=>if b.kind=3 then (if (quoS s lang b).2=[] then resGo s lang n (quoS s lang b).1 else (quoS s lang b).2) else shown s b
def resS (s:StF) (lang:ByteArray) (b:Blk):List UInt8:=resGo s lang 8 b
theorem resGo_done (s:StF) (lang:ByteArray) (n:Nat) {b:Blk} (h:b.kind≠3):resGo s lang n b=shown s b:=by
 cases n <;> unfold resGo <;> rw[if_neg h]
theorem resGo_step (s:StF) (lang:ByteArray) (n:Nat) {b:Blk} (h:b.kind=3) (h2:(quoS s lang b).2=[]):resGo s lang (n+1) b=resGo s lang n (quoS s lang b).1:=by
 conv=>lhs;unfold resGo
 rw[if_pos h,if_pos h2]
theorem resGo_text (s:StF) (lang:ByteArray) (n:Nat) {b:Blk} (h:b.kind=3) (h2:(quoS s lang b).2≠[]):resGo s lang (n+1) b=(quoS s lang b).2:=by
 conv=>lhs;unfold resGo
 rw[if_pos h,if_neg h2]
theorem resGo_circ (s:StF) (lang:ByteArray) {b:Blk} (h:b.kind=3):resGo s lang 0 b=tCircular:=by
 unfold resGo;rw[if_pos h]
def lineF (kind:Int) (t:ByteArray):List UInt8:=
 if kind=1 then t.data.toList else if kind=2 then joinB (sentF t) else if kind=3 then [34]++t.data.toList++[34] else if kind=4 then [91]++t.data.toList++[93] else [35]++t.data.toList
def lineOf (kind:Int) (t:ByteArray):List UInt8:=if 1<=kind/\kind<=5 then lineF kind t++[10] else []
def plainB (l:List Blk):List UInt8:=l.flatMap fun b=>lineOf b.kind b.text
def shownB (s:StF) (lang:ByteArray) (b:Blk):Blk:=
 if b.kind=3 then { b with text:=bs (resS s lang b) }
 else if b.kind=5 then { blk0 with kind:=2,text:=bs (b.text.data.toList++[58,32]++resS s lang b) }
 else b
def tWas:List UInt8:=[84,104,105,115,32,115,116,111,114,121,32,119,97,115,32,114,101,116,114,97,99,116,101,100,46]
def tCorr:List UInt8:=[67,111,114,114,101,99,116,105,111,110,58,32]
def corrLines (lang:ByteArray) (l:List Corr):List UInt8:=(corrLang lang l).flatMap fun c=>tCorr++c.text.data.toList++[10]
def textE (s:StF) (x:StyF) (e:EdnF) (lang:ByteArray):List UInt8:=
 e.title.data.toList++[10]++(if x.retr then tWas++[10] else plainB (e.blocks.map (shownB s lang))++corrLines lang x.corr)
def textS (s:StF) (id:Int) (lang:ByteArray):Option (List UInt8):=(ednOf s id lang).map fun e=>textE s (styOf s id) e lang
end Go.Proofs.YtdkkhmjlamkgdaaGreatDoor.Mg
namespace Go.Proofs.YtdkkhmjlamkgdaaGreatDoor
open Go.RowKit Mg
def CellsAt (mem:Addr->Option Value) (b o:Nat) (cs:Array Value):Prop:=∀ t,t<cs.size->mem ⟨b,o+t,none⟩=cs[t]?
def SlM {α:Type} (sz:Nat) (At:α->Nat->Nat->Prop) (v:Value) (l:List α):Prop:=∃ b o,SliceOf v l.length b o/\∀ j (h:j<l.length),At l[j] b (o+j * sz)
abbrev corrCells (c:Corr):Array Value:=#[.string c.lang,.int .i64 c.block,.int .i64 c.sentence,.string c.text,.int .i64 c.n]
abbrev ednCells (e:EdnF) (bv:Value):Array Value:=#[.string e.lang,.int .i64 e.rev,.string e.title,bv,.int .i64 e.changed]
abbrev styCells (x:StyF) (tv ev cv:Value):Array Value:=#[.int .i64 x.id,.string x.author,tv,ev,.int .i64 x.pub,cv,.bool x.retr,.bool x.taken]
abbrev tplCells (t:TplF):Array Value:=#[.string t.name,.string t.text]
structure CorrOK (c:Corr):Prop where
 s0:c.lang.size<=maxLen
 i1:okI c.block
 i2:okI c.sentence
 s3:c.text.size<=maxLen
 i4:okI c.n
structure EdnOK (e:EdnF):Prop where
 s0:e.lang.size<=maxLen
 i1:okI e.rev
 s2:e.title.size<=maxLen
 i4:okI e.changed
structure StyOK (x:StyF):Prop where
 i0:okI x.id
 s1:x.author.size<=maxLen
 i4:okI x.pub
structure TplOK (t:TplF):Prop where
 s0:t.name.size<=maxLen
 s1:t.text.size<=maxLen
def CorrAt (mem:Addr->Option Value) (c:Corr) (b o:Nat):Prop:=CorrOK c/\CellsAt mem b o (corrCells c)
def EdnAt (mem:Addr->Option Value) (e:EdnF) (b o:Nat):Prop:=EdnOK e/\∃ bv,CellsAt mem b o (ednCells e bv)/\BlksM mem bv e.blocks
def EdnsM (mem:Addr->Option Value) (v:Value) (l:List EdnF):Prop:=SlM 5 (EdnAt mem) v l
def CorrsM (mem:Addr->Option Value) (v:Value) (l:List Corr):Prop:=SlM 5 (CorrAt mem) v l
def StyP (mem:Addr->Option Value) (x:StyF) (tv ev cv:Value):Prop:=StrsM mem tv x.topics/\EdnsM mem ev x.eds/\CorrsM mem cv x.corr
def StyAt (mem:Addr->Option Value) (x:StyF) (b o:Nat):Prop:=StyOK x/\∃ tv ev cv,CellsAt mem b o (styCells x tv ev cv)/\StyP mem x tv ev cv
def StysM (mem:Addr->Option Value) (v:Value) (l:List StyF):Prop:=SlM 8 (StyAt mem) v l
def TplAt (mem:Addr->Option Value) (t:TplF) (b o:Nat):Prop:=TplOK t/\CellsAt mem b o (tplCells t)
def TplsM (mem:Addr->Option Value) (v:Value) (l:List TplF):Prop:=SlM 2 (TplAt mem) v l
def StateM (mem:Addr->Option Value) (v:Value) (s:StF):Prop:=∃ sv tv,v=.agg #[sv,tv]/\StysM mem sv s.stories/\TplsM mem tv s.tpls
section
variable {mem mem':Addr->Option Value} {w:World}
theorem CellsAt.mono {b o:Nat} {cs:Array Value} (h:CellsAt mem b o cs) (hm:∀ a u,mem a=some u->mem' a=some u):CellsAt mem' b o cs:=fun t ht=>by
 have h1:=h t ht
 rw[Array.getElem?_eq_getElem ht]at h1 ⊢
 exact hm _ _ h1
theorem SlM.mono {α:Type} {sz:Nat} {A A':α->Nat->Nat->Prop} {v:Value} {l:List α} (h:SlM sz A v l) (hA:∀ x b o,A x b o->A' x b o):SlM sz A' v l:=by
 obtain⟨b,o,h1,h2⟩:=h
 exact⟨b,o,h1,fun j hj=>hA _ _ _ (h2 j hj)⟩
theorem SlM.nil {α:Type} (sz:Nat) (A:α->Nat->Nat->Prop):SlM sz A (.slice none 0 0) []:=⟨0,0,sliceNil,fun j hj=>absurd hj (by simp)⟩
theorem SlM.open_ {α:Type} {sz:Nat} {A:α->Nat->Nat->Prop} {v:Value} {l:List α} (h:SlM sz A v l):∃ ao cap b o,v=.slice ao l.length cap/\l.length<=cap/\cap<=maxLen/\(0<l.length->ao=some ⟨b,o,none⟩)/\∀ j (h:j<l.length),A l[j] b (o+j * sz):=by
 obtain⟨b,o,⟨_,ao,cap,e,h1,h2,h3⟩,h4⟩:=h
 exact⟨ao,cap,b,o,e,h1,h2,h3,h4⟩
theorem SlM.slice {α:Type} {sz:Nat} {A:α->Nat->Nat->Prop} {v:Value} {l:List α} (h:SlM sz A v l):∃ ao cap,v=.slice ao l.length cap:=by
 obtain⟨ao,cap,_,_,e,_⟩:=h.open_
 exact⟨ao,cap,e⟩
theorem SlM.all {α:Type} {sz:Nat} {A:α->Nat->Nat->Prop} {v:Value} {l:List α} (h:SlM sz A v l) {p:α->Prop} (hp:∀ x b o,A x b o->p x):∀ x∈l,p x:=fun x hx=>by
 obtain⟨b,o,_,h2⟩:=h
 obtain⟨j,hj,rfl⟩:=List.getElem_of_mem hx
 exact hp _ _ _ (h2 j hj)
theorem CorrAt.mono {c:Corr} {b o:Nat} (h:CorrAt mem c b o) (hm:∀ a u,mem a=some u->mem' a=some u):CorrAt mem' c b o:=⟨h.1,h.2.mono hm⟩
theorem TplAt.mono {c:TplF} {b o:Nat} (h:TplAt mem c b o) (hm:∀ a u,mem a=some u->mem' a=some u):TplAt mem' c b o:=⟨h.1,h.2.mono hm⟩
theorem EdnAt.mono {e:EdnF} {b o:Nat} (h:EdnAt mem e b o) (hm:∀ a u,mem a=some u->mem' a=some u):EdnAt mem' e b o:=by
 obtain⟨h0,bv,h1,h2⟩:=h
 exact⟨h0,bv,h1.mono hm,h2.mono hm⟩
theorem CorrsM.mono {v:Value} {l:List Corr} (h:CorrsM mem v l) (hm:∀ a u,mem a=some u->mem' a=some u):CorrsM mem' v l:=SlM.mono h fun _ _ _ h=>h.mono hm
theorem EdnsM.mono {v:Value} {l:List EdnF} (h:EdnsM mem v l) (hm:∀ a u,mem a=some u->mem' a=some u):EdnsM mem' v l:=SlM.mono h fun _ _ _ h=>h.mono hm
theorem StyP.mono {x:StyF} {tv ev cv:Value} (h:StyP mem x tv ev cv) (hm:∀ a u,mem a=some u->mem' a=some u):StyP mem' x tv ev cv:=⟨h.1.mono hm,h.2.1.mono hm,h.2.2.mono hm⟩
theorem StyAt.mono {x:StyF} {b o:Nat} (h:StyAt mem x b o) (hm:∀ a u,mem a=some u->mem' a=some u):StyAt mem' x b o:=by
 obtain⟨h0,tv,ev,cv,h1,h2⟩:=h
 exact⟨h0,tv,ev,cv,h1.mono hm,h2.mono hm⟩
theorem StysM.mono {v:Value} {l:List StyF} (h:StysM mem v l) (hm:∀ a u,mem a=some u->mem' a=some u):StysM mem' v l:=SlM.mono h fun _ _ _ h=>h.mono hm
theorem TplsM.mono {v:Value} {l:List TplF} (h:TplsM mem v l) (hm:∀ a u,mem a=some u->mem' a=some u):TplsM mem' v l:=SlM.mono h fun _ _ _ h=>h.mono hm
theorem StateM.mono {v:Value} {s:StF} (h:StateM mem v s) (hm:∀ a u,mem a=some u->mem' a=some u):StateM mem' v s:=by
 obtain⟨sv,tv,e,h1,h2⟩:=h
 exact⟨sv,tv,e,h1.mono hm,h2.mono hm⟩
def StyV (mem:Addr->Option Value) (v:Value) (x:StyF):Prop:=StyOK x/\∃ tv ev cv,v=.agg (styCells x tv ev cv)/\StyP mem x tv ev cv
def EdnV (mem:Addr->Option Value) (v:Value) (e:EdnF):Prop:=EdnOK e/\∃ bv,v=.agg (ednCells e bv)/\BlksM mem bv e.blocks
theorem StyP.shape {x:StyF} {tv ev cv:Value} (h:StyP mem x tv ev cv):∃ t1 t2 e1 e2 c1 c2,tv=.slice t1 x.topics.length t2/\ev=.slice e1 x.eds.length e2/\cv=.slice c1 x.corr.length c2:=by
 obtain⟨t1,t2,q1⟩:=h.1.slice
 obtain⟨e1,e2,q2⟩:=SlM.slice h.2.1
 obtain⟨c1,c2,q3⟩:=SlM.slice h.2.2
 exact⟨t1,t2,e1,e2,c1,c2,q1,q2,q3⟩
theorem okI_zero:okI 0:=⟨by omega,by omega⟩
theorem str0_ok:str0.size<=maxLen:=Nat.zero_le _
theorem sty0_P:StyP mem sty0 (.slice none 0 0) (.slice none 0 0) (.slice none 0 0):=⟨StrsM.nil _,SlM.nil _ _,SlM.nil _ _⟩
theorem sty0_V:StyV mem (.agg (styCells sty0 (.slice none 0 0) (.slice none 0 0) (.slice none 0 0))) sty0:=⟨⟨okI_zero,str0_ok,okI_zero⟩,_,_,_,rfl,sty0_P⟩
theorem edn0_V:EdnV mem (.agg (ednCells edn0 (.slice none 0 0))) edn0:=⟨⟨str0_ok,okI_zero,str0_ok,okI_zero⟩,_,rfl,BlksM.nil _⟩
end
end Go.Proofs.YtdkkhmjlamkgdaaGreatDoor
namespace Go.Proofs.YtdkkhmjlamkgdaaGreatDoor
open Go.RowKit Go.Maps
def KMap (P:Program) (k:TypeId) (w:World) (b:Nat) (n:Nat) (g:Value->Option Value):Prop:=
 ∃ D:DataW Value,w.ownsMap P k heldV b n D/\∀ key kl,keyOf P k key=some kl->Maps.has D kl=(g key).isSome/\∀ z,D.atKey kl (.held z)=.held ((g key).getD z)
section
variable {P:Program} {k:TypeId} {w w':World} {b n:Nat} {g:Value->Option Value}
theorem KMap.made {w:World} {b:Nat} (P:Program) (k:TypeId) (h:w.heap[b]?=some (.map #[] 0)):KMap P k w b 0 (fun _=>none):=by
 obtain⟨es,clock,h1,r⟩:=World.ownsMap_made w P k heldV
 rw[World.alloc_heap_new]at h1
 injection h1 with h1
 injection h1 with h1 h2
 subst h1 h2
 exact⟨_,⟨_,_,h,r⟩,fun key kl _=>⟨rfl,fun _=>rfl⟩⟩
theorem KMap.lt (h:KMap P k w b n g):b<w.heap.size:=by obtain⟨D,h,_⟩:=h;exact h.lt
theorem KMap.of_block (h:KMap P k w b n g) (e:w'.heap[b]?=w.heap[b]?):KMap P k w' b n g:=by
 obtain⟨D,⟨es,clock,hb,r⟩,h2⟩:=h
 exact⟨D,⟨es,clock,e.trans hb,r⟩,h2⟩
theorem KMap.below {B:Nat} (h:KMap P k w b n g) (hu:Below B w w') (hn:b<B):KMap P k w' b n g:=h.of_block (hu.block _ hn)
theorem KMap.bel (h:KMap P k w b n g) (hu:Below w.heap.size w w'):KMap P k w' b n g:=h.below hu h.lt
theorem KMap.alloc (h:KMap P k w b n g) (o:Obj):KMap P k (w.alloc o) b n g:=h.of_block (Below.heap_alloc _ _ _ h.lt)
theorem KMap.drew (h:KMap P k w b n g):KMap P k w.drew b n g:=h
theorem KMap.look (h:KMap P k w b n g) (K:Keyed P k) {t e:TypeId} (ht:P.underlying t=some (.map k e)) {z:Value} (hz:(zeroValue e).run P w=.ok z w) {key:Value} {kl:Lit} (hk:keyOf P k key=some kl):
 (Instr.lookup t (.map (some b)) key false).run P w=.ok ((g key).getD z) w:=by
 obtain⟨D,ho,hD⟩:=h
 obtain⟨v,ps,hr,hv⟩:=ho.lookup K ht hz (zd:=.held z) (zp:=[]) rfl hk
 rw[(hD key kl hk).2 z]at hv
 have:v=(g key).getD z:=by
  have:=(Option.some.inj hv)
  injection this with h1 _
  injection h1
 rw[<-this];exact hr
open Classical in
theorem KMap.store (h:KMap P k w b n g) (K:Keyed P k) {t e:TypeId} (ht:P.underlying t=some (.map k e)) (hl:n<maxLen) {key:Value} {kl:Lit} (hk:keyOf P k key=some kl) (v:Value):
 ∃ w',(Instr.mapUpdate t (.map (some b)) key v).run P w=.ok () w'/\KMap P k w' b (n+1) (fun x=>if x=key then some v else g x)/\w.grownBy w' (some b):=by
 obtain⟨D,ho,hD⟩:=h
 obtain⟨w',hr,ho',hg⟩:=ho.update K ht hl hk (val:=v) (d:=.held v) (ps:=[]) rfl
 have hkl:=K.key hk
 refine⟨w',hr,⟨_,ho',fun x xl hx=>?_⟩,hg⟩
 by_cases e:x=key
 ·subst e
  obtain rfl:xl=kl:=by rw[hx]at hk;exact Option.some.inj hk
  rw[has_put_same ho.isMap hkl]
  dsimp only
  rw[if_pos rfl]
  refine⟨rfl,fun z=>?_⟩
  rw[atKey_put_same ho.isMap hkl];rfl
 ·have hne:xl≠kl:=fun h=>e (K.inj (h ▸ hx) hk)
  rw[has_put_other hne]
  dsimp only
  rw[if_neg e]
  refine⟨(hD x xl hx).1,fun z=>?_⟩
  rw[atKey_put_other hne]
  exact(hD x xl hx).2 z
end
end Go.Proofs.YtdkkhmjlamkgdaaGreatDoor
namespace Go.Proofs.YtdkkhmjlamkgdaaGreatDoor
open Go.RowKit Mg
theorem ret_bool {a b:Bool} (h:a=b):Ending.returned (.bool a)=.returned (.bool b):=by rw[h]
theorem all_take {α:Type} {p:α->Bool} {l:List α} (k:Nat) (hk:k<l.length):(l.take (k+1)).all p=((l.take k).all p && p l[k]):=by
 rw[List.take_succ_eq_append_getElem hk,List.all_append];simp
theorem all_of_not {α:Type} {p:α->Bool} {l:List α} (k:Nat) (hk:k<l.length) (h:p l[k]=false):l.all p=false:=by
 rw[List.all_eq_false];exact⟨l[k],List.getElem_mem hk,by rw[h];simp⟩
theorem all_full {α:Type} {p:α->Bool} {l:List α} (h:(l.take l.length).all p=true):l.all p=true:=by rwa [List.take_length]at h
theorem cell_new {w:World} {cs:Array Value} {t:TypeId} {g j:Nat} {v:Value} (hg:g=w.heap.size) (h:cs[j]?=some v):(w.alloc (.cells cs t)).cell? ⟨g,j,none⟩=some v:=by
 subst hg
 rw[World.cell?_alloc_at _ _ _ _ (by first|rfl | simp)];exact h
theorem cell_old {w:World} {o:Obj} {p:Addr} {v:Value} (h:w.cell? p=some v):(w.alloc o).cell? p=some v:=by
 rw[World.cell?_alloc_lt _ _ _ (World.block_lt_of_cell? w p h)];exact h
theorem afterOK_cons {last s:Int} {r:List Int}:afterOK last (s::r)=(decide (last+1<=s) && decide (s<=64) && afterOK s r):=rfl
theorem below_drewN {B:Nat} {a w:World} (h:Below B a w) (n:Nat):Below B a (w.drewN n):=⟨h.os,h.tape,h.output,h.size,h.block⟩
theorem take_step {α:Type} {l m:List α} {k:Nat} (h1:k<l.length) (h2:k<m.length) (h:l.take k=m.take k) (e:l[k]=m[k]):l.take (k+1)=m.take (k+1):=by
 rw[List.take_succ_eq_append_getElem h1,List.take_succ_eq_append_getElem h2,h,e]
theorem ne_of_get {α:Type} {l m:List α} {k:Nat} (h1:k<l.length) (h2:k<m.length) (e:l[k]≠m[k]):l≠m:=fun h=>by subst h;exact e rfl
theorem eq_full {α:Type} {l m:List α} (hl:l.length=m.length) (h:l.take l.length=m.take l.length):l=m:=by
 rw[List.take_length]at h
 rw[h];rw[hl,List.take_length]
set_option maxHeartbeats 1000000 in
theorem equal_any {mem:Addr->Option Value} (v u:Value) (l m:List Int) (h1:IntsM mem v l) (h2:IntsM mem u m) (w:World) (hs:Sees mem w):
 Calls Tryz.prog 121 #[v,u] w fun e w'=>e=.returned (.bool (decide (l=m)))/\Below w.heap.size w w':=by
 obtain⟨ao,cap,b,o,rfl,hcap,hm,hao,hcells⟩:=h1.open_ hs
 obtain⟨ao2,cap2,b2,o2,rfl,hcap2,hm2,hao2,hcells2⟩:=h2.open_ hs
 have HA:=Lib.hid hao
 have HA2:=Lib.hid hao2
 have HC:=Lib.hid hcells
 have HC2:=Lib.hid hcells2
 have hlen:(l.length:Int)<=9223372036854775807:=by unfold maxLen at hm;omega
 have hlen2:(m.length:Int)<=9223372036854775807:=by unfold maxLen at hm2;omega
 clear hao hao2 hcells hcells2 hs h1 h2 hcap hcap2 hm hm2
 by_cases hl:l.length=m.length
 ·have HL:=Lib.hid hl
  rw[<-hl]
  clear hl
  go_enter Tryz.func121,Tryz.ntmps121
  go_wp2_with fail
  go_loopw [13] (fun i wr=>∃ k:Nat,k<=l.length/\i=.int .i64 k/\Below w.heap.size w wr/\Hid (l.take k=m.take k)) (fun i _=>l.length - (intOf i).toNat)
  case atStart=>exact⟨0,Nat.zero_le _,rfl,Below.refl _ _,Lib.hid rfl⟩
  case round=>
   obtain⟨k,hk,rfl,hb,ht⟩:=hrel
   by_cases hlt:k<l.length
   ·have hlt2:k<m.length:=by rw[<-HL.out];exact hlt
    have c1:=HC.out k hlt
    have c2:=HC2.out k hlt2
    obtain rfl:=HA.out (by omega)
    obtain rfl:=HA2.out (by omega)
    replace c1:=(hb.cell (p:=⟨b,o+k,none⟩) (World.block_lt_of_cell? w _ c1)).trans c1
    replace c2:=(hb.cell (p:=⟨b2,o2+k,none⟩) (World.block_lt_of_cell? w _ c2)).trans c2
    have HE:Hid (l[k]=m[k]->l.take (k+1)=m.take (k+1)):=Lib.hid (take_step hlt hlt2 ht.out)
    have HN:Hid (l[k]≠m[k]->l≠m):=Lib.hid (ne_of_get hlt hlt2)
    generalize l[k]=x at *
    generalize m[k]=y at *
    have hk0:(0:Int)<=k:=by omega
    have hk1:(k:Int)<l.length:=by omega
    clear ht hlt2
    by_cases hxy:x=y
    ·subst hxy
     have HE2:=Lib.hid (HE.out rfl)
     clear HE
     go_wp2_with fail
     go_quiet (fail)
     go_wp2_with fail
     go_roundw
     case rel=>exact⟨k+1,by omega,by go_num,below_drewN hb _,HE2⟩
     case measure=>simp[intOf];omega
    ·have hne:(x != y)=true:=by simpa using hxy
     have HNE:=Lib.hid hxy
     clear hxy
     go_wp2_with fail
     go_quiet (fail)
     go_wp2_with fail
     go_ret
     exact⟨ret_bool (by symm;exact decide_eq_false (HN.out HNE.out)),below_drewN hb _⟩
   ·have e:k=l.length:=by omega
    subst e
    have HF:Hid (l=m):=Lib.hid (eq_full HL.out ht.out)
    go_wp2_with fail
    go_ret
    exact⟨ret_bool (by symm;exact decide_eq_true HF.out),hb⟩
 ·have hne:decide (l.length=m.length)=false:=decide_eq_false hl
  have HNE:Hid (l≠m):=Lib.hid (fun e=>hl (by rw[e]))
  go_enter Tryz.func121,Tryz.ntmps121
  go_wp2_with fail
  all_goals first
   |(go_ret
     exact⟨ret_bool (by symm;exact decide_eq_false HNE.out),Below.refl _ _⟩)
   |(exfalso;simp_all;done)
theorem lab_dec (t p d t2 p2 d2:Int) (l m:List Int):decide (({ till:=t,after:=l,appr:=p,denied:=d }:Lab)={ till:=t2,after:=m,appr:=p2,denied:=d2 })=(decide (t=t2) && (decide (l=m) && (decide (p=p2) && decide (d=d2)))):=by
 simp only[Lab.mk.injEq,Bool.decide_and]
set_option maxRecDepth 10000 in
set_option maxHeartbeats 1000000 in
theorem labSame_any {mem:Addr->Option Value} (x y:Lab) (av bv:Value) (h1:IntsM mem av x.after) (h2:IntsM mem bv y.after) (w:World) (hs:Sees mem w):
 Calls Tryz.prog 86 #[.agg (labCells x av),.agg (labCells y bv)] w fun e w'=>e=.returned (.bool (decide (x=y)))/\Below w.heap.size w w':=by
 obtain⟨t,l,p,d⟩:=x
 obtain⟨t2,m,p2,d2⟩:=y
 obtain⟨ao,cap,rfl⟩:=h1.slice
 obtain⟨ao2,cap2,rfl⟩:=h2.slice
 dsimp only at h1 h2
 have HR:=Lib.hid (lab_dec t p d t2 p2 d2 l m)
 have hB0:∀ o o',Below w.heap.size w ((w.alloc o).alloc o'):=fun o o'=>((Below.refl _ w).alloc (Nat.le_refl _) _).alloc (by simp) _
 have HB0:=Lib.hid hB0
 clear hB0
 by_cases e1:t=t2
 ·subst e1
  have HE:=Lib.hid (fun W hW=>equal_any _ _ l m h1 h2 W hW)
  have HS:=Lib.hid hs
  clear h1 h2 hs
  go_enter Tryz.func86,Tryz.ntmps86
  go_wp2_with fail
  refine(HE.out _ ((HS.out.alloc _).alloc _)).mono ?_
  rintro e w1 ⟨rfl,hb⟩
  have hB:=(HB0.out _ _).trans (hb.mono (by simp <;> omega))
  have hc:∀ (j:Nat) (u:Value),(labCells { till:=t,after:=l,appr:=p,denied:=d } (.slice ao l.length cap))[j]?=some u->w1.cell? ⟨w.heap.size,j,none⟩=some u:=fun j u hu=>(hb.cell (p:=⟨w.heap.size,j,none⟩) (by simp <;> omega)).trans (cell_old (cell_new rfl hu))
  have hc':∀ (j:Nat) (u:Value),(labCells { till:=t,after:=m,appr:=p2,denied:=d2 } (.slice ao2 m.length cap2))[j]?=some u->w1.cell? ⟨w.heap.size+1,j,none⟩=some u:=fun j u hu=>(hb.cell (p:=⟨w.heap.size+1,j,none⟩) (by simp <;> omega)).trans (cell_new (by simp) hu)
  have c2:=hc 2 _ rfl
  have c3:=hc 3 _ rfl
  have d2':=hc' 2 _ rfl
  have d3:=hc' 3 _ rfl
  clear hc hc' hb
  generalize decide (l=m)=q at *
  cases q with
  |false=>
   go_wp2_with fail
   go_ret
   exact⟨ret_bool (by rw[HR.out];simp),hB⟩
  |true=>
   by_cases e2:p=p2
   ·subst e2
    by_cases e3:d=d2
    ·subst e3
     go_wp2_with fail
     go_ret
     exact⟨ret_bool (by rw[HR.out];simp),hB⟩
    ·have n3:(d == d2)=false:=by simpa using e3
     have E3:=Lib.hid e3
     clear e3
     go_wp2_with fail
     go_ret
     exact⟨ret_bool (by rw[HR.out];simp[E3.out]),hB⟩
   ·have n2:(p == p2)=false:=by simpa using e2
    have E2:=Lib.hid e2
    clear e2
    go_wp2_with fail
    go_ret
    exact⟨ret_bool (by rw[HR.out];simp[E2.out]),hB⟩
 ·have n1:(t == t2)=false:=by simpa using e1
  have E1:=Lib.hid e1
  clear e1 h1 h2 hs
  go_enter Tryz.func86,Tryz.ntmps86
  go_wp2_with fail
  go_ret
  exact⟨ret_bool (by rw[HR.out];simp[E1.out]),HB0.out _ _⟩
end Go.Proofs.YtdkkhmjlamkgdaaGreatDoor
namespace Go.Proofs.YtdkkhmjlamkgdaaGreatDoor
open Go.RowKit Mg Go.Shelf
def encI (i:Int):Value:=.int .i64 i
def IRow (w:World) (B:Nat) (v:Value) (l:List Int):Prop:=w.ownsRow B 3 1 v l.length (l.map encI)
theorem int_info:(Tryz.prog.info? 3).map (fun i=>(i.zero,i.size,i.bytes))=some (some (.int .i64 0),1,8):=by kernel_rfl
theorem IRow.shape {w:World} {B:Nat} {v:Value} {l:List Int} (h:IRow w B v l):∃ ao cap,v=.slice ao l.length cap:=by
 rcases h.2 with ⟨h1,h2⟩ | ⟨g,cap,cur,h1,_⟩
 ·exact⟨none,0,by rw[h1,h2]⟩
 ·exact⟨_,cap,h1⟩
theorem IRow.cells {w:World} {B:Nat} {v:Value} {l:List Int} (h:IRow w B v l) (j:Nat) (hj:j<l.length):∃ g cap,v=.slice (some ⟨g,0,none⟩) l.length cap/\l.length<=cap/\cap<=maxLen/\B<=g/\w.cell? ⟨g,j,none⟩=some (.int .i64 l[j]):=by
 rcases h.2 with ⟨_,h2⟩ | ⟨g,cap,cur,h1,hb,hh,h4,h5,h6,h7⟩
 ·omega
 ·refine⟨g,cap,h1,h4,h5,hb,?_⟩
  have:=World.ownsRow.cells h (g:=g) (by rw[h1];rfl) j (encI l[j]) (by simp[hj])
  rwa [Addr.add_lit,Nat.zero_add]at this
theorem IRow.ints {w:World} {B:Nat} {v:Value} {l:List Int} (h:IRow w B v l):IntsM (fun a=>w.cell? a) v l:=by
 rcases h.2 with ⟨h1,h2⟩ | ⟨g,cap,cur,h1,hb,hh,h4,h5,h6,h7⟩
 ·have:l=[]:=List.eq_nil_of_length_eq_zero h2
  subst this;subst h1;exact IntsM.nil _
 ·refine⟨g,0,⟨by omega,_,cap,h1,h4,h5,fun _=>rfl⟩,fun j hj=>?_⟩
  obtain⟨g',cap',e,_,_,_,hc⟩:=h.cells j hj
  rw[h1]at e
  injection e with e1
  injection e1 with e1
  injection e1 with e1
  subst e1
  rw[Nat.zero_add];exact hc
theorem IRow.kept {w w':World} {B:Nat} {v:Value} {l:List Int} {F:Nat->Prop} (h:IRow w B v l) (hu:Upd F w w') (hn:∀ k,v.ownBlock=some k->¬ F k):IRow w' B v l:=by
 refine⟨h.1,?_⟩
 rcases h.2 with hn | ⟨g,cap,cur,rfl,hb,hgg,rest⟩
 ·exact .inl hn
 ·exact .inr ⟨g,cap,cur,rfl,hb,(hu.block g (Array.getElem?_eq_some_iff.1 hgg).1 (hn g rfl)).trans hgg,rest⟩
theorem IRow.ge {w:World} {B:Nat} {v:Value} {l:List Int} (h:IRow w B v l):∀ k,v.ownBlock=some k->B<=k:=fun k hk=>(World.ownsRow.lt h k hk).1
theorem IRow.lt {w:World} {B:Nat} {v:Value} {l:List Int} (h:IRow w B v l):∀ k,v.ownBlock=some k->k<w.heap.size:=fun k hk=>(World.ownsRow.lt h k hk).2
def idxI (l:List Int) (x:Int):Int:=if x∈l then (l.idxOf x:Nat) else -1
theorem ret_int {a b:Int} (h:a=b):Ending.returned (.int .i64 a)=.returned (.int .i64 b):=by rw[h]
theorem one_cell (l:List Int):∀ u∈l.map encI,u.oneCell'=true:=by
 intro u hu
 obtain⟨i,_,rfl⟩:=List.mem_map.1 hu
 rfl
section
variable {ops:Array Oper} {rest:List Oper} {o:Oper} {a:Act} {w:World} {Q:Exit->Act->World->Prop}
theorem run_app_int {B:Nat} {v:Value} {l:List Int} (h:IRow w B v l) (x:Int) (g cap:Nat) (hc:w.cell? ⟨g,0,none⟩=some (.int .i64 x)) (hlen:l.length<=100000) (hB:B<=w.heap.size) (ty:Nat):
 ∃ v' w',(Builtin.append_ #[46,46] ty #[v,.slice (some ⟨g,0,none⟩) 1 cap]).run Tryz.prog w=.ok v' w'/\IRow w' B v' (l++[x])/\w.grownBy w' v.ownBlock/\(v'.ownBlock=v.ownBlock\/v'.ownBlock=some w.heap.size):=by
 obtain⟨i0,hi,hz0,hz1,hz2⟩:=info_parts int_info
 obtain⟨v',w',hr,h2,h3,_,h5⟩:=run_append_own_at (P:=Tryz.prog) w B 46 ty 3 i0 (.int .i64 0) 1 8 Tryz.underlying46 hi hz0 hz1 hz2 rfl (by decide) v l.length (l.map encI) h ⟨g,0,none⟩ 1 cap [.int .i64 x] rfl
  (fun j u hj=>by
    match j,hj with
    |0,hj=>simp at hj;subst hj;simpa [Addr.add] using hc)
  (by simp[Value.oneCell']) (by unfold maxLen;omega) (by omega) hB
 exact⟨v',w',hr,by unfold IRow;simpa [encI] using h2,h3,h5⟩
theorem wpList_app_int (hgd:o.guard=none) (s x:Operand) (ho:o.op=.call { callee:=.builtin .append,args:=#[s,x],argTypes:=#[46,46] })
 (B:Nat) (v:Value) (l:List Int) (hs:a.eval s=v) (hown:IRow w B v l) (i:Int) (g cap:Nat) (hx:a.eval x=.slice (some ⟨g,0,none⟩) 1 cap) (hc:w.cell? ⟨g,0,none⟩=some (.int .i64 i)) (hlen:l.length<=100000) (hB:B<=w.heap.size)
 (h:∀ v' w',IRow w' B v' (l++[i])->w.grownBy w' v.ownBlock->(v'.ownBlock=v.ownBlock\/v'.ownBlock=some w.heap.size)->wpList Tryz.prog ops Q rest (a.put o.dst v') w'):wpList Tryz.prog ops Q (o::rest) a w:=by
 refine wpList_plain hgd fun K hK=>?_
 obtain⟨v',w',hr,h2,h3,h4⟩:=run_app_int hown i g cap hc hlen hB o.type
 unfold Oper.wp execOp
 simp only[ho,resolve,invoke,builtin,Sem.run_bind,Sem.run_pure,Result.andThen_ok,List.map_toArray,List.map_cons,List.map_nil,hs,hx,hr]
 exact hK _ _ (h v' w' h2 h3 h4)
end
theorem IRow.alloc {w:World} {B:Nat} {v:Value} {l:List Int} (h:IRow w B v l) (o:Obj):IRow (w.alloc o) B v l:=World.ownsRow.alloc h o
theorem IRow.sl {w:World} {B:Nat} {v:Value} {l:List Int} (h:IRow w B v l):∃ ao n cap,v=.slice ao n cap:=by
 obtain⟨ao,cap,e⟩:=h.shape;exact⟨ao,_,cap,e⟩
theorem cell_lt {W:World} {a:Addr} {u:Value} (h:W.cell? a=some u):a.block<W.heap.size:=World.block_lt_of_cell? W a h
theorem blk_cell {W:World} {g:Nat} {cs:Array Value} {t:TypeId} (h:W.heap[g]?=some (.cells cs t (0,0))) (j:Nat):W.cell? ⟨g,j,none⟩=cs[j]?:=by
 unfold World.cell?;simp[h]
theorem blk_free {W:World} {g:Nat} {cs:Array Value} {t:TypeId} (h:W.heap[g]?=some (.cells cs t (0,0))) (j:Nat):W.frozen? ⟨g,j,none⟩=false:=by
 unfold World.frozen?;simp only[h];simp
theorem IRow.bel {w w':World} {B:Nat} {v:Value} {l:List Int} (h:IRow w B v l) (hb:Below w.heap.size w w'):IRow w' B v l:=
 IRow.kept (F:=fun k=>w.heap.size<=k) h (Upd.of_below hb) (fun k e=>by have:=h.lt k e;omega)
theorem heap_new2 (w:World) (A B:Obj):((w.alloc A).alloc B).heap[w.heap.size+1]?=some B:=by
 have:=World.alloc_heap_new (w.alloc A) B
 rwa [World.size_alloc]at this
abbrev blkVals (x:Blk) (av:Value):List Value:=[.int .i64 x.id,.int .i64 x.kind,.string x.text,.int .i64 x.story,.int .i64 x.ref,.int .i64 x.lab.till,av,.int .i64 x.lab.appr,.int .i64 x.lab.denied]
def BVals (mem:Addr->Option Value):List Blk->List Value->Prop
 |[],vs=>vs=[]
 |x::l,vs=>∃ ao cap rest,IntsM mem (.slice ao x.lab.after.length cap) x.lab.after/\vs=blkVals x (.slice ao x.lab.after.length cap)++rest/\BVals mem l rest
section
variable {mem mem':Addr->Option Value} {w w':World}
theorem BVals.mono:∀ {l:List Blk} {vs:List Value},BVals mem l vs->(∀ a u,mem a=some u->mem' a=some u)->BVals mem' l vs
 |[],_,h,_=>h
 |_::_,_,⟨ao,cap,rest,h1,h2,h3⟩,hm=>⟨ao,cap,rest,h1.mono hm,h2,h3.mono hm⟩
theorem BVals.snoc {x:Blk} {ao:Option Addr} {cap:Nat} (hx:IntsM mem (.slice ao x.lab.after.length cap) x.lab.after):∀ {l:List Blk} {vs:List Value},BVals mem l vs->BVals mem (l++[x]) (vs++blkVals x (.slice ao x.lab.after.length cap))
 |[],_,h=>by
  have h:_=[]:=h
  subst h
  exact⟨ao,cap,[],hx,rfl,rfl⟩
 |y::l,_,⟨ao2,cap2,rest,h1,h2,h3⟩=>by
  subst h2
  exact⟨ao2,cap2,_,h1,by rw[List.append_assoc],BVals.snoc hx h3⟩
theorem BVals.get:∀ {l:List Blk} {vs:List Value},BVals mem l vs->∀ j (h:j<l.length),∃ ao cap,IntsM mem (.slice ao l[j].lab.after.length cap) l[j].lab.after/\∀ t,t<9->vs[j * 9+t]?=(blkVals l[j] (.slice ao l[j].lab.after.length cap))[t]?
 |[],_,_,j,h=>absurd h (by simp)
 |x::l,_,⟨ao,cap,rest,h1,h2,h3⟩,j,h=>by
  subst h2
  cases j with
  |zero=>
   refine⟨ao,cap,h1,fun t ht=>?_⟩
   rw[List.getElem?_append_left (by simp;omega)]
   simp
  |succ j=>
   obtain⟨ao2,cap2,g1,g2⟩:=h3.get j (by simpa using h)
   refine⟨ao2,cap2,g1,fun t ht=>?_⟩
   rw[List.getElem?_append_right (by simp;omega)]
   have e:(j+1) * 9+t - (blkVals x (.slice ao x.lab.after.length cap)).length=j * 9+t:=by simp;omega
   rw[e]
   exact g2 t ht
end
open Classical in
noncomputable def memFr (W:World) (F:Nat->Prop) (a:Addr):Option Value:=if F a.block\/W.frozen? a=true then none else W.cell? a
theorem memFr_sees (W:World) (F:Nat->Prop):Sees (memFr W F) W:=fun a u h=>by
 unfold memFr at h
 split at h
 ·cases h
 ·exact h
theorem memFr_lt {W:World} {F:Nat->Prop} (a:Addr) (u:Value) (h:memFr W F a=some u):a.block<W.heap.size/\¬ F a.block/\W.frozen? a=false:=by
 unfold memFr at h
 split at h
 ·cases h
 ·next hne=>exact⟨World.block_lt_of_cell? W a h,fun g=>hne (.inl g),by simpa using fun g=>hne (.inr g)⟩
theorem memFr_of {W:World} {F:Nat->Prop} {a:Addr} {u:Value} (h:W.cell? a=some u) (hf:W.frozen? a=false) (hne:¬ F a.block):memFr W F a=some u:=by
 unfold memFr;rw[if_neg (by rw[hf];simpa using hne)];exact h
theorem memFr_mono {W W':World} {F G H:Nat->Prop} (hu:Upd H W W') (h:∀ k,k<W.heap.size->¬ F k->¬ G k/\¬ H k):∀ a u,memFr W F a=some u->memFr W' G a=some u:=fun a u e=>by
 obtain⟨h1,h2,h5⟩:=memFr_lt a u e
 obtain⟨h3,h4⟩:=h _ h1 h2
 exact memFr_of (hu.cell_some (memFr_sees W F a u e) h4) ((hu.frozen h1 h4).trans h5) h3
theorem IRow.intsFr {w:World} {B:Nat} {v:Value} {l:List Int} (h:IRow w B v l) {F:Nat->Prop} (hF:∀ k,v.ownBlock=some k->¬ F k):IntsM (memFr w F) v l:=by
 obtain⟨b,o,h1,h2⟩:=h.ints
 refine⟨b,o,h1,fun j hj=>?_⟩
 obtain⟨g,cap,e,_,_,_,hc⟩:=h.cells j hj
 rcases h.2 with ⟨e3,hz⟩ | ⟨g',cap',cur,e2,_,hh,_⟩
 ·omega
 obtain⟨_,ao,cap2,e4,_,_,e5⟩:=h1
 have e6:=e5 (by omega)
 subst e6
 rw[e2]at e4
 injection e4 with e4
 injection e4 with e4
 injection e4 with e4 e7
 subst e4
 exact memFr_of (h2 j hj) (blk_free hh _) (hF _ (by rw[e2];rfl))
def BRow (w:World) (B:Nat) (v:Value) (l:List Blk):Prop:=∃ vs,w.ownsRow B 58 9 v l.length vs/\BVals (memFr w (fun k=>k<B\/v.ownBlock=some k)) l vs
theorem BRow.nil (w:World) (B:Nat):BRow w B (.slice none 0 0) []:=⟨[],World.ownsRow_nil _ _ _ _,rfl⟩
theorem BRow.sl {w:World} {B:Nat} {v:Value} {l:List Blk} (h:BRow w B v l):∃ ao n cap,v=.slice ao n cap:=by
 obtain⟨_,h,_⟩:=h
 rcases h.2 with ⟨rfl,_⟩ | ⟨g,cap,cur,rfl,_⟩
 ·exact⟨_,_,_,rfl⟩
 ·exact⟨_,_,_,rfl⟩
theorem BRow.ge {w:World} {B:Nat} {v:Value} {l:List Blk} (h:BRow w B v l):∀ k,v.ownBlock=some k->B<=k/\k<w.heap.size:=by
 obtain⟨_,h,_⟩:=h
 exact World.ownsRow.lt h
theorem BRow.kept {w w':World} {B:Nat} {v:Value} {l:List Blk} {F:Nat->Prop} (h:BRow w B v l) (hu:Upd F w w') (hn:∀ k,F k->k<B\/w.heap.size<=k):BRow w' B v l:=by
 obtain⟨vs,h1,h2⟩:=h
 refine⟨vs,⟨h1.1,?_⟩,h2.mono (memFr_mono hu (fun k hk hf=>⟨hf,fun g=>by have:=hn k g;exact hf (.inl (by omega))⟩))⟩
 have hlt:=World.ownsRow.lt h1
 rcases h1.2 with hq | ⟨g,cap,cur,rfl,hb,hgg,rest⟩
 ·exact .inl hq
 ·refine .inr ⟨g,cap,cur,rfl,hb,(hu.block g (Array.getElem?_eq_some_iff.1 hgg).1 (fun g'=>?_)).trans hgg,rest⟩
  have h3:=hn g g'
  have h4:=(hlt g rfl).2
  omega
theorem BRow.blks {w:World} {B:Nat} {v:Value} {l:List Blk} (h:BRow w B v l) (hp:∀ x∈l,x.text.size<=maxLen/\okI x.kind/\okI x.id):BlksM (memFr w (fun k=>k<B)) v l:=by
 obtain⟨vs,h1,h2⟩:=h
 have hg:=h2.get
 rcases h1.2 with ⟨rfl,hz⟩ | ⟨g,cap,cur,rfl,hb,hgg,hn,hc,hs,ht⟩
 ·have:l=[]:=List.eq_nil_of_length_eq_zero hz
  subst this
  exact BlksM.nil _
 ·refine⟨g,0,⟨Nat.le_trans hn hc,some ⟨g,0,none⟩,cap,rfl,hn,hc,fun _=>rfl⟩,fun j hj=>?_⟩
  obtain⟨ao,cp,hi,hv⟩:=hg j hj
  have hcell:∀ t,t<9->memFr w (fun k=>k<B) ⟨g,0+j * 9+t,none⟩=(blkVals l[j] (.slice ao l[j].lab.after.length cp))[t]?:=fun t ht9=>by
   rw[show memFr w (fun k=>k<B) ⟨g,0+j * 9+t,none⟩=w.cell? ⟨g,0+j * 9+t,none⟩ by unfold memFr;rw[if_neg (by rw[blk_free hgg];show ¬ (g<B\/false=true);simp;omega)],blk_cell hgg]
   have h5:(cur.toList.take (l.length * 9))[j * 9+t]?=vs[j * 9+t]?:=by rw[ht]
   rw[List.getElem?_take_of_lt (by omega)]at h5
   rw[show 0+j * 9+t=j * 9+t by omega,<-Array.getElem?_toList,h5]
   exact hv t ht9
  have hi2:IntsM (memFr w (fun k=>k<B)) (.slice ao l[j].lab.after.length cp) l[j].lab.after:=hi.mono (memFr_mono (Upd.refl (fun _=>False) w) (fun k _ hf=>⟨fun g=>hf (.inl g),fun g=>g⟩))
  exact⟨⟨hcell 0 (by omega),hcell 1 (by omega),hcell 2 (by omega),hcell 3 (by omega),hcell 4 (by omega)⟩,⟨hcell 5 (by omega),hcell 7 (by omega),hcell 8 (by omega)⟩,hp _ (List.getElem_mem hj),_,hcell 6 (by omega),hi2⟩
theorem blk_info:(Tryz.prog.info? 58).map (fun i=>(i.zero,i.size,i.bytes))=some (some (.agg #[.int .i64 0,.int .i64 0,.string .empty,.int .i64 0,.int .i64 0,.int .i64 0,.slice none 0 0,.int .i64 0,.int .i64 0]),9,96):=by kernel_rfl
section
variable {ops:Array Oper} {rest:List Oper} {o:Oper} {a:Act} {w:World} {Q:Exit->Act->World->Prop} {mem:Addr->Option Value}
theorem reads_ints {ao:Option Addr} {cap:Nat} {l:List Int} (h:IntsM mem (.slice ao l.length cap) l) (hs:Sees mem w):Reads w w.heap.size 1 ao l.length (l.map encI):=by
 obtain⟨ao',cap',b,o,e,_,_,h1,h2⟩:=h.open_ hs
 injection e with e1 e2 e3
 subst e1
 refine⟨by simp,fun hn=>?_⟩
 refine⟨_,h1 hn,?_,fun j u hu=>?_⟩
 ·have:=World.block_lt_of_cell? w _ (h2 0 hn);simpa using this
 ·rw[List.getElem?_map]at hu
  obtain⟨y,hy,rfl⟩:=Option.map_eq_some_iff.1 hu
  obtain⟨hj,rfl⟩:=List.getElem?_eq_some_iff.1 hy
  have:=h2 j hj
  unfold Addr.add
  by_cases h0:j=0
  ·subst h0;first|(simp[encI];done) | simpa [encI] using this
  ·simp[h0,encI,this]
theorem wpList_app_after (hgd:o.guard=none) (s x:Operand) (ho:o.op=.call { callee:=.builtin .append,args:=#[s,x],argTypes:=#[46,46] })
 (hs:a.eval s=.slice none 0 0) (ao:Option Addr) (cap:Nat) (l:List Int) (hx:a.eval x=.slice ao l.length cap) (hi:IntsM mem (.slice ao l.length cap) l) (hsee:Sees mem w) (hlen:l.length<=100000)
 (h:∀ v' w',IRow w' w.heap.size v' l->w.grownBy w' none->wpList Tryz.prog ops Q rest (a.put o.dst v') w'):wpList Tryz.prog ops Q (o::rest) a w:=by
 obtain⟨i0,hi0,hz0,hz1,hz2⟩:=info_parts int_info
 refine wpList_append_any w hgd s x 46 ho w.heap.size 3 i0 (.int .i64 0) 1 8 Tryz.underlying46 hi0 hz0 hz1 hz2 rfl (by decide) _ 0 [] hs (World.ownsRow_nil _ _ _ _) w.heap.size ao l.length cap (l.map encI) hx (reads_ints hi hsee) (one_cell l) (by unfold maxLen;omega) (by omega) (Nat.le_refl _) ?_
 intro v' w' h1 h2 _
 refine h v' w' ?_ h2
 unfold IRow
 simpa using h1
theorem run_app_blk {B:Nat} {v:Value} {l:List Blk} (h:BRow w B v l) (x:Blk) (ao:Option Addr) (cap:Nat) (hi:IntsM (memFr w (fun k=>k<B\/v.ownBlock=some k)) (.slice ao x.lab.after.length cap) x.lab.after)
 (g c:Nat) (hc:w.heap[g]?=some (.cells (blkCells x (.slice ao x.lab.after.length cap)) 58 (0,0))) (hlen:l.length<=100000) (hB:B<=w.heap.size) (ty:Nat):
 ∃ v' w',(Builtin.append_ #[37,37] ty #[v,.slice (some ⟨g,0,none⟩) 1 c]).run Tryz.prog w=.ok v' w'/\BRow w' B v' (l++[x])/\w.grownBy w' v.ownBlock:=by
 obtain⟨i0,hi0,hz0,hz1,hz2⟩:=info_parts blk_info
 obtain⟨vs,h1,h2⟩:=h
 obtain⟨v',w',hr,g2,g3,_,g5⟩:=run_append_own_at (P:=Tryz.prog) w B 37 ty 58 i0 _ 9 96 Tryz.underlying37 hi0 hz0 hz1 hz2 rfl (by decide) v l.length vs h1 ⟨g,0,none⟩ 1 c (blkVals x (.slice ao x.lab.after.length cap)) rfl
  (fun j u hj=>by
    have e:(⟨g,0,none⟩:Addr).add j=⟨g,j,none⟩:=by unfold Addr.add;by_cases h0:j=0 <;> simp[h0]
    rw[e,blk_cell hc]
    rw[<-hj];simp)
  (by simp[Value.oneCell']) (by unfold maxLen;omega) (by omega) hB
 have hm:∀ a u,memFr w (fun k=>k<B\/v.ownBlock=some k) a=some u->memFr w' (fun k=>k<B\/v'.ownBlock=some k) a=some u:=
  memFr_mono ((Upd.refl (fun k=>v.ownBlock=some k) w).grown g3 (fun k e=>.inl e)) (fun k hk hf=>⟨fun g=>by
   rcases g with g | g
   ·exact hf (.inl g)
   ·rcases g5 with g5 | g5
    ·exact hf (.inr (g5 ▸ g))
    ·rw[g5]at g;injection g with g;omega,fun g=>hf (.inr g)⟩)
 exact⟨v',w',hr,⟨_,by rw[List.length_append];exact g2,BVals.snoc (hi.mono hm) (h2.mono hm)⟩,g3⟩
theorem wpList_app_blk (hgd:o.guard=none) (s x:Operand) (ho:o.op=.call { callee:=.builtin .append,args:=#[s,x],argTypes:=#[37,37] })
 (B:Nat) (v:Value) (l:List Blk) (hs:a.eval s=v) (hown:BRow w B v l) (y:Blk) (ao:Option Addr) (cap:Nat) (hi:IntsM (memFr w (fun k=>k<B\/v.ownBlock=some k)) (.slice ao y.lab.after.length cap) y.lab.after)
 (g c:Nat) (hx:a.eval x=.slice (some ⟨g,0,none⟩) 1 c) (hc:w.heap[g]?=some (.cells (blkCells y (.slice ao y.lab.after.length cap)) 58 (0,0))) (hlen:l.length<=100000) (hB:B<=w.heap.size)
 (h:∀ v' w',BRow w' B v' (l++[y])->w.grownBy w' v.ownBlock->wpList Tryz.prog ops Q rest (a.put o.dst v') w'):wpList Tryz.prog ops Q (o::rest) a w:=by
 refine wpList_plain hgd fun K hK=>?_
 obtain⟨v',w',hr,h2,h3⟩:=run_app_blk hown y ao cap hi g c hc hlen hB o.type
 unfold Oper.wp execOp
 simp only[ho,resolve,invoke,builtin,Sem.run_bind,Sem.run_pure,Result.andThen_ok,List.map_toArray,List.map_cons,List.map_nil,hs,hx,hr]
 exact hK _ _ (h v' w' h2 h3)
end
end Go.Proofs.YtdkkhmjlamkgdaaGreatDoor
namespace Go.Proofs.YtdkkhmjlamkgdaaGreatDoor
abbrev mT:Option Bool:=some true
abbrev mF:Option Bool:=some false
abbrev mL:Option Bool:=none
def anyT (P:Program) (md:Region.Mode) (ops:Array Oper) (Q:Exit->Act->World->Prop) (S:World->Prop) (fin:Nat):Nat->Array Bool->Act->World->Prop
 |0,listed,a,w=>Region.ready md ops listed=[]/\Q .normal a w
 |fuel+1,listed,a,w=>(Region.ready md ops listed=[]->Q .normal a w) ∧
  ∀ i∈Region.ready md ops listed,wpOp P ops Q i (fun a' w'=>(i≠fin->S w')/\anyT P md ops Q S fin fuel (listed.setIfInBounds i true) a' w') a w
def mixB (md:Region.Mode) (ops:Array Oper) (fin:Nat):List (Option Bool)->Nat->Array Bool->Bool
 |[],_,listed=>(Region.ready md ops listed).isEmpty
 |some true::fl,k,listed=>(Region.ready md ops listed).contains k && Region.free md ops listed k && (decide (ops.size<=fin) || Region.waitsFor md ops fin k) && mixB md ops fin fl (k+1) (listed.setIfInBounds k true)
 |some false::fl,k,listed=>decide (Region.ready md ops listed=[k]) && mixB md ops fin fl (k+1) (listed.setIfInBounds k true)
 |none::fl,k,listed=>decide (k=fin) && decide (Region.ready md ops listed=[k]) && mixB md ops fin fl (k+1) (listed.setIfInBounds k true)
def wpMix (P:Program) (ops:Array Oper) (Q:Exit->Act->World->Prop) (S:World->Prop):List (Option Bool)->List Oper->Act->World->Prop
 |some true::fl,o::rest,a,w=>(∀ v c a w,Q (.panic c) (Act.put a o.dst v) w->Q (.panic c) a w)/\S w/\∃ v,YieldsIf P ops S o v a/\wpMix P ops Q S fl rest (a.put o.dst v) w
 |some false::fl,o::rest,a,w=>if Region.wanted o (yielded ops a.tmps) then o.wp P a w (fun a' w'=>S w'/\wpMix P ops Q S fl rest a' w') Q else S w/\wpMix P ops Q S fl rest (a.put o.dst undef) w
 |none::fl,o::rest,a,w=>if Region.wanted o (yielded ops a.tmps) then o.wp P a w (fun a' w'=>wpMix P ops Q S fl rest a' w') Q else wpMix P ops Q S fl rest (a.put o.dst undef) w
 |_,_,a,w=>Q .normal a w
section
variable {P:Program} {ops:Array Oper} {Q:Exit->Act->World->Prop} {md:Region.Mode} {S:World->Prop} {fin:Nat}
theorem wpMix_nil {a:Act} {w:World} (h:Q .normal a w):wpMix P ops Q S [] [] a w:=h
theorem wpMix_step {a:Act} {w:World} {o:Oper} {rest:List Oper} {fl:List (Option Bool)}
 (h:∀ K:Act->World->Prop,(∀ a w,S w->wpMix P ops Q S fl rest a w->K a w)->if Region.wanted o (yielded ops a.tmps) then o.wp P a w K Q else K (a.put o.dst undef) w):wpMix P ops Q S (mF::fl) (o::rest) a w:=by
 have:=h (fun a' w'=>S w'/\wpMix P ops Q S fl rest a' w') (fun _ _ h1 h2=>⟨h1,h2⟩)
 unfold wpMix
 split
 ·rename_i hw;rw[if_pos hw]at this;exact this
 ·rename_i hw;rw[if_neg hw]at this;exact this
theorem wpMix_last {a:Act} {w:World} {o:Oper} {rest:List Oper} {fl:List (Option Bool)}
 (h:∀ K:Act->World->Prop,(∀ a w,wpMix P ops Q S fl rest a w->K a w)->if Region.wanted o (yielded ops a.tmps) then o.wp P a w K Q else K (a.put o.dst undef) w):wpMix P ops Q S (mL::fl) (o::rest) a w:=by
 have:=h (fun a' w'=>wpMix P ops Q S fl rest a' w') (fun _ _ h2=>h2)
 unfold wpMix
 split
 ·rename_i hw;rw[if_pos hw]at this;exact this
 ·rename_i hw;rw[if_neg hw]at this;exact this
theorem wpMix_take {a:Act} {w:World} {o:Oper} {rest:List Oper} {fl:List (Option Bool)} (v:Value) (hQ:∀ v c a w,Q (.panic c) (Act.put a o.dst v) w->Q (.panic c) a w) (hS:S w)
 (hw:Region.wanted o (yielded ops a.tmps)=true) (hy:∀ w,S w->(execOp a.eval o).run P w=.ok (.value v) w) (h:wpMix P ops Q S fl rest (a.put o.dst v) w):wpMix P ops Q S (mT::fl) (o::rest) a w:=
 ⟨hQ,hS,v,.inl ⟨hw,hy⟩,h⟩
theorem anyT_any:∀ (fuel:Nat) (listed:Array Bool) (a:Act) (w:World),anyT P md ops Q S fin fuel listed a w->wpAny P md ops Q fuel listed a w
 |0,_,_,_,h=>h
 |fuel+1,_,_,_,h=>⟨h.1,fun i hi=>wpOp_mono (fun a' w' h'=>anyT_any fuel _ a' w' h'.2) (h.2 i hi)⟩
theorem not_waited {i j:Nat} {oj:Oper} {listed:Array Bool} (hi:i∈Region.ready md ops listed) (hj:j∈Region.ready md ops listed) (ho:ops[j]?=some oj):∀ e∈oj.after,Region.binds md e=true->e.on≠i:=fun e he hb heq=>by
 obtain⟨_,o2,h2,hall⟩:=mem_ready.1 hj
 rw[ho]at h2
 injection h2 with h2
 subst h2
 have h1:=hall e he hb
 have h0:=(mem_ready.1 hi).1
 rw[heq]at h1
 by_cases hs:i<listed.size
 ·simp[hs]at h0 h1
  rw[h0]at h1
  cases h1
 ·simp[Array.getElem?_eq_none (Nat.le_of_not_lt hs)]at h1
theorem anyT_take {i:Nat} {oi:Oper} {v:Value} (ho:ops[i]?=some oi) (hsel:∀ (j:Nat) (o:Oper) cs b,ops[j]?=some o->o.op≠.select cs b)
 (hQ:∀ c a w,Q (.panic c) (a.put oi.dst v) w->Q (.panic c) a w) (hfin:ops.size<=fin\/Region.waitsFor md ops fin i=true):
 ∀ (fuel:Nat) (listed:Array Bool) (a:Act) (w:World),
  (∀ j oj,ops[j]?=some oj->j≠i->listed.getD j true=false->(∀ e∈oj.after,Region.binds md e=true->e.on≠i)->oi.apart ops oj=true) →
  i∈Region.ready md ops listed->YieldsIf P ops S oi v a->S w->anyT P md ops Q S fin fuel (listed.setIfInBounds i true) (a.put oi.dst v) w->anyT P md ops Q S fin (fuel+1) listed a w:=by
 intro fuel
 induction fuel with
 |zero=>
  intro listed a w _ hr hy hS H
  refine⟨(fun h=>by rw[h]at hr;cases hr),fun j hj=>?_⟩
  rcases Nat.decEq j i with hji | hji
  ·exact absurd (ready_mono hj hji) (by rw[H.1];simp)
  ·subst hji
   exact hy.wpOp ho hS ⟨fun _=>hS,H⟩
 |succ fuel ih=>
  intro listed a w hfree hr hy hS H
  refine⟨(fun h=>by rw[h]at hr;cases hr),fun j hj=>?_⟩
  rcases Nat.decEq j i with hji | hji
  ·obtain⟨hjl,oj,hoj,_⟩:=mem_ready.1 hj
   have hnot:=not_waited hr hj hoj
   have hjf:j≠fin:=fun e=>by
    subst e
    rcases hfin with h | h
    ·have:=(Array.getElem?_eq_some_iff.1 hoj).1;omega
    ·obtain⟨o2,h2,e,he,hb,h3⟩:=Region.waitsFor_spec h
     rw[hoj]at h2
     injection h2 with h2
     subst h2
     exact hnot e he hb h3
   have h2:=wpOp_putIf hoj (hfree j oj hoj hji hjl hnot) (fun cs b=>hsel i oi cs b ho) (fun cs b=>hsel j oj cs b hoj) hQ hy (H.2 j (ready_mono hj hji))
   refine wpOp_mono (fun a' w' h3=>?_) h2
   have hS':=h3.2.1 hjf
   refine⟨fun _=>hS',ih (listed.setIfInBounds j true) a' w' (fun k ok hk hki hun hno=>hfree k ok hk hki ?_ hno) (ready_mono hr (Ne.symm hji)) h3.1 hS' ?_⟩
   ·rcases Nat.decEq j k with hjk | hjk
    ·rwa [getD_set_ne true hjk]at hun
    ·rw[<-hjk];exact hjl
   ·rw[Array.setIfInBounds_comm _ _ hji]
    exact h3.2.2
  ·subst hji
   exact hy.wpOp ho hS ⟨fun _=>hS,H⟩
theorem anyT_of_mix (hsel:Region.noSelect ops=true):∀ (fl:List (Option Bool)) (l:List Oper) (k:Nat) (listed:Array Bool) (a:Act) (w:World),fl.length=l.length->(∀ j,l[j]?=ops[k+j]?) →
 mixB md ops fin fl k listed=true->wpMix P ops Q S fl l a w->anyT P md ops Q S fin l.length listed a w
 |[],[],_,_,_,_,_,_,hB,h=>⟨by simpa [mixB] using hB,h⟩
 |[],_::_,_,_,_,_,hn,_,_,_=>by cases hn
 |_::_,[],_,_,_,_,hn,_,_,_=>by cases hn
 |some true::fl,o::l,k,listed,a,w,hn,hl,hB,h=>by
  have h0:ops[k]?=some o:=by simpa using (hl 0).symm
  simp only[mixB,Bool.and_eq_true,Bool.or_eq_true,decide_eq_true_eq]at hB
  obtain⟨⟨⟨hr,hf⟩,hw⟩,hB'⟩:=hB
  obtain⟨hQ,hS,v,hy,h'⟩:=h
  exact anyT_take h0 (Region.noSelect_spec hsel) (fun c a w=>hQ v c a w) hw l.length listed a w (Region.free_spec h0 hf) (by simpa using hr) hy hS
   (anyT_of_mix hsel fl l (k+1) _ _ _ (by simpa using hn) (fun j=>by have:=hl (j+1);simpa [Nat.add_assoc,Nat.add_comm 1 j] using this) hB' h')
 |some false::fl,o::l,k,listed,a,w,hn,hl,hB,h=>by
  have h0:ops[k]?=some o:=by simpa using (hl 0).symm
  simp only[mixB,Bool.and_eq_true,decide_eq_true_eq]at hB
  refine⟨fun h1=>(by rw[hB.1]at h1;cases h1),fun i hi=>?_⟩
  rw[hB.1]at hi
  have hik:i=k:=by simpa using hi
  subst hik
  have hw:wpOp P ops Q i (fun a' w'=>S w'/\wpMix P ops Q S fl l a' w') a w:=by
   unfold wpOp
   simp only[h0]
   unfold wpMix at h
   split
   ·rename_i hw;rw[if_pos hw]at h;exact .inl h
   ·rename_i hw;rw[if_neg hw]at h;exact h
  exact wpOp_mono (fun a' w' h'=>⟨fun _=>h'.1,anyT_of_mix hsel fl l (i+1) _ a' w' (by simpa using hn) (fun j=>by have:=hl (j+1);simpa [Nat.add_assoc,Nat.add_comm 1 j] using this) hB.2 h'.2⟩) hw
 |none::fl,o::l,k,listed,a,w,hn,hl,hB,h=>by
  have h0:ops[k]?=some o:=by simpa using (hl 0).symm
  simp only[mixB,Bool.and_eq_true,decide_eq_true_eq]at hB
  obtain⟨⟨hkf,hB1⟩,hB2⟩:=hB
  refine⟨fun h1=>(by rw[hB1]at h1;cases h1),fun i hi=>?_⟩
  rw[hB1]at hi
  have hik:i=k:=by simpa using hi
  subst hik
  have hw:wpOp P ops Q i (fun a' w'=>wpMix P ops Q S fl l a' w') a w:=by
   unfold wpOp
   simp only[h0]
   unfold wpMix at h
   split
   ·rename_i hw;rw[if_pos hw]at h;exact .inl h
   ·rename_i hw;rw[if_neg hw]at h;exact h
  exact wpOp_mono (fun a' w' h'=>⟨fun hne=>absurd hkf hne,anyT_of_mix hsel fl l (i+1) _ a' w' (by simpa using hn) (fun j=>by have:=hl (j+1);simpa [Nat.add_assoc,Nat.add_comm 1 j] using this) hB2 h'⟩) hw
def mixOK (l:List Oper) (fin:Nat) (fl:List (Option Bool)):Bool:=Region.noSelect l.toArray && decide (fl.length=l.length) && mixB .any l.toArray fin fl 0 (Array.replicate l.length false)
theorem mix_any {a:Act} {w:World} {l:List Oper} (fl:List (Option Bool)) (fin:Nat) (S:World->Prop) (hB:mixOK l fin fl=true) (h:wpMix P l.toArray Q S fl l a w):
 wpAny P .any l.toArray Q l.toArray.size (Array.replicate l.toArray.size false) a w:=by
 unfold mixOK at hB
 simp only[Bool.and_eq_true,decide_eq_true_eq]at hB
 obtain⟨⟨hsel,hn⟩,hmix⟩:=hB
 have:=anyT_of_mix (md:=.any) (Q:=Q) (S:=S) hsel fl l 0 (Array.replicate l.length false) a w hn (fun j=>by simp) hmix h
 exact anyT_any _ _ _ _ (by simpa using this)
theorem wp_mix {id:Nat} {a:Act} {w:World} {l:List Oper} (fl:List (Option Bool)) (fin:Nat) (S:World->Prop) (hm:P.follows .mixedOrders=true) (hB:mixOK l fin fl=true) (_hS:S w.drew)
 (h:wpMix P l.toArray Q S fl l a w.drew):(Code.region id l.toArray true).wp P Q a w:=
 wp_region_any hm (mix_any fl fin S hB h)
end
inductive Sched
 |done
 |take (i:Nat) (s:Sched)
 |only (i:Nat) (s:Sched)
 |last (i:Nat) (s:Sched)
 |either (i j:Nat) (s t:Sched)
def schB (md:Region.Mode) (ops:Array Oper) (fin:Nat):Sched->Array Bool->Bool
 |.done,listed=>(Region.ready md ops listed).isEmpty
 |.take i s,listed=>(Region.ready md ops listed).contains i && Region.free md ops listed i && (decide (ops.size<=fin) || Region.waitsFor md ops fin i) && schB md ops fin s (listed.setIfInBounds i true)
 |.only i s,listed=>decide (Region.ready md ops listed=[i]) && schB md ops fin s (listed.setIfInBounds i true)
 |.last i s,listed=>decide (i=fin) && decide (Region.ready md ops listed=[i]) && schB md ops fin s (listed.setIfInBounds i true)
 |.either i j s t,listed=>decide (Region.ready md ops listed=[i,j]) && schB md ops fin s (listed.setIfInBounds i true) && schB md ops fin t (listed.setIfInBounds j true)
def Sched.even:Sched->Nat->Bool
 |.done,n=>n == 0
 |.take _ s,n+1=>s.even n
 |.only _ s,n+1=>s.even n
 |.last _ s,n+1=>s.even n
 |.either _ _ s t,n+1=>s.even n && t.even n
 |_,0=>false
def oneSch (P:Program) (ops:Array Oper) (Q:Exit->Act->World->Prop) (S:World->Prop) (o:Oper) (X:Act->World->Prop) (a:Act) (w:World):Prop:=
 if Region.wanted o (yielded ops a.tmps) then o.wp P a w (fun a' w'=>S w'/\X a' w') Q else S w/\X (a.put o.dst undef) w
def lastSch (P:Program) (ops:Array Oper) (Q:Exit->Act->World->Prop) (o:Oper) (X:Act->World->Prop) (a:Act) (w:World):Prop:=
 if Region.wanted o (yielded ops a.tmps) then o.wp P a w X Q else X (a.put o.dst undef) w
def wpSch (P:Program) (l:List Oper) (Q:Exit->Act->World->Prop) (S:World->Prop):Sched->Act->World->Prop
 |.done,a,w=>Q .normal a w
 |.take i s,a,w=>∃ o,l[i]?=some o/\(∀ v c a w,Q (.panic c) (Act.put a o.dst v) w->Q (.panic c) a w)/\S w/\∃ v,YieldsIf P l.toArray S o v a/\wpSch P l Q S s (a.put o.dst v) w
 |.only i s,a,w=>∃ o,l[i]?=some o/\oneSch P l.toArray Q S o (wpSch P l Q S s) a w
 |.last i s,a,w=>∃ o,l[i]?=some o/\lastSch P l.toArray Q o (wpSch P l Q S s) a w
 |.either i j s t,a,w=>(∃ o,l[i]?=some o/\oneSch P l.toArray Q S o (wpSch P l Q S s) a w)/\∃ o,l[j]?=some o/\oneSch P l.toArray Q S o (wpSch P l Q S t) a w
section
variable {P:Program} {l:List Oper} {Q:Exit->Act->World->Prop} {md:Region.Mode} {S:World->Prop} {a:Act} {w:World} {fin:Nat}
theorem one_step {o:Oper} {X:Act->World->Prop} (h:∀ K:Act->World->Prop,(∀ a w,S w->X a w->K a w)->if Region.wanted o (yielded l.toArray a.tmps) then o.wp P a w K Q else K (a.put o.dst undef) w):oneSch P l.toArray Q S o X a w:=by
 have:=h (fun a' w'=>S w'/\X a' w') (fun _ _ h1 h2=>⟨h1,h2⟩)
 unfold oneSch
 split
 ·rename_i hw;rw[if_pos hw]at this;exact this
 ·rename_i hw;rw[if_neg hw]at this;exact this
theorem wpSch_only {i:Nat} {s:Sched} {o:Oper} (ho:l[i]?=some o) (h:∀ K:Act->World->Prop,(∀ a w,S w->wpSch P l Q S s a w->K a w)->if Region.wanted o (yielded l.toArray a.tmps) then o.wp P a w K Q else K (a.put o.dst undef) w):wpSch P l Q S (.only i s) a w:=
 ⟨o,ho,one_step h⟩
theorem wpSch_last {i:Nat} {s:Sched} {o:Oper} (ho:l[i]?=some o) (h:∀ K:Act->World->Prop,(∀ a w,wpSch P l Q S s a w->K a w)->if Region.wanted o (yielded l.toArray a.tmps) then o.wp P a w K Q else K (a.put o.dst undef) w):wpSch P l Q S (.last i s) a w:=
 ⟨o,ho,h _ (fun _ _ h=>h)⟩
theorem wpSch_either {i j:Nat} {s t:Sched} {o o2:Oper} (ho:l[i]?=some o) (ho2:l[j]?=some o2)
 (h:∀ K:Act->World->Prop,(∀ a w,S w->wpSch P l Q S s a w->K a w)->if Region.wanted o (yielded l.toArray a.tmps) then o.wp P a w K Q else K (a.put o.dst undef) w)
 (h2:∀ K:Act->World->Prop,(∀ a w,S w->wpSch P l Q S t a w->K a w)->if Region.wanted o2 (yielded l.toArray a.tmps) then o2.wp P a w K Q else K (a.put o2.dst undef) w):wpSch P l Q S (.either i j s t) a w:=
 ⟨⟨o,ho,one_step h⟩,o2,ho2,one_step h2⟩
theorem wpSch_take {i:Nat} {s:Sched} {o:Oper} (ho:l[i]?=some o) (v:Value) (hQ:∀ v c a w,Q (.panic c) (Act.put a o.dst v) w->Q (.panic c) a w) (hS:S w)
 (hw:Region.wanted o (yielded l.toArray a.tmps)=true) (hy:∀ w,S w->(execOp a.eval o).run P w=.ok (.value v) w) (h:wpSch P l Q S s (a.put o.dst v) w):wpSch P l Q S (.take i s) a w:=
 ⟨o,ho,hQ,hS,v,.inl ⟨hw,hy⟩,h⟩
theorem wpSch_done (h:Q .normal a w):wpSch P l Q S .done a w:=h
theorem op_one {i:Nat} {o:Oper} {X Y:Act->World->Prop} (ho:l[i]?=some o) (h:oneSch P l.toArray Q S o X a w) (hXY:∀ a w,X a w->Y a w):wpOp P l.toArray Q i (fun a' w'=>(i≠fin->S w')/\Y a' w') a w:=by
 unfold wpOp
 have h0:l.toArray[i]?=some o:=by simpa using ho
 simp only[h0]
 unfold oneSch at h
 split
 ·rename_i hw
  rw[if_pos hw]at h
  exact .inl (Oper.wp_mono (fun a' w' h'=>⟨fun _=>h'.1,hXY _ _ h'.2⟩) h)
 ·rename_i hw
  rw[if_neg hw]at h
  exact⟨fun _=>h.1,hXY _ _ h.2⟩
theorem anyT_of_sch (hsel:Region.noSelect l.toArray=true):∀ (s:Sched) (n:Nat) (listed:Array Bool) (a:Act) (w:World),s.even n=true->schB md l.toArray fin s listed=true->wpSch P l Q S s a w->anyT P md l.toArray Q S fin n listed a w
 |.done,0,_,_,_,_,hB,h=>⟨by simpa [schB] using hB,h⟩
 |.done,n+1,_,_,_,hn,_,_=>by simp[Sched.even]at hn
 |.take _ _,0,_,_,_,hn,_,_=>by simp[Sched.even]at hn
 |.only _ _,0,_,_,_,hn,_,_=>by simp[Sched.even]at hn
 |.either _ _ _ _,0,_,_,_,hn,_,_=>by simp[Sched.even]at hn
 |.last _ _,0,_,_,_,hn,_,_=>by simp[Sched.even]at hn
 |.last i s,n+1,listed,a,w,hn,hB,h=>by
  obtain⟨o,ho,h'⟩:=h
  simp only[schB,Bool.and_eq_true,decide_eq_true_eq]at hB
  refine⟨fun h1=>(by rw[hB.1.2]at h1;cases h1),fun j hj=>?_⟩
  rw[hB.1.2]at hj
  obtain rfl:j=i:=by simpa using hj
  have h0:l.toArray[j]?=some o:=by simpa using ho
  have hgo:=fun a w h=>anyT_of_sch hsel s n (listed.setIfInBounds j true) a w (by simpa [Sched.even] using hn) hB.2 h
  unfold wpOp
  simp only[h0]
  unfold lastSch at h'
  split
  ·rename_i hw
   rw[if_pos hw]at h'
   exact .inl (Oper.wp_mono (fun a' w' h2=>⟨fun hne=>absurd hB.1.1 hne,hgo _ _ h2⟩) h')
  ·rename_i hw
   rw[if_neg hw]at h'
   exact⟨fun hne=>absurd hB.1.1 hne,hgo _ _ h'⟩
 |.take i s,n+1,listed,a,w,hn,hB,h=>by
  obtain⟨o,ho,hQ,hS,v,hy,h'⟩:=h
  have h0:l.toArray[i]?=some o:=by simpa using ho
  simp only[schB,Bool.and_eq_true,Bool.or_eq_true,decide_eq_true_eq]at hB
  exact anyT_take h0 (Region.noSelect_spec hsel) (fun c a w=>hQ v c a w) hB.1.2 n listed a w (Region.free_spec h0 hB.1.1.2) (by simpa using hB.1.1.1) hy hS
   (anyT_of_sch hsel s n _ _ _ (by simpa [Sched.even] using hn) hB.2 h')
 |.only i s,n+1,listed,a,w,hn,hB,h=>by
  obtain⟨o,ho,h'⟩:=h
  simp only[schB,Bool.and_eq_true,decide_eq_true_eq]at hB
  refine⟨fun h1=>(by rw[hB.1]at h1;cases h1),fun j hj=>?_⟩
  rw[hB.1]at hj
  obtain rfl:j=i:=by simpa using hj
  exact op_one ho h' (fun a w h=>anyT_of_sch hsel s n _ a w (by simpa [Sched.even] using hn) hB.2 h)
 |.either i j s t,n+1,listed,a,w,hn,hB,h=>by
  obtain⟨⟨o,ho,h1⟩,o2,ho2,h2⟩:=h
  simp only[schB,Bool.and_eq_true,decide_eq_true_eq]at hB
  simp only[Sched.even,Bool.and_eq_true]at hn
  refine⟨fun h1=>(by rw[hB.1.1]at h1;cases h1),fun k hk=>?_⟩
  rw[hB.1.1]at hk
  rcases (by simpa using hk:k=i\/k=j) with rfl | rfl
  ·exact op_one ho h1 (fun a w h=>anyT_of_sch hsel s n _ a w hn.1 hB.1.2 h)
  ·exact op_one ho2 h2 (fun a w h=>anyT_of_sch hsel t n _ a w hn.2 hB.2 h)
def schOK (l:List Oper) (fin:Nat) (s:Sched):Bool:=Region.noSelect l.toArray && s.even l.length && schB .any l.toArray fin s (Array.replicate l.length false)
theorem sch_any (s:Sched) (fin:Nat) (S:World->Prop) (hB:schOK l fin s=true) (h:wpSch P l Q S s a w):wpAny P .any l.toArray Q l.toArray.size (Array.replicate l.toArray.size false) a w:=by
 unfold schOK at hB
 simp only[Bool.and_eq_true]at hB
 have:=anyT_of_sch (md:=.any) (Q:=Q) (S:=S) (fin:=fin) hB.1.1 s l.length (Array.replicate l.length false) a w hB.1.2 hB.2 h
 exact anyT_any _ _ _ _ (by simpa using this)
theorem wp_sch {id:Nat} (s:Sched) (fin:Nat) (S:World->Prop) (hm:P.follows .mixedOrders=true) (hB:schOK l fin s=true) (_hS:S w.drew) (h:wpSch P l Q S s a w.drew):(Code.region id l.toArray true).wp P Q a w:=
 wp_region_any hm (sch_any s fin S hB h)
end
end Go.Proofs.YtdkkhmjlamkgdaaGreatDoor
namespace Go.Proofs.YtdkkhmjlamkgdaaGreatDoor
open Go.RowKit Mg Go.Shelf
theorem fct_size:(Tryz.prog.info? 50).map (·.size)=some 23:=by kernel_rfl
theorem fct_under:∃ fs,Tryz.prog.underlying 50=some (.struct fs):=⟨_,Tryz.underlying50⟩
section
variable {ops:Array Oper} {rest:List Oper} {o:Oper} {a:Act} {w:World} {Q:Exit->Act->World->Prop}
theorem at_fstore (x y:Operand) (_:o.op=.store 50 x y) (h:wpList Tryz.prog ops Q (o::rest) a w):wpList Tryz.prog ops Q (o::rest) a w:=h
theorem at_fload (x:Operand) (_:o.op=.load 50 x) (h:wpList Tryz.prog ops Q (o::rest) a w):wpList Tryz.prog ops Q (o::rest) a w:=h
theorem wpList_fct_new (hgd:o.guard=none) (x y:Operand) (ho:o.op=.store 50 x y) (hd:o.dst=none) (w0:World) (old cells:Array Value) (hx:a.eval x=.pointer (some ⟨w0.heap.size,0,none⟩)) (hy:a.eval y=.agg cells)
 (hold:old.size=23) (hc:cells.size=23) (h1:cells.all (·.oneCell')=true)
 (h:wpList Tryz.prog ops Q rest a (w0.alloc (.cells cells 50))):wpList Tryz.prog ops Q (o::rest) a (w0.alloc (.cells old 50)):=
 wpList_store_rowTo hgd 50 x y ho hd w0.heap.size cells hx hy 50 old (heap_alloc_last w0 _) (by rw[fct_size,hc]) (by omega) h1 (by rw[World.setRow_alloc_new];exact h)
theorem wpList_fct_load (hgd:o.guard=none) (x:Operand) (ho:o.op=.load 50 x) (g:Nat) (hx:a.eval x=.pointer (some ⟨g,0,none⟩)) (cs:Array Value) (hg:w.heap[g]?=some (.cells cs 50 (0,0))) (hs:cs.size=23)
 (h:wpList Tryz.prog ops Q rest (a.put o.dst (.agg cs)) w):wpList Tryz.prog ops Q (o::rest) a w:=by
 obtain⟨fs,hu⟩:=fct_under
 exact wpList_load_row hgd 50 x ho g hx 50 cs (0,0) _ hg hu rfl (by rw[fct_size,hs]) h
end
theorem hlt {W:World} {g:Nat} {o:Obj} (h:W.heap[g]?=some o):g<W.heap.size:=(Array.getElem?_eq_some_iff.1 h).1
theorem qh {W:World} {g:Nat} {o:Obj} (h:W.heap[g]?=some o):g<W.heap.size:=hlt h
theorem sees_bel {W W':World} (hb:Below W.heap.size W W'):∀ a u,W.cell? a=some u->W'.cell? a=some u:=fun a _ h=>(hb.cell (World.block_lt_of_cell? W a h)).trans h
theorem heap_new1 (w:World) (A B:Obj):((w.alloc A).alloc B).heap[w.heap.size]?=some A:=(Below.heap_alloc _ _ _ (by simp)).trans (World.alloc_heap_new w _)
theorem exec_fct_load {o:Oper} {a:Act} {W:World} {g:Nat} (x:Operand) (ho:o.op=.load 50 x) (hx:a.eval x=.pointer (some ⟨g,0,none⟩)) {cs:Array Value} (hg:W.heap[g]?=some (.cells cs 50 (0,0))) (hs:cs.size=23):
 (execOp a.eval o).run Tryz.prog W=.ok (.value (.agg cs)) W:=by
 obtain⟨fs,hu⟩:=fct_under
 unfold execOp
 simp only[ho,hx,Instr.loadAt,Instr.sureAddr,Sem.run_bind,Sem.run_pure,Result.andThen_ok,run_loadVar_row (P:=Tryz.prog) W g 50 50 cs (0,0) _ hg hu rfl (by rw[fct_size,hs])]
abbrev zeroFct:Array Value:=#[.int .i64 0,.int .i64 0,.int .i64 0,.int .i64 0,.string .empty,.int .i64 0,.int .i64 0,.string .empty,.string .empty,.slice none 0 0,.slice none 0 0,.int .i64 0,.slice none 0 0,.int .i64 0,.int .i64 0,.int .i64 0,.int .i64 0,.int .i64 0,.string .empty,.string .empty,.int .i64 0,.int .i64 0,.int .i64 0]
theorem fct_one (f:Fct) {ta tl tc ba bl bc aa al ac}:(fctCells f (.slice ta tl tc) (.slice ba bl bc) (.slice aa al ac)).all (·.oneCell')=true:=by simp[Value.oneCell']
structure FctE where
 f:Fct
 ta:Option Addr
 tc:Nat
 ba:Option Addr
 bc:Nat
 aa:Option Addr
 ac:Nat
abbrev FctE.tv (e:FctE):Value:=.slice e.ta e.f.topics.length e.tc
abbrev FctE.bv (e:FctE):Value:=.slice e.ba e.f.blocks.length e.bc
abbrev FctE.av (e:FctE):Value:=.slice e.aa e.f.lab.after.length e.ac
def FctE.cells (e:FctE):Array Value:=fctCells e.f e.tv e.bv e.av
theorem FctE.cells_eq (e:FctE):e.cells=fctCells e.f e.tv e.bv e.av:=rfl
theorem FctE.size (e:FctE):e.cells.size=23:=rfl
theorem FctE.one (e:FctE):e.cells.all (·.oneCell')=true:=fct_one e.f
structure FctE.ok (mem:Addr->Option Value) (e:FctE):Prop where
 fok:FOK e.f
 parts:Parts mem e.f e.tv e.bv e.av
theorem FctE.ok.mono {mem mem':Addr->Option Value} {e:FctE} (h:e.ok mem) (hm:∀ a u,mem a=some u->mem' a=some u):e.ok mem':=⟨h.fok,h.parts.mono hm⟩
def FctE.at (e:FctE) (M:Addr->Option Value) (b o:Nat):Prop:=∀ j u,e.cells[j]?=some u->M ⟨b,o+j,none⟩=some u
def EsM (mem:Addr->Option Value) (v:Value) (es:List FctE):Prop:=∃ b o,SliceOf v es.length b o/\∀ j (h:j<es.length),es[j].ok mem/\es[j].at mem b (o+j * 23)
theorem EsM.open_ {mem:Addr->Option Value} {v:Value} {es:List FctE} (h:EsM mem v es):∃ ao cap b o,v=.slice ao es.length cap/\es.length<=maxLen/\(0<es.length->ao=some ⟨b,o,none⟩)/\∀ j (h:j<es.length),es[j].ok mem/\es[j].at mem b (o+j * 23):=by
 obtain⟨b,o,⟨_,ao,cap,h1,h2,h3,h4⟩,h5⟩:=h
 exact⟨ao,cap,b,o,h1,by omega,h4,h5⟩
section
variable {F:Fence} {n:Nat} {ops:Array Oper} {rest:List Oper} {o:Oper} {a:Act} {W:World} {Q:Exit->Act->World->Prop} {K:Act->World->Prop}
theorem exec_fct_mid {b i:Nat} {e:FctE} (x:Operand) (ho:o.op=.load 50 x) (hx:a.eval x=.pointer (some ⟨b,i,none⟩)) (hc:e.at (fun p=>W.cell? p) b i):(execOp a.eval o).run Tryz.prog W=.ok (.value (.agg e.cells)) W:=by
 obtain⟨fs,hu⟩:=fct_under
 have hl:=run_loadVar_mid (P:=Tryz.prog) W b i 50 e.cells.toList _ (fun j u hj=>hc j u (by simpa using hj)) hu rfl (by rw[fct_size];rfl)
 unfold execOp
 simp only[ho,hx,Instr.loadAt,Instr.sureAddr,Sem.run_bind,Sem.run_pure,Result.andThen_ok,hl,Array.toArray_toList]
end
def rowVals (es:List FctE):List Value:=es.flatMap fun e=>e.cells.toList
def FRow (w:World) (B:Nat) (v:Value) (es:List FctE):Prop:=w.ownsRow B 50 23 v es.length (rowVals es)
theorem FRow.nil (w:World) (B:Nat):FRow w B (.slice none 0 0) []:=World.ownsRow_nil _ _ _ _
theorem FRow.sl {w:World} {B:Nat} {v:Value} {es:List FctE} (h:FRow w B v es):∃ ao n cap,v=.slice ao n cap:=by
 rcases h.2 with ⟨rfl,_⟩ | ⟨g,cap,cur,rfl,_⟩
 ·exact⟨_,_,_,rfl⟩
 ·exact⟨_,_,_,rfl⟩
theorem FRow.ge {w:World} {B:Nat} {v:Value} {es:List FctE} (h:FRow w B v es):∀ k,v.ownBlock=some k->B<=k/\k<w.heap.size:=World.ownsRow.lt h
theorem FRow.kept {w w':World} {B:Nat} {v:Value} {es:List FctE} {F:Nat->Prop} (h:FRow w B v es) (hu:Upd F w w') (hn:∀ k,v.ownBlock=some k->¬ F k):FRow w' B v es:=by
 refine⟨h.1,?_⟩
 rcases h.2 with hq | ⟨g,cap,cur,rfl,hb,hgg,rest⟩
 ·exact .inl hq
 ·exact .inr ⟨g,cap,cur,rfl,hb,(hu.block g (Array.getElem?_eq_some_iff.1 hgg).1 (hn g rfl)).trans hgg,rest⟩
theorem FRow.same {w w':World} {B:Nat} {v:Value} {es:List FctE} (h:FRow w B v es) (he:∀ k,v.ownBlock=some k->w'.heap[k]?=w.heap[k]?):FRow w' B v es:=by
 refine⟨h.1,?_⟩
 rcases h.2 with hq | ⟨g,cap,cur,rfl,hb,hgg,rest⟩
 ·exact .inl hq
 ·exact .inr ⟨g,cap,cur,rfl,hb,(he g rfl).trans hgg,rest⟩
theorem FRow.blk {w:World} {B:Nat} {v:Value} {es:List FctE} (h:FRow w B v es):∀ k,v.ownBlock=some k->∃ cs,w.heap[k]?=some (.cells cs 50 (0,0)):=fun k hk=>by
 rcases h.2 with ⟨rfl,_⟩ | ⟨g,cap,cur,rfl,_,hgg,_⟩
 ·cases hk
 ·injection hk with hk
  subst hk
  exact⟨_,hgg⟩
theorem rowVals_get:∀ (es:List FctE) (j t:Nat) (hj:j<es.length),t<23->(rowVals es)[j * 23+t]?=es[j].cells[t]?
 |[],_,_,hj,_=>by simp at hj
 |e::es,0,t,_,ht=>by
  unfold rowVals
  rw[List.flatMap_cons,List.getElem?_append_left (by have:=e.size;rw[Array.length_toList];omega)]
  simp
 |e::es,j+1,t,hj,ht=>by
  unfold rowVals
  have hs:e.cells.toList.length=23:=by rw[Array.length_toList];exact e.size
  rw[List.flatMap_cons,List.getElem?_append_right (by omega),hs,show (j+1) * 23+t - 23=j * 23+t by omega]
  exact rowVals_get es j t (by simpa using hj) ht
theorem rowVals_snoc (es:List FctE) (x:FctE):rowVals (es++[x])=rowVals es++x.cells.toList:=by unfold rowVals;rw[List.flatMap_append];simp
theorem FRow.es {w:World} {B:Nat} {v:Value} {es:List FctE} (h:FRow w B v es) (hok:∀ e∈es,e.ok (fun a=>w.cell? a)):EsM (fun a=>w.cell? a) v es:=by
 rcases h.2 with ⟨rfl,hz⟩ | ⟨g,cap,cur,rfl,hb,hgg,hn,hc,hs,ht⟩
 ·have:es=[]:=List.eq_nil_of_length_eq_zero hz
  subst this
  exact⟨0,0,sliceNil,fun j hj=>absurd hj (by simp)⟩
 ·refine⟨g,0,⟨Nat.le_trans hn hc,some ⟨g,0,none⟩,cap,rfl,hn,hc,fun _=>rfl⟩,fun j hj=>⟨hok _ (List.getElem_mem hj),fun i u hi=>?_⟩⟩
  have hi23:i<23:=by
   have:=(Array.getElem?_eq_some_iff.1 hi).1
   rw[FctE.size]at this
   exact this
  dsimp only
  rw[blk_cell hgg]
  have h5:(cur.toList.take (es.length * 23))[j * 23+i]?=(rowVals es)[j * 23+i]?:=by rw[ht]
  rw[List.getElem?_take_of_lt (by omega),rowVals_get es j i hj hi23,hi]at h5
  rw[show 0+j * 23+i=j * 23+i by omega,<-Array.getElem?_toList]
  exact h5
theorem fct_info:(Tryz.prog.info? 50).map (fun i=>(i.zero,i.size,i.bytes))=some (some (.agg #[.int .i64 0,.int .i64 0,.int .i64 0,.int .i64 0,.string .empty,.int .i64 0,.int .i64 0,.string .empty,.string .empty,.slice none 0 0,.slice none 0 0,.int .i64 0,.slice none 0 0,.int .i64 0,.int .i64 0,.int .i64 0,.int .i64 0,.int .i64 0,.string .empty,.string .empty,.int .i64 0,.int .i64 0,.int .i64 0]),23,272):=by kernel_rfl
theorem run_app_fct {w:World} {B:Nat} {v:Value} {es:List FctE} (h:FRow w B v es) (x:FctE) (g c:Nat) (hc:w.heap[g]?=some (.cells x.cells 50 (0,0))) (hlen:es.length<=100000) (hB:B<=w.heap.size) (ty:Nat):
 ∃ v' w',(Builtin.append_ #[22,22] ty #[v,.slice (some ⟨g,0,none⟩) 1 c]).run Tryz.prog w=.ok v' w'/\FRow w' B v' (es++[x])/\w.grownBy w' v.ownBlock/\(v'.ownBlock=v.ownBlock\/v'.ownBlock=some w.heap.size):=by
 obtain⟨i0,hi0,hz0,hz1,hz2⟩:=info_parts fct_info
 obtain⟨v',w',hr,g2,g3,_,g5⟩:=run_append_own_at (P:=Tryz.prog) w B 22 ty 50 i0 _ 23 272 Tryz.underlying22 hi0 hz0 hz1 hz2 rfl (by decide) v es.length (rowVals es) h ⟨g,0,none⟩ 1 c x.cells.toList (by rw[Array.length_toList,FctE.size])
  (fun j u hj=>by
    have e:(⟨g,0,none⟩:Addr).add j=⟨g,j,none⟩:=by unfold Addr.add;by_cases h0:j=0 <;> simp[h0]
    rw[e,blk_cell hc]
    rw[<-hj];simp)
  (fun u hu=>(Array.all_eq_true_iff_forall_mem.1 x.one) u (by simpa using hu)) (by unfold maxLen;omega) (by omega) hB
 exact⟨v',w',hr,by unfold FRow;rw[List.length_append,rowVals_snoc];exact g2,g3,g5⟩
theorem fct_fill (e:FctE) (z:Value) (hz:z=.agg #[.int .i64 0,.int .i64 0,.int .i64 0,.int .i64 0,.string .empty,.int .i64 0,.int .i64 0,.string .empty,.string .empty,.slice none 0 0,.slice none 0 0,.int .i64 0,.slice none 0 0,.int .i64 0,.int .i64 0,.int .i64 0,.int .i64 0,.int .i64 0,.string .empty,.string .empty,.int .i64 0,.int .i64 0,.int .i64 0]):
 Instr.fill (fun i=>some (i * 23,23)) ((Array.range (1 * 23)).map (z.cells[· % z.cells.size]!)) [(0,.agg e.cells)]=some e.cells:=by
 subst hz
 obtain⟨⟨x0,x1,x2,x3,x4,x5,x6,x7,x8,x9,x10,⟨y1,y2,y3,y4⟩,x12,x13,x14,x15,x16,x17,x18,x19⟩,ta,tc,ba,bc,aa,ac⟩:=e
 kernel_rfl
section
variable {o:Oper} {a:Act} {W:World} {K:Act->World->Prop} {Q:Exit->Act->World->Prop}
theorem wp_fct_slice (parts:Array (Nat × Operand)) (ho:o.op=.buildSlice 22 1 parts) (e:FctE) (hf:(parts.map fun (i,x)=>(i,a.eval x)).toList=[(0,.agg e.cells)])
 (h:K (a.put o.dst (.slice (some ⟨W.heap.size,0,none⟩) 1 1)) (W.alloc (.cells e.cells 50))):o.wp Tryz.prog a W K Q:=by
 obtain⟨i0,hi0,hz0,hz1,hz2⟩:=info_parts fct_info
 refine wp_buildSlice 22 50 1 parts ho e.cells i0 _ Tryz.underlying22 hi0 hz0 (by rw[hz1];decide) (by rw[hz1];decide) ?_ h
 rw[hf,hz1]
 exact fct_fill e _ rfl
theorem wp_app_fct (s x:Operand) (ho:o.op=.call { callee:=.builtin .append,args:=#[s,x],argTypes:=#[22,22] })
 (B:Nat) (v:Value) (es:List FctE) (hs:a.eval s=v) (hown:FRow W B v es) (e:FctE) (g c:Nat) (hx:a.eval x=.slice (some ⟨g,0,none⟩) 1 c) (hc:W.heap[g]?=some (.cells e.cells 50 (0,0))) (hlen:es.length<=100000) (hB:B<=W.heap.size)
 (h:∀ v' w',FRow w' B v' (es++[e])->W.grownBy w' v.ownBlock->(v'.ownBlock=v.ownBlock\/v'.ownBlock=some W.heap.size)->K (a.put o.dst v') w'):o.wp Tryz.prog a W K Q:=by
 obtain⟨v',w',hr,h2,h3,h4⟩:=run_app_fct hown e g c hc hlen hB o.type
 unfold Oper.wp execOp
 simp only[ho,resolve,invoke,builtin,Sem.run_bind,Sem.run_pure,Result.andThen_ok,List.map_toArray,List.map_cons,List.map_nil,hs,hx,hr]
 exact h v' w' h2 h3 h4
end
theorem blk_set {W:World} {g j:Nat} {cs:Array Value} {t:TypeId} {u:Value} (h:W.heap[g]?=some (.cells cs t (0,0))):(W.setCell ⟨g,j,none⟩ u).heap[g]?=some (.cells (cs.setIfInBounds j u) t (0,0)):=by
 rw[setCell_eq_setRow W g j cs t (0,0) u h]
 exact setRow_heap _ _ _ _ _ _ h
theorem upd_cell (W:World) (b j:Nat) (u:Value):Upd (fun k=>k=b) W (W.setCell ⟨b,j,none⟩ u):=Upd.setCell (F:=fun k=>k=b) (p:=⟨b,j,none⟩) (Upd.refl (fun k=>k=b) W) (.inl rfl) u
theorem memFr_below {W W':World} {F:Nat->Prop} (hb:Below W.heap.size W W'):∀ a u,memFr W F a=some u->memFr W' F a=some u:=fun a u h=>by
 obtain⟨h1,h2,h3⟩:=memFr_lt a u h
 exact memFr_of ((hb.cell h1).trans (memFr_sees W F a u h)) ((hb.frozen h1).trans h3) h2
section
variable {ops:Array Oper} {rest:List Oper} {o:Oper} {a:Act} {w:World} {Q:Exit->Act->World->Prop}
theorem wpList_fct_mid (hgd:o.guard=none) (x:Operand) (ho:o.op=.load 50 x) {b i:Nat} {e:FctE} (hx:a.eval x=.pointer (some ⟨b,i,none⟩)) (hc:e.at (fun p=>w.cell? p) b i)
 (h:wpList Tryz.prog ops Q rest (a.put o.dst (.agg e.cells)) w):wpList Tryz.prog ops Q (o::rest) a w:=by
 refine wpList_plain hgd fun K hK=>?_
 unfold Oper.wp
 rw[exec_fct_mid x ho hx hc]
 exact hK _ _ h
theorem at_fslice (parts:Array (Nat × Operand)) (_:o.op=.buildSlice 22 1 parts) (h:wpList Tryz.prog ops Q (o::rest) a w):wpList Tryz.prog ops Q (o::rest) a w:=h
theorem wpList_fct_slice (hgd:o.guard=none) (parts:Array (Nat × Operand)) (ho:o.op=.buildSlice 22 1 parts) (e:FctE) (hf:(parts.map fun (i,x)=>(i,a.eval x)).toList=[(0,.agg e.cells)])
 (h:wpList Tryz.prog ops Q rest (a.put o.dst (.slice (some ⟨w.heap.size,0,none⟩) 1 1)) (w.alloc (.cells e.cells 50))):wpList Tryz.prog ops Q (o::rest) a w:=
 wpList_plain hgd fun _ hK=>wp_fct_slice parts ho e hf (hK _ _ h)
theorem wpList_app_fct (hgd:o.guard=none) (s x:Operand) (ho:o.op=.call { callee:=.builtin .append,args:=#[s,x],argTypes:=#[22,22] })
 (B:Nat) (v:Value) (es:List FctE) (hs:a.eval s=v) (hown:FRow w B v es) (e:FctE) (g c:Nat) (hx:a.eval x=.slice (some ⟨g,0,none⟩) 1 c) (hc:w.heap[g]?=some (.cells e.cells 50 (0,0))) (hlen:es.length<=100000) (hB:B<=w.heap.size)
 (h:∀ v' w',FRow w' B v' (es++[e])->w.grownBy w' v.ownBlock->(v'.ownBlock=v.ownBlock\/v'.ownBlock=some w.heap.size)->wpList Tryz.prog ops Q rest (a.put o.dst v') w'):wpList Tryz.prog ops Q (o::rest) a w:=
 wpList_plain hgd fun _ hK=>wp_app_fct s x ho B v es hs hown e g c hx hc hlen hB (fun v' w' h1 h2 h3=>hK _ _ (h v' w' h1 h2 h3))
end
theorem FRow.shape {w:World} {B:Nat} {v:Value} {es:List FctE} (h:FRow w B v es):∃ ao cap,v=.slice ao es.length cap:=by
 rcases h.2 with ⟨rfl,hz⟩ | ⟨g,cap,cur,rfl,_⟩
 ·exact⟨none,0,by rw[hz]⟩
 ·exact⟨_,_,rfl⟩
theorem cells_lt (W:World):∀ a u,(fun a=>W.cell? a) a=some u->a.block<W.heap.size:=fun _ _ h=>World.block_lt_of_cell? W _ h
theorem ml (n:Nat) (h:n<=100):n<=maxLen:=by unfold maxLen;omega
section
variable {ops:Array Oper} {rest:List Oper} {o:Oper} {a:Act} {w:World} {Q:Exit->Act->World->Prop} {K:Act->World->Prop}
end
end Go.Proofs.YtdkkhmjlamkgdaaGreatDoor
namespace Go.Proofs.YtdkkhmjlamkgdaaGreatDoor
open Go.RowKit Mg Go.Shelf Go.Maps
abbrev zeroSty:Value:=.agg #[.int .i64 0,.string .empty,.slice none 0 0,.slice none 0 0,.int .i64 0,.slice none 0 0,.bool false,.bool false]
abbrev zeroEdn:Value:=.agg #[.string .empty,.int .i64 0,.string .empty,.slice none 0 0,.int .i64 0]
abbrev zeroCorr:Value:=.agg #[.string .empty,.int .i64 0,.int .i64 0,.string .empty,.int .i64 0]
abbrev zeroTpl:Value:=.agg #[.string .empty,.string .empty]
abbrev zeroBlk:Value:=.agg #[.int .i64 0,.int .i64 0,.string .empty,.int .i64 0,.int .i64 0,.int .i64 0,.slice none 0 0,.int .i64 0,.int .i64 0]
theorem E_sty:ElemT Tryz.prog 24 34 zeroSty 8 112:=⟨Tryz.underlying24,by kernel_rfl,rfl,by decide,by decide,by decide⟩
theorem E_edn:ElemT Tryz.prog 31 39 zeroEdn 5 72:=⟨Tryz.underlying31,by kernel_rfl,rfl,by decide,by decide,by decide⟩
theorem E_corr:ElemT Tryz.prog 32 69 zeroCorr 5 56:=⟨Tryz.underlying32,by kernel_rfl,rfl,by decide,by decide,by decide⟩
theorem E_tpl:ElemT Tryz.prog 25 52 zeroTpl 2 32:=⟨Tryz.underlying25,by kernel_rfl,rfl,by decide,by decide,by decide⟩
theorem E_blk:ElemT Tryz.prog 37 58 zeroBlk 9 96:=⟨Tryz.underlying37,by kernel_rfl,rfl,by decide,by decide,by decide⟩
theorem E_str:ElemT Tryz.prog 30 9 (.string .empty) 1 16:=⟨Tryz.underlying30,by kernel_rfl,rfl,by decide,by decide,by decide⟩
theorem E_pst:ElemT Tryz.prog 101 103 (.pointer none) 1 8:=⟨Tryz.underlying101,by kernel_rfl,rfl,by decide,by decide,by decide⟩
theorem E_ped:ElemT Tryz.prog 133 135 (.pointer none) 1 8:=⟨Tryz.underlying133,by kernel_rfl,rfl,by decide,by decide,by decide⟩
theorem E_fct:ElemT Tryz.prog 22 50 (.agg zeroFct) 23 272:=⟨Tryz.underlying22,by kernel_rfl,rfl,by decide,by decide,by decide⟩
theorem S_sty:StructT Tryz.prog 34 8:=⟨⟨_,Tryz.underlying34⟩,by kernel_rfl,by decide⟩
theorem S_edn:StructT Tryz.prog 39 5:=⟨⟨_,Tryz.underlying39⟩,by kernel_rfl,by decide⟩
theorem S_corr:StructT Tryz.prog 69 5:=⟨⟨_,Tryz.underlying69⟩,by kernel_rfl,by decide⟩
theorem S_blk:StructT Tryz.prog 58 9:=⟨⟨_,Tryz.underlying58⟩,by kernel_rfl,by decide⟩
theorem S_state:StructT Tryz.prog 27 2:=⟨⟨_,Tryz.underlying27⟩,by kernel_rfl,by decide⟩
theorem zero_pst (w:World):(zeroValue 103).run Tryz.prog w=.ok (.pointer none) w:=by kernel_rfl
theorem zero_ped (w:World):(zeroValue 135).run Tryz.prog w=.ok (.pointer none) w:=by kernel_rfl
theorem zero_corrs (w:World):(zeroValue 32).run Tryz.prog w=.ok (.slice none 0 0) w:=by kernel_rfl
theorem zero_tpl (w:World):(zeroValue 52).run Tryz.prog w=.ok zeroTpl w:=by kernel_rfl
theorem zero_eff (w:World):(zeroValue 100).run Tryz.prog w=.ok .nilFunc w:=by kernel_rfl
theorem K_int:Maps.Keyed Tryz.prog 3:=int_keyed Tryz.underlying3
theorem key_int {i:Int} (h:okI i):keyOf Tryz.prog 3 (.int .i64 i)=some (.int .i64 i):=keyOf_int_mk Tryz.underlying3 (okI_wf h)
theorem K_str:Maps.Keyed Tryz.prog 9:=string_keyed Tryz.underlying9
theorem key_str {s:ByteArray} (h:s.size<=maxLen):keyOf Tryz.prog 9 (.string s)=some (.string s.data.toList):=by simp[keyOf,Tryz.underlying9,mapKey,h]
inductive Tag
 |fold | smap | tmap
 |story (id:Int) | emap (id:Int) | cmap (id:Int) | crow (id:Int)
 |lrow (id:Int) (lang:ByteArray) | edn (id:Int) (lang:ByteArray) | rrow (id:Int) (lang:ByteArray)
def Tag.of:Tag->Option Int
 |.fold | .smap | .tmap=>none
 |.story id | .emap id | .cmap id | .crow id=>some id
 |.lrow id _ | .edn id _ | .rrow id _=>some id
abbrev Own:=Nat->Option Tag
def Own.put (own:Own) (k:Nat) (t:Tag):Own:=fun j=>if j=k then some t else own j
def Own.Le (own own':Own):Prop:=∀ k t,own k=some t->own' k=some t
def Own.Ok (own:Own) (B:Nat) (w:World):Prop:=∀ k t,own k=some t->B<=k/\k<w.heap.size
def Own.New (own own':Own) (w:World):Prop:=∀ k,k<w.heap.size->own k=none->own' k=none
theorem Own.new_refl (own:Own) (w:World):own.New own w:=fun _ _ h=>h
theorem Own.New.trans {a b c:Own} {w w':World} (h:a.New b w) (k:b.New c w') (hs:w.heap.size<=w'.heap.size):a.New c w:=fun i hi e=>k i (Nat.lt_of_lt_of_le hi hs) (h i hi e)
theorem Own.put_new {own:Own} {w:World} {k:Nat} (hk:w.heap.size<=k) (t:Tag):own.New (own.put k t) w:=fun j hj e=>by
 unfold Own.put
 rw[if_neg (by omega)];exact e
theorem Own.le_refl (own:Own):own.Le own:=fun _ _ h=>h
theorem Own.Le.trans {a b c:Own} (h:a.Le b) (k:b.Le c):a.Le c:=fun i t e=>k i t (h i t e)
theorem Own.put_same (own:Own) (k:Nat) (t:Tag):own.put k t k=some t:=if_pos rfl
theorem Own.put_le {own:Own} {B:Nat} {w:World} (h:own.Ok B w) {k:Nat} (hk:w.heap.size<=k) (t:Tag):own.Le (own.put k t):=fun j u e=>by
 unfold Own.put
 have:=(h j u e).2
 rw[if_neg (by omega)];exact e
theorem Own.put_le_same {own:Own} {k:Nat} {t:Tag} (h:own k=some t):own.Le (own.put k t):=fun j u e=>by
 unfold Own.put
 by_cases hj:j=k
 ·subst hj;rw[if_pos rfl,<-h];exact e
 ·rw[if_neg hj];exact e
theorem Own.Ok.mono {own:Own} {B:Nat} {w w':World} (h:own.Ok B w) (hs:w.heap.size<=w'.heap.size):own.Ok B w':=fun k t e=>⟨(h k t e).1,Nat.lt_of_lt_of_le (h k t e).2 hs⟩
theorem Own.Ok.put {own:Own} {B:Nat} {w:World} (h:own.Ok B w) {k:Nat} (hB:B<=k) (hk:k<w.heap.size) (t:Tag):(own.put k t).Ok B w:=fun j u e=>by
 unfold Own.put at e
 by_cases hj:j=k
 ·subst hj;exact⟨hB,hk⟩
 ·rw[if_neg hj]at e;exact h j u e
theorem Own.ne {own:Own} {a b:Nat} {t u:Tag} (ha:own a=some t) (hb:own b=some u) (h:t≠u):a≠b:=fun e=>h (by subst e;rw[ha]at hb;exact Option.some.inj hb)
abbrev stoCells (id:Int) (g:StG) (tv cv:Value) (em cm:Nat):Array Value:=#[.int .i64 id,.string g.author,tv,.slice none 0 0,.int .i64 (g.pub.getD 0),cv,.bool g.retr,.bool g.taken,.bool g.pub.isSome,.map (some em),.map (some cm)]
abbrev edgCells (e:EdG) (rv:Value):Array Value:=#[.string e.lang,.int .i64 e.rev,.string e.title,.slice none 0 0,.int .i64 e.changed,rv]
def EdIn (own:Own) (mem:Addr->Option Value) (B:Nat) (w:World) (id:Int) (N:Nat) (e:EdG) (p:Nat):Prop:=
 own p=some (.edn id e.lang)/\EdnOK ⟨e.lang,e.rev,e.title,[],e.changed⟩/\e.revs.length<=N/\∃ rv es,w.heap[p]?=some (.cells (edgCells e rv) 138 (0,0))/\FRow w B rv es/\(∀ k,rv.ownBlock=some k->own k=some (.rrow id e.lang))/\es.map FctE.f=e.revs/\∀ x∈es,x.ok mem
def EmIn (own:Own) (mem:Addr->Option Value) (B:Nat) (w:World) (id:Int) (N:Nat) (eds:List EdG) (b:Nat):Prop:=
 own b=some (.emap id)/\∃ n ge,n<=N/\KMap Tryz.prog 9 w b n ge/\(∀ e∈eds,∃ p,ge (.string e.lang)=some (.pointer (some ⟨p,0,none⟩))/\EdIn own mem B w id N e p)/\∀ lang:ByteArray,lang.size<=maxLen->lang∉eds.map EdG.lang->ge (.string lang)=none
def CmIn (own:Own) (B:Nat) (w:World) (id:Int) (N:Nat) (corr:List Corr) (b:Nat):Prop:=
 own b=some (.cmap id)/\∃ n gc,n<=N/\KMap Tryz.prog 9 w b n gc/\∀ lang:ByteArray,lang.size<=maxLen->GRow w B 69 5 ((gc (.string lang)).getD (.slice none 0 0)) ((corrLang lang corr).map corrCells)/\∀ k,((gc (.string lang)).getD (.slice none 0 0)).ownBlock=some k->own k=some (.lrow id lang)
structure StIn (own:Own) (mem:Addr->Option Value) (B:Nat) (w:World) (id:Int) (N:Nat) (g:StG) (p:Nat):Prop where
 tag:own p=some (.story id)
 sid:okI id
 aut:g.author.size<=maxLen
 pub:okI (g.pub.getD 0)
 cok:∀ c∈g.corr,CorrOK c
 clen:g.corr.length<=N
 apart:Apart g
 at_:∃ tv cv em cm,w.heap[p]?=some (.cells (stoCells id g tv cv em cm) 107 (0,0))/\StrsM mem tv g.topics/\GRow w B 69 5 cv (g.corr.map corrCells)/\(∀ k,cv.ownBlock=some k->own k=some (.crow id))/\EmIn own mem B w id N g.eds em/\CmIn own B w id N g.corr cm
def Wr (own:Own) (X:Tag->Prop) (k:Nat):Prop:=∃ t,own k=some t/\X t
section
variable {own own':Own} {mem:Addr->Option Value} {B N N':Nat} {w w':World} {X:Tag->Prop} {id:Int}
theorem Wr.not {k:Nat} {t:Tag} (h:own k=some t) (hX:¬ X t):¬ Wr own X k:=fun ⟨u,e,hu⟩=>by rw[h]at e;exact hX (Option.some.inj e ▸ hu)
theorem Wr.mono {Y:Tag->Prop} (h:∀ t,X t->Y t) {k:Nat} (hk:Wr own X k):Wr own Y k:=⟨hk.choose,hk.choose_spec.1,h _ hk.choose_spec.2⟩
theorem keep_blk (ho:own.Ok B w) (hu:Upd (Wr own X) w w') {k:Nat} {t:Tag} (h:own k=some t) (hX:¬ X t):w'.heap[k]?=w.heap[k]?:=hu.block k (ho k t h).2 (Wr.not h hX)
theorem EdIn.keep (ho:own.Ok B w) (hl:own.Le own') (hu:Upd (Wr own X) w w') (hN:N<=N') {e:EdG} {p:Nat} (h:EdIn own mem B w id N e p) (h1:¬ X (.edn id e.lang)) (h2:¬ X (.rrow id e.lang)):EdIn own' mem B w' id N' e p:=by
 obtain⟨a1,a2,a3,rv,es,a4,a5,a6,a7,a8⟩:=h
 exact⟨hl _ _ a1,a2,by omega,rv,es,(keep_blk ho hu a1 h1).trans a4,a5.same fun k hk=>keep_blk ho hu (a6 k hk) h2,fun k hk=>hl _ _ (a6 k hk),a7,a8⟩
theorem EmIn.keep (ho:own.Ok B w) (hl:own.Le own') (hu:Upd (Wr own X) w w') (hN:N<=N') {eds:List EdG} {b:Nat} (h:EmIn own mem B w id N eds b) (h0:¬ X (.emap id)) (h1:∀ lang,¬ X (.edn id lang)) (h2:∀ lang,¬ X (.rrow id lang)):EmIn own' mem B w' id N' eds b:=by
 obtain⟨a1,n,ge,a2,a3,a4,a5⟩:=h
 refine⟨hl _ _ a1,n,ge,by omega,a3.of_block (keep_blk ho hu a1 h0),fun e he=>?_,a5⟩
 obtain⟨p,b1,b2⟩:=a4 e he
 exact⟨p,b1,b2.keep ho hl hu hN (h1 _) (h2 _)⟩
theorem CmIn.keep (ho:own.Ok B w) (hl:own.Le own') (hu:Upd (Wr own X) w w') (hN:N<=N') {corr:List Corr} {b:Nat} (h:CmIn own B w id N corr b) (h0:¬ X (.cmap id)) (h1:∀ lang,¬ X (.lrow id lang)):CmIn own' B w' id N' corr b:=by
 obtain⟨a1,n,gc,a2,a3,a4⟩:=h
 exact⟨hl _ _ a1,n,gc,by omega,a3.of_block (keep_blk ho hu a1 h0),fun lang hlang=>⟨(a4 lang hlang).1.same fun k hk=>keep_blk ho hu ((a4 lang hlang).2 k hk) (h1 lang),fun k hk=>hl _ _ ((a4 lang hlang).2 k hk)⟩⟩
theorem StIn.keep (ho:own.Ok B w) (hl:own.Le own') (hu:Upd (Wr own X) w w') (hN:N<=N') {g:StG} {p:Nat} (h:StIn own mem B w id N g p) (hX:∀ t,t.of=some id->¬ X t):StIn own' mem B w' id N' g p:=by
 obtain⟨tv,cv,em,cm,a1,a2,a3,a4,a5,a6⟩:=h.at_
 exact⟨hl _ _ h.tag,h.sid,h.aut,h.pub,h.cok,Nat.le_trans h.clen hN,h.apart,tv,cv,em,cm,(keep_blk ho hu h.tag (hX _ rfl)).trans a1,a2,a3.same fun k hk=>keep_blk ho hu (a4 k hk) (hX _ rfl),fun k hk=>hl _ _ (a4 k hk),a5.keep ho hl hu hN (hX _ rfl) (fun _=>hX _ rfl) (fun _=>hX _ rfl),a6.keep ho hl hu hN (hX _ rfl) (fun _=>hX _ rfl)⟩
end
def TmIn (own:Own) (w:World) (N:Nat) (L:ByteArray->Option ByteArray) (b:Nat):Prop:=
 own b=some .tmap/\∃ n gT,n<=N/\KMap Tryz.prog 9 w b n gT/\∀ name:ByteArray,name.size<=maxLen->gT (.string name)=(L name).map fun t=>.agg #[.string name,.string t]
def SmIn (own:Own) (mem:Addr->Option Value) (B:Nat) (w:World) (N:Nat) (ps:Int->Nat) (T:Int->Prop) (G:Int->StG) (b:Nat):Prop:=
 own b=some .smap/\∃ n gS,n<=N/\KMap Tryz.prog 3 w b n gS/\(∀ id,okI id->T id->gS (.int .i64 id)=some (.pointer (some ⟨ps id,0,none⟩))/\StIn own mem B w id N (G id) (ps id))/\∀ id,okI id->¬ T id->gS (.int .i64 id)=none/\G id=stg0
structure FoldIn (own:Own) (mem:Addr->Option Value) (B:Nat) (w:World) (sb N:Nat) (ps:Int->Nat) (T:Int->Prop) (G:Int->StG) (L:ByteArray->Option ByteArray):Prop where
 tag:own sb=some .fold
 ok:own.Ok B w
 low:∀ a u,mem a=some u->a.block<B
 see:Sees mem w
 at_:∃ bS bT,w.heap[sb]?=some (.cells #[.map (some bS),.map (some bT)] 97 (0,0))/\SmIn own mem B w N ps T G bS/\TmIn own w N L bT
section
variable {own own':Own} {mem:Addr->Option Value} {B N N':Nat} {w w':World} {X:Tag->Prop} {id:Int} {sb:Nat} {ps:Int->Nat} {T:Int->Prop} {G:Int->StG} {L:ByteArray->Option ByteArray}
theorem TmIn.keep (ho:own.Ok B w) (hl:own.Le own') (hu:Upd (Wr own X) w w') (hN:N<=N') {b:Nat} (h:TmIn own w N L b) (h0:¬ X .tmap):TmIn own' w' N' L b:=by
 obtain⟨a1,n,gT,a2,a3,a4⟩:=h
 exact⟨hl _ _ a1,n,gT,by omega,a3.of_block (keep_blk ho hu a1 h0),a4⟩
theorem Wr.ge (ho:own.Ok B w) {k:Nat} (h:Wr own X k):B<=k:=(ho _ _ h.choose_spec.1).1
theorem FoldIn.st (h:FoldIn own mem B w sb N ps T G L) (hid:okI id) (hT:T id):StIn own mem B w id N (G id) (ps id):=by
 obtain⟨_,_,_,⟨_,_,_,_,_,b4,_⟩,_⟩:=h.at_
 exact(b4 id hid hT).2
theorem FoldIn.story (h:FoldIn own mem B w sb N ps T G L) (hl:own.Le own') (hok:own'.Ok B w') (hX:∀ t,X t->t.of=some id) (hu:Upd (Wr own X) w w') (hN:N<=N') (hid:okI id) (hT:T id) {g:StG} (hg:StIn own' mem B w' id N' g (ps id)):
 FoldIn own' mem B w' sb N' ps T (fun i=>if i=id then g else G i) L:=by
 have hB:B<=w.heap.size:=Nat.le_of_lt (Nat.lt_of_le_of_lt (h.ok _ _ h.tag).1 (h.ok _ _ h.tag).2)
 have hn:∀ t,t.of≠some id->¬ X t:=fun t ht hx=>ht (hX t hx)
 obtain⟨bS,bT,a1,⟨b1,n,gS,b2,b3,b4,b5⟩,a3⟩:=h.at_
 refine⟨hl _ _ h.tag,hok,h.low,fun a u hau=>hu.cell_some (h.see a u hau) (fun hw=>by have:=Wr.ge h.ok hw;have:=h.low a u hau;omega),bS,bT,(keep_blk h.ok hu h.tag (hn _ (by simp[Tag.of]))).trans a1,?_,a3.keep h.ok hl hu hN (hn _ (by simp[Tag.of]))⟩
 refine⟨hl _ _ b1,n,gS,by omega,b3.of_block (keep_blk h.ok hu b1 (hn _ (by simp[Tag.of]))),fun i hi hTi=>?_,fun i hi hTi=>?_⟩
 ·obtain⟨c1,c2⟩:=b4 i hi hTi
  refine⟨c1,?_⟩
  dsimp only
  by_cases e:i=id
  ·subst e;rw[if_pos rfl];exact hg
  ·rw[if_neg e]
   exact c2.keep h.ok hl hu hN fun t ht hx=>by
    have:=hX t hx
    rw[ht]at this
    exact e (Option.some.inj this)
 ·have e:i≠id:=fun e=>hTi (e ▸ hT)
  dsimp only
  rw[if_neg e]
  exact b5 i hi hTi
theorem FoldIn.congr {G':Int->StG} {T':Int->Prop} {L':ByteArray->Option ByteArray} (h:FoldIn own mem B w sb N ps T G L) (hT:∀ i,T' i↔T i) (hG:∀ i,G' i=G i) (hL:∀ i,L' i=L i):FoldIn own mem B w sb N ps T' G' L':=by
 obtain rfl:T'=T:=funext fun i=>propext (hT i)
 obtain rfl:G'=G:=funext hG
 obtain rfl:L'=L:=funext hL
 exact h
theorem FoldIn.keep (h:FoldIn own mem B w sb N ps T G L) (hb:Below w.heap.size w w') (hN:N<=N'):FoldIn own mem B w' sb N' ps T G L:=by
 have hu:Upd (Wr own (fun _=>False)) w w':=⟨hb.os,hb.tape,hb.output,hb.size,fun k hk _=>hb.block k hk⟩
 obtain⟨bS,bT,a1,⟨b1,n,gS,b2,b3,b4,b5⟩,a3⟩:=h.at_
 refine⟨h.tag,h.ok.mono hb.size,h.low,h.see.bel hb,bS,bT,(hb.block _ (h.ok _ _ h.tag).2).trans a1,?_,a3.keep h.ok (Own.le_refl _) hu hN id⟩
 refine⟨b1,n,gS,by omega,b3.of_block (keep_blk h.ok hu b1 id),fun i hi hTi=>?_,b5⟩
 obtain⟨c1,c2⟩:=b4 i hi hTi
 exact⟨c1,c2.keep h.ok (Own.le_refl _) hu hN fun _ _=>id⟩
end
def effL:List (Int × Value):=[(1,.func (.func 70) #[] #[]),(3,.func (.func 71) #[] #[]),(4,.func (.func 72) #[] #[]),(5,.func (.func 73) #[] #[]),(6,.func (.func 74) #[] #[]),(7,.func (.func 75) #[] #[])]
abbrev EMapE (w:World) (b:Nat):Prop:=IMap Tryz.prog 3 w b effL
theorem okI_s {n:Int} (h:0<=n) (h2:n<=1000000):okI n:=⟨by omega,by omega⟩
set_option maxRecDepth 10000 in
set_option maxHeartbeats 1000000 in
theorem effects_any (w:World):Calls Tryz.prog 49 #[] w fun e w'=>e=.returned (.map (some w.heap.size))/\EMapE w' w.heap.size/\Below w.heap.size w w':=by
 have hmm:=@run_makeMap Tryz.prog
 have h0:=IMap.made Tryz.prog 3 w
 have hb0:Below w.heap.size w (w.alloc (.map #[] 0)):=(Below.refl _ w).alloc (Nat.le_refl _) _
 have hG:∀ {a b:World},Below w.heap.size w a->a.grownBy b (some w.heap.size)->Below w.heap.size w b:=fun h g=>h.grown g h.size (fun k e=>by cases e;exact Nat.le_refl _)
 obtain⟨w1,r1,h1,g1⟩:=h0.store Tryz.underlying3 Tryz.underlying98 (by decide) (i:=1) (okI_s (by omega) (by omega)) (by simp[keysL]) (.func (.func 70) #[] #[])
 replace g1:=hG hb0 g1
 obtain⟨w2,r2,h2,g2⟩:=h1.store Tryz.underlying3 Tryz.underlying98 (by decide) (i:=3) (okI_s (by omega) (by omega)) (by simp[keysL]) (.func (.func 71) #[] #[])
 replace g2:=hG g1 g2
 obtain⟨w3,r3,h3,g3⟩:=h2.store Tryz.underlying3 Tryz.underlying98 (by decide) (i:=4) (okI_s (by omega) (by omega)) (by simp[keysL]) (.func (.func 72) #[] #[])
 replace g3:=hG g2 g3
 obtain⟨w4,r4,h4,g4⟩:=h3.store Tryz.underlying3 Tryz.underlying98 (by decide) (i:=5) (okI_s (by omega) (by omega)) (by simp[keysL]) (.func (.func 73) #[] #[])
 replace g4:=hG g3 g4
 obtain⟨w5,r5,h5,g5⟩:=h4.store Tryz.underlying3 Tryz.underlying98 (by decide) (i:=6) (okI_s (by omega) (by omega)) (by simp[keysL]) (.func (.func 74) #[] #[])
 replace g5:=hG g4 g5
 obtain⟨w6,r6,h6,g6⟩:=h5.store Tryz.underlying3 Tryz.underlying98 (by decide) (i:=7) (okI_s (by omega) (by omega)) (by simp[keysL]) (.func (.func 75) #[] #[])
 replace g6:=hG g5 g6
 clear h0 h1 h2 h3 h4 h5 g1 g2 g3 g4 g5 hb0 hG
 go_enter Tryz.func49,Tryz.ntmps49
 go_wp2_with fail
 go_ret
 exact⟨rfl,h6,g6⟩
def OfPost (own:Own) (mem:Addr->Option Value) (B:Nat) (w:World) (sb N:Nat) (T:Int->Prop) (G:Int->StG) (L:ByteArray->Option ByteArray) (id:Int) (e:Ending) (w':World):Prop:=
 ∃ own' ps',e=.returned (.pointer (some ⟨ps' id,0,none⟩))/\own.Le own'/\own.New own' w/\FoldIn own' mem B w' sb (N+1) ps' (fun i=>T i\/i=id) G L/\Upd (Wr own (fun t=>t=.smap)) w w'
theorem below_dN {B:Nat} {a w:World} (h:Below B a w) (n:Nat):Below B a (w.drewN n):=⟨h.os,h.tape,h.output,h.size,h.block⟩
theorem upd_dN {F:Nat->Prop} {a w:World} (h:Upd F a w) (n:Nat):Upd F a (w.drewN n):=⟨h.os,h.tape,h.output,h.size,h.block⟩
theorem bel1 (w:World) (o:Obj):Below w.heap.size w (w.alloc o):=(Below.refl _ w).alloc (Nat.le_refl _) _
theorem Upd.bel {F:Nat->Prop} {a w w':World} (h:Upd F a w) (hb:Below w.heap.size w w'):Upd F a w':=
 h.trans (G:=fun k=>w.heap.size<=k) (Upd.of_below hb) (fun _i hi=>.inr (Nat.le_trans h.size hi))
section
variable {own:Own} {mem:Addr->Option Value} {B N:Nat} {w:World} {sb:Nat} {ps:Int->Nat} {T:Int->Prop} {G:Int->StG} {L:ByteArray->Option ByteArray}
set_option maxRecDepth 100000 in
set_option maxHeartbeats 4000000 in
theorem of_old (h:FoldIn own mem B w sb N ps T G L) (f:FctE) (hid:okI f.f.story) (hT:T f.f.story):
 Calls Tryz.prog 109 #[.pointer (some ⟨sb,0,none⟩),.agg f.cells] w (OfPost own mem B w sb N T G L f.f.story):=by
 obtain⟨bS,bT,a1,⟨b1,n,gS,b2,b3,b4,b5⟩,a3⟩:=h.at_
 obtain⟨c1,c2⟩:=b4 _ hid hT
 have HP:Hid (∀ n,OfPost own mem B w sb N T G L f.f.story (.returned (.pointer (some ⟨ps f.f.story,0,none⟩))) ((w.alloc (.cells f.cells 50)).drewN n)):=Lib.hid (fun n=>by
  refine⟨own,ps,rfl,Own.le_refl _,Own.new_refl _ _,(h.keep (below_dN (bel1 w _) n) (Nat.le_succ N)).congr (fun _=>⟨fun hh=>hh.elim id (fun e=>e ▸ hT),.inl⟩) (fun _=>rfl) (fun _=>rfl),upd_dN ((Upd.refl _ w).alloc _) n⟩)
 rw[FctE.cells_eq]at HP
 rw[FctE.cells_eq]
 have hsb:=hlt a1
 obtain⟨W1,hW1⟩:∃ W1,W1=w.alloc (.cells (fctCells f.f f.tv f.bv f.av) 50):=⟨_,rfl⟩
 have hl:∀ n,(Instr.lookup 94 (.map (some bS)) (.int .i64 f.f.story) false).run Tryz.prog (W1.drewN n)=.ok (.pointer (some ⟨ps f.f.story,0,none⟩)) (W1.drewN n):=fun n=>by
  have:=(KMap.look (w:=W1.drewN n) (by rw[hW1];exact b3.alloc _) K_int Tryz.underlying94 (zero_pst _) (key_int hid))
  rw[c1]at this
  exact this
 have hblk:W1.heap[sb]?=some (.cells #[.map (some bS),.map (some bT)] 97 (0,0)):=by rw[hW1];exact(Below.heap_alloc _ _ _ hsb).trans a1
 have hnew:W1.heap[w.heap.size]?=some (.cells (fctCells f.f f.tv f.bv f.av) 50 (0,0)):=by rw[hW1];exact World.alloc_heap_new w _
 have k0:W1.cell? ⟨sb,0,none⟩=some (.map (some bS)):=rowcell hblk
 have k3:W1.cell? ⟨w.heap.size,3,none⟩=some (.int .i64 f.f.story):=rowcell hnew
 rw[<-hW1]at HP
 have HW:=Lib.hid hW1
 clear hW1 h a1 b3 b4 b5 a3 c1 c2 hblk hnew
 go_enter Tryz.func109,Tryz.ntmps109
 go_upto_region 1 with fail
 rw[<-HW.out]
 go_quiet (fail)
 go_wp2_with fail
 go_ret
 exact HP.out _
open Classical in
theorem new_post (h:FoldIn own mem B w sb N ps T G L) {id:Int} (hid:okI id) (hT:¬ T id) {W4 W5:World} {C bS bT n:Nat} {gS:Value->Option Value}
 (a1:w.heap[sb]?=some (.cells #[.map (some bS),.map (some bT)] 97 (0,0))) (b1:own bS=some .smap) (b2:n<=N)
 (b4:∀ id,okI id->T id->gS (.int .i64 id)=some (.pointer (some ⟨ps id,0,none⟩))/\StIn own mem B w id N (G id) (ps id)) (b5:∀ id,okI id->¬ T id->gS (.int .i64 id)=none/\G id=stg0) (a3:TmIn own w N L bT)
 (hb4:Below w.heap.size w W4) (hem:W4.heap[C]?=some (.map #[] 0)) (hcm:W4.heap[C+1]?=some (.map #[] 0))
 (hst:W4.heap[C+1+1]?=some (.cells #[.int .i64 id,.string ⟨#[]⟩,.slice none 0 0,.slice none 0 0,.int .i64 0,.slice none 0 0,.bool false,.bool false,.bool false,.map (some C),.map (some (C+1))] 107 (0,0)))
 (hC:w.heap.size<=C) (hg:W4.drew.grownBy W5 (some bS)) (hk:KMap Tryz.prog 3 W5 bS (n+1) (fun x=>if x=.int .i64 id then some (.pointer (some ⟨C+1+1,0,none⟩)) else gS x)):
 OfPost own mem B w sb N T G L id (.returned (.pointer (some ⟨C+1+1,0,none⟩))) W5:=by
 have hX:Upd (Wr own (fun t=>t=.smap)) w W5:=((Upd.refl _ w).bel hb4).drew.grown hg (fun k e=>.inl (by cases e;exact⟨.smap,b1,rfl⟩))
 have hOk:=h.ok
 have hbB:=(hOk _ _ b1).1
 have hbl:=(hOk _ _ b1).2
 have hblk:∀ k,k<W4.heap.size->k≠bS->W5.heap[k]?=W4.heap[k]?:=fun k hk hne=>hg.block k hk (fun e=>hne (by injection e))
 have l4:W4.heap.size<=W5.heap.size:=hg.size
 have s0:=hlt hem
 have s1:=hlt hcm
 have s2:=hlt hst
 have o0:own.Le (own.put C (.emap id)):=Own.put_le hOk hC _
 have k0:(own.put C (.emap id)).Ok B W5:=(hOk.mono (Nat.le_trans hb4.size l4)).put (by omega) (by omega) _
 have o1:(own.put C (.emap id)).Le ((own.put C (.emap id)).put (C+1) (.cmap id)):=fun j u e=>by
  unfold Own.put at e ⊢
  by_cases h1:j=C+1
  ·subst h1
   rw[if_neg (by omega)]at e
   have:=(hOk _ _ e).2;omega
  ·rw[if_neg h1];exact e
 have k1:=k0.put (k:=C+1) (by omega) (by omega) (.cmap id)
 have o2:((own.put C (.emap id)).put (C+1) (.cmap id)).Le (((own.put C (.emap id)).put (C+1) (.cmap id)).put (C+1+1) (.story id)):=fun j u e=>by
  unfold Own.put at e ⊢
  by_cases h1:j=C+1+1
  ·subst h1
   rw[if_neg (by omega),if_neg (by omega)]at e
   have:=(hOk _ _ e).2;omega
  ·rw[if_neg h1];exact e
 have k2:=k1.put (k:=C+1+1) (by omega) (by omega) (.story id)
 have t0:(((own.put C (.emap id)).put (C+1) (.cmap id)).put (C+1+1) (.story id)) C=some (.emap id):=by
  unfold Own.put;rw[if_neg (by omega),if_neg (by omega),if_pos rfl]
 have t1:(((own.put C (.emap id)).put (C+1) (.cmap id)).put (C+1+1) (.story id)) (C+1)=some (.cmap id):=by
  unfold Own.put;rw[if_neg (by omega),if_pos rfl]
 have t2:(((own.put C (.emap id)).put (C+1) (.cmap id)).put (C+1+1) (.story id)) (C+1+1)=some (.story id):=Own.put_same _ _ _
 have hle:=(o0.trans o1).trans o2
 have hnw:own.New (((own.put C (.emap id)).put (C+1) (.cmap id)).put (C+1+1) (.story id)) w:=fun j hj e=>by
  unfold Own.put
  rw[if_neg (by omega),if_neg (by omega),if_neg (by omega)];exact e
 generalize (((own.put C (.emap id)).put (C+1) (.cmap id)).put (C+1+1) (.story id))=own' at *
 have hN1:N<=N+1:=Nat.le_succ N
 have hkeep:∀ {k:Nat} {t:Tag},own k=some t->t≠.smap->W5.heap[k]?=w.heap[k]?:=fun e hne=>keep_blk hOk hX e hne
 have hnew:∀ {k:Nat} {x:Obj},W4.heap[k]?=some x->C<=k->W5.heap[k]?=some x:=fun e hk=>(hblk _ (hlt e) (by omega)).trans e
 refine⟨own',fun i=>if i=id then C+1+1 else ps i,by dsimp only;rw[if_pos rfl],hle,hnw,⟨hle _ _ h.tag,k2,h.low,fun a u hau=>hX.cell_some (h.see a u hau) (fun hw=>by have:=Wr.ge hOk hw;have:=h.low a u hau;omega),bS,bT,(hkeep h.tag (by simp)).trans a1,⟨hle _ _ b1,n+1,_,by omega,hk,fun i hi hTi=>?_,fun i hi hTi=>?_⟩,a3.keep hOk hle hX hN1 (by simp)⟩,hX⟩
 ·by_cases e:i=id
  ·subst e
   have hG0:=(b5 i hi hT).2
   refine⟨by dsimp only;rw[if_pos rfl,if_pos rfl],?_⟩
   dsimp only
   rw[if_pos rfl,hG0]
   refine⟨t2,hid,Nat.zero_le _,okI_zero,(by intro c hc;cases hc),Nat.zero_le _,List.nodup_nil,.slice none 0 0,.slice none 0 0,C,C+1,hnew hst (by omega),StrsM.nil _,GRow.nil _ _ _ _,(by intro k hk;cases hk),⟨t0,0,_,by omega,KMap.made _ _ (hnew hem (by omega)),(by intro e he;cases he),fun _ _ _=>rfl⟩,t1,0,_,by omega,KMap.made _ _ (hnew hcm (by omega)),fun lang _=>⟨GRow.nil _ _ _ _,(by intro k hk;cases hk)⟩⟩
  ·have hTi:T i:=hTi.elim (fun x=>x) (fun x=>absurd x e)
   obtain⟨c1,c2⟩:=b4 i hi hTi
   dsimp only
   rw[if_neg (by intro q;injection q with _ q;exact e q),if_neg e]
   exact⟨c1,c2.keep hOk hle hX hN1 fun t ht hx=>by rw[hx]at ht;cases ht⟩
 ·have e:i≠id:=fun e=>hTi (.inr e)
  rw[if_neg (by intro q;injection q with _ q;exact e q)]
  exact b5 i hi (fun q=>hTi (.inl q))
set_option maxRecDepth 100000 in
set_option maxHeartbeats 4000000 in
theorem of_new (h:FoldIn own mem B w sb N ps T G L) (f:FctE) (hid:okI f.f.story) (hT:¬ T f.f.story) (hN:N<=100000):
 Calls Tryz.prog 109 #[.pointer (some ⟨sb,0,none⟩),.agg f.cells] w (OfPost own mem B w sb N T G L f.f.story):=by
 obtain⟨bS,bT,a1,⟨b1,n,gS,b2,b3,b4,b5⟩,a3⟩:=h.at_
 obtain⟨c1,c2⟩:=b5 _ hid hT
 have HK:=Lib.hid b3
 have HA:=Lib.hid a1
 have HB4':=Lib.hid b4
 have HB5':=Lib.hid b5
 have HA3:=Lib.hid a3
 rw[FctE.cells_eq]
 have hsb:=hlt a1
 have hbS:=(h.ok _ _ b1).2
 obtain⟨W1,hW1⟩:∃ W1,W1=w.alloc (.cells (fctCells f.f f.tv f.bv f.av) 50):=⟨_,rfl⟩
 have hb1:Below w.heap.size w W1:=by rw[hW1];exact bel1 w _
 have hl:∀ n,(Instr.lookup 94 (.map (some bS)) (.int .i64 f.f.story) false).run Tryz.prog (W1.drewN n)=.ok (.pointer none) (W1.drewN n):=fun n=>by
  have:=(KMap.look (w:=W1.drewN n) (b3.bel (below_dN hb1 n)) K_int Tryz.underlying94 (zero_pst _) (key_int hid))
  rw[c1]at this
  exact this
 have hblk:W1.heap[sb]?=some (.cells #[.map (some bS),.map (some bT)] 97 (0,0)):=(hb1.block _ hsb).trans a1
 have hnew:W1.heap[w.heap.size]?=some (.cells (fctCells f.f f.tv f.bv f.av) 50 (0,0)):=by rw[hW1];exact World.alloc_heap_new w _
 have HBL:=Lib.hid hblk
 have HNW:=Lib.hid hnew
 have k0:W1.cell? ⟨sb,0,none⟩=some (.map (some bS)):=rowcell hblk
 have k3:W1.cell? ⟨w.heap.size,3,none⟩=some (.int .i64 f.f.story):=rowcell hnew
 have HW:=Lib.hid hW1
 have HB1:=Lib.hid hb1
 have H:=Lib.hid h
 have HC2:=Lib.hid c2
 have hmm:=@run_makeMap Tryz.prog
 have hz:=hlt hnew
 have hz2:=hlt hblk
 clear hW1 h a1 b3 b4 b5 a3 c1 c2 hblk hnew hb1
 go_enter Tryz.func109,Tryz.ntmps109
 go_upto_region 1 with fail
 rw[<-HW.out]
 go_quiet (fail)
 obtain⟨W2,hW2⟩:∃ W2,W2=W1.drewN nq:=⟨_,rfl⟩
 rw[<-hW2]
 have hb2:Below w.heap.size w W2:=by rw[hW2];exact below_dN HB1.out nq
 have hblk2:W2.heap[sb]?=some (.cells #[.map (some bS),.map (some bT)] 97 (0,0)):=by rw[hW2];exact HBL.out
 have hnew2:W2.heap[w.heap.size]?=some (.cells (fctCells f.f f.tv f.bv f.av) 50 (0,0)):=by rw[hW2];exact HNW.out
 have q0:W2.cell? ⟨sb,0,none⟩=some (.map (some bS)):=rowcell hblk2
 have q3:W2.cell? ⟨w.heap.size,3,none⟩=some (.int .i64 f.f.story):=rowcell hnew2
 have z0:=hlt hblk2
 have z1:=hlt hnew2
 have HB2:=Lib.hid hb2
 clear k0 k3 hz hz2 hl hW2 hb2 hblk2 hnew2
 go_upto_region 4 with fail
 obtain⟨W3,hW3⟩:∃ W3,W3=((W2.alloc (.map #[] 0)).alloc (.map #[] 0)).alloc (.cells #[.int .i64 0,.string ⟨#[]⟩,.slice none 0 0,.slice none 0 0,.int .i64 0,.slice none 0 0,.bool false,.bool false,.bool false,.map (some W2.heap.size),.map (some (W2.heap.size+1))] 107):=⟨_,rfl⟩
 rw[<-hW3]
 have hb3:Below W2.heap.size W2 W3:=by rw[hW3];exact(((Below.refl _ W2).alloc (Nat.le_refl _) _).alloc (by simp) _).alloc (by simp;omega) _
 have hem:W3.heap[W2.heap.size]?=some (.map #[] 0):=by rw[hW3];exact(Below.heap_alloc _ _ _ (by simp;omega)).trans ((Below.heap_alloc _ _ _ (by simp)).trans (World.alloc_heap_new W2 _))
 have hcm:W3.heap[W2.heap.size+1]?=some (.map #[] 0):=by
  rw[hW3]
  refine(Below.heap_alloc _ _ _ (by simp)).trans ?_
  have:=World.alloc_heap_new (W2.alloc (.map #[] 0)) (.map #[] 0)
  simpa using this
 have hst:W3.heap[W2.heap.size+1+1]?=some (.cells #[.int .i64 0,.string ⟨#[]⟩,.slice none 0 0,.slice none 0 0,.int .i64 0,.slice none 0 0,.bool false,.bool false,.bool false,.map (some W2.heap.size),.map (some (W2.heap.size+1))] 107 (0,0)):=by
  rw[hW3]
  have:=World.alloc_heap_new ((W2.alloc (.map #[] 0)).alloc (.map #[] 0)) (.cells #[.int .i64 0,.string ⟨#[]⟩,.slice none 0 0,.slice none 0 0,.int .i64 0,.slice none 0 0,.bool false,.bool false,.bool false,.map (some W2.heap.size),.map (some (W2.heap.size+1))] 107)
  simpa using this
 have hz3:W3.heap.size=W2.heap.size+3:=by rw[hW3];simp
 have p0:W3.cell? ⟨sb,0,none⟩=some (.map (some bS)):=(hb3.cell (p:=⟨sb,0,none⟩) z0).trans q0
 have p3:W3.cell? ⟨w.heap.size,3,none⟩=some (.int .i64 f.f.story):=(hb3.cell (p:=⟨w.heap.size,3,none⟩) z1).trans q3
 have n0:W3.cell? ⟨W2.heap.size+1+1,0,none⟩=some (.int .i64 0):=rowcell hst
 have n1:W3.frozen? ⟨W2.heap.size+1+1,0,none⟩=false:=rowfree hst
 have HEM:=Lib.hid hem
 have HCM:=Lib.hid hcm
 have HST:=Lib.hid hst
 have HZ3:=Lib.hid hz3
 have HB3:=Lib.hid (HB2.out.trans (hb3.mono HB2.out.size))
 generalize hcur:W2.heap.size=C at *
 clear hW3 q0 q3 hb3 hem hcm hst hz3
 go_upto_region 5 with fail
 obtain⟨W4,hW4⟩:∃ W4,W4=W3.setCell ⟨C+1+1,0,none⟩ (.int .i64 f.f.story):=⟨_,rfl⟩
 rw[<-hW4]
 have hne:sb≠C+1+1:=by omega
 have hne2:w.heap.size≠C+1+1:=by omega
 have m0:W4.cell? ⟨sb,0,none⟩=some (.map (some bS)):=by rw[hW4,sc_blk (Ne.symm hne)];exact p0
 have m3:W4.cell? ⟨w.heap.size,3,none⟩=some (.int .i64 f.f.story):=by rw[hW4,sc_blk (Ne.symm hne2)];exact p3
 have hsz4:w.heap.size<=C:=Nat.le_of_lt z1
 have HB4:Hid (Below w.heap.size w W4):=Lib.hid (by rw[hW4];exact HB3.out.setCell (by show w.heap.size<=C+1+1;omega) _)
 have HEM4:Hid (W4.heap[C]?=some (.map #[] 0)):=Lib.hid (by rw[hW4,Below.heap_setCell _ _ _ _ (by show C≠C+1+1;omega)];exact HEM.out)
 have HCM4:Hid (W4.heap[C+1]?=some (.map #[] 0)):=Lib.hid (by rw[hW4,Below.heap_setCell _ _ _ _ (by show C+1≠C+1+1;omega)];exact HCM.out)
 have HST4:Hid (W4.heap[C+1+1]?=some (.cells #[.int .i64 f.f.story,.string ⟨#[]⟩,.slice none 0 0,.slice none 0 0,.int .i64 0,.slice none 0 0,.bool false,.bool false,.bool false,.map (some C),.map (some (C+1))] 107 (0,0))):=Lib.hid (by rw[hW4];exact blk_set HST.out)
 have hk4:KMap Tryz.prog 3 W4.drew bS n gS:=(HK.out.below HB4.out hbS).drew
 obtain⟨W5,hr5,hk5,hg5⟩:=hk4.store K_int Tryz.underlying94 (by unfold maxLen;omega) (key_int hid) (.pointer (some ⟨C+1+1,0,none⟩))
 have HK5:=Lib.hid hk5
 have HG5:=Lib.hid hg5
 clear hW4 p0 p3 n0 n1 hne hne2 hk4 hk5 hg5 HB3 HEM HCM HST
 go_still_tail 7,(by kernel_rfl)
 go_wp2_with fail
 go_ret
 exact new_post H.out hid hT HA.out b1 b2 HB4'.out HB5'.out HA3.out HB4.out HEM4.out HCM4.out HST4.out hsz4 HG5.out HK5.out
theorem of_any (h:FoldIn own mem B w sb N ps T G L) (f:FctE) (hid:okI f.f.story) (hN:N<=100000):
 Calls Tryz.prog 109 #[.pointer (some ⟨sb,0,none⟩),.agg f.cells] w (OfPost own mem B w sb N T G L f.f.story):=by
 by_cases hT:T f.f.story
 ·exact of_old h f hid hT
 ·exact of_new h f hid hT hN
end
end Go.Proofs.YtdkkhmjlamkgdaaGreatDoor

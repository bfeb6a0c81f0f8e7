/-
  The canonical machine, part E: slices: what they hold, append, slicing, copy, make, len.
-/
import Derived.Test.YtidejmkknleijaaGreatDoorFa
import Derived.Lib.IndexBytes
import Derived.Laws.BytesString
import Derived.Lib.ConvBytes
set_option linter.unusedVariables false
set_option linter.unusedSimpArgs false
set_option linter.unnecessarySimpa false
namespace Go.bY
open Go
section
variable {P:Program} {w:World} {R:Nat->Prop} {B:Nat} {h:aM} {μ:cg}
theorem pC {α:Type} {z:Nat}:∀ {es:List (List α)},(∀ e,e∈es->e.length=z)->es.flatten.length=es.length*z
 | [],_=>by simp
 | e::es,ax=>by
  rw[atW,as8,ax e (by simp),pC (fun e am=>ax e (by simp[am])),atk,atL,Nat.add_comm]
theorem RV {α:Type} {z:Nat}:∀ {es:List (List α)} {j:Nat} {c:α},(∀ e,e∈es->e.length=z)->es.flatten[j]? = some c->
  ∃ i k e,j=i*z+k/\k<z/\es[i]? = some e/\e[k]? = some c
 | [],_,_,_,ai=>by simp at ai
 | e::es,j,c,ax,ai=>by
  have am:=ax e (by simp);rw[atW] at ai;by_cases aK:j<e.length
  ·rw[as2 aK] at ai;exact⟨0,j,e,by simp,by omega,rfl,ai⟩
  ·rw[atl (by omega)] at ai;obtain⟨i,k,fy,ad,ae,aj,aF⟩:=RV (fun e am=>ax e (by simp[am])) ai;exact⟨i+1,k,fy,by rw[atL]; omega,ae,by simpa using aj,aF⟩
def s6 (w:World) (R:Nat->Prop) (h:aM) (μ:cg) (xs:List U) (vs:List Value) :Prop:=
 vs.length=xs.length/\∀ (j:Nat) (c:U),xs[j]? = some c->∃ v:Value,vs[j]? = some v/\v.oneCell'=true/\aN w R h μ c v
theorem Nr {w2:World} {xs:List U} {blk o:Nat} (mE:∀ a,w2.cell? a=w.cell? a)
  (ag:∀ (j:Nat) (c:U),xs[j]? = some c->∃ v:Value,w.cell? ⟨blk,o+j,none⟩=some v/\v.oneCell'=true/\aN w R h μ c v) :
  ∃ vs:List Value,s6 w R h μ xs vs/\∀ k,k<=xs.length->∀ w2:World,(∀ a,w2.cell? a=w.cell? a)->(loadCells ⟨blk,o,none⟩ k).run P w2=.ok (vs.take k).toArray w2:=by
 have ap:∃ f:Nat->Value,∀ (j:Nat) (c:U),xs[j]? = some c->w.cell? ⟨blk,o+j,none⟩=some (f j)/\(f j).oneCell'=true/\aN w R h μ c (f j) :=by
  refine⟨fun j=>(w.cell? ⟨blk,o+j,none⟩).getD undef,fun j c ai=>?_⟩;obtain⟨v,ad,ae,aj⟩:=ag j c ai;simp only[ad,atM];exact⟨trivial,ae,aj⟩
 obtain⟨f,aE⟩:=ap;refine⟨(List.range xs.length).map f,⟨by simp,fun j c ai=>?_⟩,fun k ar w2 l9=>?_⟩
 ·have aK:j<xs.length:=(as0.1 ai).1;exact⟨f j,by simp[aK],(aE j c ai).2⟩
 ·have:=run_loadCells_list (P:=P) w2 ⟨blk,o,none⟩ (((List.range xs.length).map f).take k) (fun j v ai=>by
   have gG:j<k:=by
    rcases aub j k with ad | ad
    ·exact ad
    ·rw[atd (by simp; omega)] at ai; cases ai
   rw[atp gG,as5] at ai;have jM:j<xs.length:=by omega
   rw[atC jM] at ai;simp only[as9,Option.some.injEq] at ai;rw[Addr.mq,<-ai,l9];exact (aE j _ (as4 jM)).1)
  have al:(((List.range xs.length).map f).take k).length=k:=by simp; omega
  rw[al] at this;exact this
theorem vi (rel:bI R B w h μ) {z n:Nat} {x:U} {bF:Value} {xs:List U} (ah:contents h z x=some (xs,n)) (ag:aN w R h μ x bF) :
  xs.length=n*z/\(Builtin.lenOf bF).run P w=.ok n w/\∃ vs:List Value,s6 w R h μ xs vs ∧
   ∀ k,k<=n->∀ w2:World,(∀ a,w2.cell? a=w.cell? a)->(Builtin.firstCells z k bF).run P w2=.ok (vs.take (k*z)).toArray w2:=by
 cases ag with
 | aH=>
  simp only[contents,Option.some.injEq,Prod.mk.injEq] at ah;obtain⟨rfl,rfl⟩:=ah;exact⟨by simp,by simp[Builtin.lenOf],[],⟨rfl,fun j c ai=>by simp at ai⟩,fun k _ w2 _=>by simp[Builtin.firstCells]⟩
 | str bs=>
  simp only[contents] at ah;split at ah
  ·rename_i ax; subst ax;simp only[Option.some.injEq,Prod.mk.injEq] at ah;obtain⟨rfl,rfl⟩:=ah;refine⟨by simp,by simp[Builtin.lenOf],bs.data.toList.map fun b=>.int .u8 b.toNat,⟨by simp,fun j c ai=>?_⟩,fun k ar w2 _=>?_⟩
   ·rw[as5] at ai ⊢;cases af:bs.data.toList[j]? with
    | none=>rw[af] at ai; cases ai
    | some b=>
     rw[af] at ai;simp only[as9,Option.some.injEq] at ai;subst ai;exact⟨_,rfl,rfl,.int _ _⟩
   ·have ag:(bs.extract 0 k).data.toList=bs.data.toList.take k:=by
     simp[ByteArray.extract,ByteArray.copySlice]
    have aJ:(bs.extract 0 k).data=(bs.data.toList.take k).toArray:=by rw[<-ag]
    simp only[Builtin.firstCells,aJ];simp
  ·cases ah
 | aX du es blk off cap ez al ax mE ap=>
  simp only[contents] at ah;split at ah
  ·rename_i tW; subst tW;simp only[Option.some.injEq,Prod.mk.injEq] at ah;obtain⟨rfl,rfl⟩:=ah;have bD:=pC ax;have cJ:∀ (j:Nat) (c:U),es.flatten[j]? = some c->∃ v:Value,w.cell? ⟨blk,off+j,none⟩=some v/\v.oneCell'=true/\aN w R h μ c v:=by
    intro j c ai;obtain⟨i,k,e,rfl,ar,am,adK⟩:=RV ax ai;have az:i<es.length:=(as0.1 am).1;have dn:=mE i k az ar;exact⟨ez i k,dn.here,dn.one,ap i e am k c adK⟩
   obtain⟨vs,ad,ae⟩:=Nr (P:=P) (w2:=w) (fun _=>rfl) cJ;refine⟨bD,by simp[Builtin.lenOf],vs,ad,fun k ar w2 l9=>?_⟩;have:=ae (k*z) (by rw[bD]; exact as6 _ ar) w2 l9;simp[Builtin.firstCells,this]
  ·cases ah
 | fZ du a cap=>
  simp only[contents] at ah;split at ah
  ·simp only[Option.some.injEq,Prod.mk.injEq] at ah;obtain⟨rfl,rfl⟩:=ah;exact⟨by simp,by simp[Builtin.lenOf],[],⟨rfl,fun j c ai=>by simp at ai⟩,fun k ar w2 _=>by
    obtain rfl:k=0:=by simpa using ar
    simp[Builtin.firstCells,loadCells,loadCellsFrom]⟩
  ·cases ah
 | aq du b off len cap sz cap' cs m af hm al au di=>
  simp only[contents,af,true_and] at ah;split at ah
  ·rename_i tW; subst tW;simp only[Option.some.injEq,Prod.mk.injEq] at ah;obtain⟨rfl,rfl⟩:=ah;have ed:=rel.blk b m hm;rw[af] at ed;obtain⟨ad,ae,arr,t,eU,aj,aF,a6,bu⟩:=ed;have tM:len*z<=cap*z:=as6 _ al;have bD:((cs.drop off).take (len*z)).length=len*z:=by
    rw[ati,at7]; omega
   have cJ:∀ (j:Nat) (c:U),((cs.drop off).take (len*z))[j]? = some c->∃ v:Value,w.cell? ⟨m.r,(m.s+off)+j,none⟩=some v/\v.oneCell'=true/\aN w R h μ c v:=by
    intro j c ai;have aK:j<len*z:=by
     have:=(as0.1 ai).1;rw[bD] at this; exact this
    rw[atp aK,atH] at ai;obtain⟨v,a2,bd,b4⟩:=bu _ c ai;exact⟨v,by simp[World.cell?,aj,auA,a2],bd,b4⟩
   obtain⟨vs,bU,b8⟩:=Nr (P:=P) (w2:=w) (fun _=>rfl) cJ;refine⟨bD,by simp[Builtin.lenOf],vs,bU,fun k ar w2 l9=>?_⟩;have:=b8 (k*z) (by rw[bD]; exact as6 _ ar) w2 l9;simp[Builtin.firstCells,this]
  ·cases ah
 | iN du b off sz a cs m af hm=>
  simp only[contents,af,true_and] at ah;split at ah
  ·rename_i tW; subst tW;simp only[Option.some.injEq,Prod.mk.injEq,avb,aui] at ah;obtain⟨rfl,rfl⟩:=ah;exact⟨by simp,by simp[Builtin.lenOf],[],⟨rfl,fun j c ai=>by simp at ai⟩,fun k ar w2 _=>by
    obtain rfl:k=0:=by simpa using ar
    simp[Builtin.firstCells,loadCells,loadCellsFrom]⟩
  ·cases ah
 | ht du b off len cap sz cap' a al S0 aw=>
  unfold contents at ah;rcases aw with aw | ⟨hs,cs',aw,aK⟩
  ·simp[aw] at ah
  ·simp only[aw] at ah;split at ah
   ·omega
   ·cases ah
 | _=>simp[contents] at ah
theorem B1 {t e:TypeId} (am:iT P t=some e) :P.underlying t=some (.slice e) :=by
 unfold iT at am;split at am
 ·rename_i fy aL; cases am; exact aL
 ·cases am
def AI (P:Program) (u:TypeId) :Prop:=∃ d,P.underlying u=some d/\∀ k,d≠.int k
theorem UF (d:TypeDesc) (ar:∀ k,d≠.int k) :(match d with | .int _=>true | _=>false)=false:=by
 cases d with
 | int k=>exact absurd rfl (ar k)
 | _=>rfl
theorem run_append_fits {t u ty e:TypeId} {z n sLen g5:Nat} {base:Option Addr} {bF:Value} {vs:List Value} {w' : World} (am:P.underlying t=some (.slice e)) (ax:cu P e=some z) (aL:AI P u)
  (al:(Builtin.lenOf bF).run P w=.ok n w) (aE:(Builtin.firstCells z n bF).run P w=.ok vs.toArray w) (eh:sLen+n<=g5)
  (b3:match base with | some a=>(storeCells (a.add (sLen*z)) vs).run P w=.ok () w' | none=>w'=w) :
  (Builtin.append_ #[t,u] ty #[.slice base sLen g5,bF]).run P w=.ok (.slice base (sLen+n) g5) w':=by
 obtain⟨d,bb,ar⟩:=aL;have vx:=UF d ar;cases base with
 | none=>
  subst b3;simp[Builtin.append_,cr am,fD ax,cr bb,vx,al,eh,aE]
 | some a=>
  simp only at b3;simp[Builtin.append_,cr am,fD ax,cr bb,vx,al,eh,aE,b3]
theorem aki {t u ty e:TypeId} {i:TypeInfo} {zv:Value} {n sLen g5:Nat} {base:Option Addr} {bF:Value} {fM vs:List Value} (am:P.underlying t=some (.slice e)) (az:P.info? e=some i) (lP:i.zero=some zv) (aL:AI P u)
  (al:(Builtin.lenOf bF).run P w=.ok n w) (aE:(Builtin.firstCells i.size n bF).run P w.drew=.ok vs.toArray w.drew) (au:(Builtin.firstCells i.size sLen (.slice base sLen g5)).run P w.drew=.ok fM.toArray w.drew)
  (pP:g5<sLen+n) (dy:(sLen+n)*i.bytes<=ct) (af:0<i.bytes) :
  (Builtin.append_ #[t,u] ty #[.slice base sLen g5,bF]).run P w =
   .ok (.slice (some ⟨w.heap.size,0,none⟩) (sLen+n) (grownCap w (sLen+n) g5 e)) (w.drew.alloc (.cells ((fM++vs).toArray++Builtin.zeroCells zv.cells (grownCap w (sLen+n) g5 e - (sLen+n))) e)) :=by
 obtain⟨d,bb,ar⟩:=aL;have vx:=UF d ar;have ax:cu P e=some i.size:=by simp[cu,az]
 have aC:¬ (sLen+n<=g5) :=by omega
 have vp:¬ (281474976710656<Builtin.nextslicecap (sLen+n) g5*i.bytes) :=by
  have:=growslice_fits pP dy;omega
 have l8:¬ (i.bytes=0) :=by omega
 simp[Builtin.append_,cr am,fD ax,cr bb,vx,al,aC,typeInfo,az,vp,l8,Question.forced,au,aE,zeroValue,lP,newRow,grownCap];rw[<-avc,List.append_toArray fM vs]
theorem c5.drew {h' : aM} {μ' : cg} {w' : World} (e:c5 w h μ w' h' μ') :c5 w h μ w' h' μ':=e
theorem akN {s:U} {mV:Value} (ak:aN w R h μ s mV) (ar:s=.aH\/(∃ z es,s=.aX z es)\/∃ z b off len cap sz,s=.aq z b off len cap sz) :
  ∃ base sLen g5,mV=.slice base sLen g5/\sLen<=g5:=by
 cases ak<;>simp at ar
 ·exact⟨_,_,_,rfl,as3 _⟩
 ·rename_i al au dn;exact⟨_,_,_,rfl,by omega⟩
 ·rename_i al S0 aw;exact⟨_,_,_,rfl,by omega⟩
 ·exact⟨_,_,_,rfl,as3 _⟩
 ·rename_i al ax ah ap;exact⟨_,_,_,rfl,by omega⟩
 ·exact⟨_,_,_,rfl,auc _⟩
theorem YO {e:TypeId} {z:Nat} (ax:sU P e=some z) :∃ i v,P.info? e=some i/\i.zero=some v/\v.cells.size=z:=by
 unfold sU at ax;cases az:P.info? e with
 | none=>rw[az] at ax; cases ax
 | some i=>
  rw[az] at ax;simp only[auI] at ax;cases ap:i.zero with
  | none=>rw[ap] at ax; cases ax
  | some v=>rw[ap] at ax; exact⟨i,v,rfl,ap,by simpa using ax⟩
theorem Cn {e:TypeId} {zv:Value} {z need cap:Nat} {xs:List U} {vs:List Value} (ax:zv.cells.size=z) (al:xs.length=need*z) (jb:s6 w R h μ xs vs) (di:need<=cap) :
  (vs.toArray++Builtin.zeroCells zv.cells (cap - need)).size=cap*z ∧
  ∀ (j:Nat) (c:U),xs[j]? = some c->∃ v:Value,(vs.toArray++Builtin.zeroCells zv.cells (cap - need))[j]? = some v/\v.oneCell'=true/\aN w R h μ c v:=by
 refine⟨?_,fun j c ai=>?_⟩
 ·have ad:(Builtin.zeroCells zv.cells (cap - need)).size=(cap - need)*z:=by simp[Builtin.zeroCells,ax]
  have ae:need*z+(cap - need)*z=cap*z:=by rw[<-atQ]; congr 1; omega
  rw[avK,ad,avL,jb.1,al,ae]
 ·obtain⟨v,ad,ae,aj⟩:=jb.2 j c ai;have aK:j<vs.length:=(as0.1 ad).1;refine⟨v,?_,ae,aj⟩;rw[aua (by simpa using aK)];simpa using ad
theorem OV (rel:bI R B w h μ) {t u ty e:TypeId} {z by_ n:Nat} {s c:U} {mV bF:Value} {h' : aM} {xs:List U} {vs:List Value} (ax:cu P e=some z) (dI:kv P e=some by_)
  (aB:uV P h e z by_ s xs n=some (c,h')) (ak:aN w R h μ s mV) (bn:xs.length=n*z) (cJ:s6 w R h μ xs vs)
  (Gp:∀ (base:Option Addr) (sLen g5:Nat) (w' : World),sLen+n<=g5->(match base with | some a=>(storeCells (a.add (sLen*z)) vs).run P w=.ok () w' | none=>w'=w)->
   (Builtin.append_ #[t,u] ty #[.slice base sLen g5,bF]).run P w=.ok (.slice base (sLen+n) g5) w')
  (CT:∀ (i:TypeInfo) (zv:Value),P.info? e=some i->i.zero=some zv->∀ (base:Option Addr) (sLen g5:Nat) (fM:List Value),(Builtin.firstCells i.size sLen (.slice base sLen g5)).run P w.drew=.ok fM.toArray w.drew->
   g5<sLen+n->(sLen+n)*i.bytes<=ct->0<i.bytes->(Builtin.append_ #[t,u] ty #[.slice base sLen g5,bF]).run P w =
   .ok (.slice (some ⟨w.heap.size,0,none⟩) (sLen+n) (grownCap w (sLen+n) g5 e)) (w.drew.alloc (.cells ((fM++vs).toArray++Builtin.zeroCells zv.cells (grownCap w (sLen+n) g5 e - (sLen+n))) e))) :
  ∃ v w' μ',(Builtin.append_ #[t,u] ty #[mV,bF]).run P w=.ok v w'/\c5 w h μ w' h' μ'/\bI R B w' h' μ'/\aN w' R h' μ' c v:=by
 unfold uV at aB;by_cases aC:n=0
 ·-- nothing is appended
  subst aC;simp only[if_true] at aB;have cY:(c,h')=(s,h) :=by
   split at aB<;>first | (simp only[Option.some.injEq] at aB; exact aB.symm) | cases aB
  have ar:s=.aH\/(∃ z es,s=.aX z es)\/∃ z b off len cap sz,s=.aq z b off len cap sz:=by
   split at aB
   ·exact .inl rfl
   ·exact .inr (.inl ⟨_,_,rfl⟩)
   ·exact .inr (.inr ⟨_,_,_,_,_,_,rfl⟩)
   ·cases aB
  simp only[Prod.mk.injEq] at cY;obtain⟨rfl,rfl⟩:=cY;obtain⟨base,sLen,g5,rfl,dY⟩:=akN ak ar;have jP:vs=[] :=by
   have:vs.length=0:=by rw[cJ.1,bn]; simp
   exact atI.1 this
  subst jP;have:=Gp base sLen g5 w (by omega) (by cases base<;>simp[storeCells]);exact⟨_,w,μ,this,.refl _ _ _,rel,by simpa using ak⟩
 ·rw[if_neg aC] at aB;split at aB
  ·cases aB
  ·rename_i jJ;simp only[not_or,Decidable.not_not] at jJ;obtain⟨sn,n4,h9⟩:=jJ;obtain⟨i,zv,az,lP,jR⟩:=YO h9;have q7:i.size=z:=by simpa [cu,az] using ax
   have l8:i.bytes=by_:=by simpa [kv,az] using dI
   have afQ:0<z:=Nat.pos_of_ne_zero sn;have KA:∀ a,w.drew.cell? a=w.cell? a:=fun _=>rfl
   split at aB
   ·-- append to nil
    split at aB
    ·rename_i dy;simp only[Option.some.injEq,Prod.mk.injEq] at aB;obtain⟨rfl,rfl⟩:=aB;cases ak;have aw:=CT i zv az lP none 0 0 [] (by simp[Builtin.firstCells]) (by omega) (by rw[l8]; simpa using dy) (by omega);have di:n<=grownCap w (0+n) 0 e:=by have:=grownCap_ge w (0+n) 0 e; omega
     obtain⟨ke,nr⟩:=Cn (e:=e) (zv:=zv) (need:=n) (cap:=grownCap w (0+n) 0 e) jR (by rw[bn]) cJ di;have av:=rel.push (w':=w.drew.alloc (.cells (vs.toArray++Builtin.zeroCells zv.cells (grownCap w (0+n) 0 e - n)) e)) xs _ e rfl rfl rfl rfl (by rw[ke,bn]; exact as6 _ di) nr;rw[bn] at av;refine⟨_,_,_,by simpa using aw,by simpa using av.1,by simpa using av.2,?_⟩;have:=aN.aq (w:=w.drew.alloc (.cells (vs.toArray++Builtin.zeroCells zv.cells (grownCap w (0+n) 0 e - n)) e)) (R:=R) (h:=h.push (.cells (n*z) xs)) (μ:=bw μ h.n (some ⟨w.heap.size,0,(vs.toArray++Builtin.zeroCells zv.cells (grownCap w (0+n) 0 e - n)).size⟩))
      z h.n 0 n n (n*z) (grownCap w (0+n) 0 e) xs ⟨w.heap.size,0,(vs.toArray++Builtin.zeroCells zv.cells (grownCap w (0+n) 0 e - n)).size⟩ (by simp[eb,ft]) (by simp) (as3 _) (by omega) (.inr ⟨by omega,di,by simp only; rw[ke]; omega⟩)
     simpa using this
    ·cases aB
   ·rename_i du b off len cap sz;cases af:h.f b with
    | cells m cs=>
     rw[af] at aB;simp only at aB;split at aB
     ·rename_i CL;obtain⟨rfl,rfl,dy⟩:=CL;cases ak with
      | ht _ _ _ _ _ _ cap' a al S0 aw=>
       exfalso;rcases aw with aw | ⟨hs,cs',aw,aK⟩
       ·rw[aw] at af; cases af
       ·rw[aw] at af; cases af; omega
      | iN _ _ _ _ a cs' b9 bJ hm=>
       rw[af] at bJ; cases bJ;have oR:=rel.m4 hm;rw[if_neg (by omega),avb,aui,aui,at1,aue] at aB;have aw:=CT i zv az lP (some a) 0 0 [] (by simp[Builtin.firstCells,loadCells,loadCellsFrom]) (by omega) (by rw[l8]; exact dy) (by omega);rw[aue] at aw;have di:n<=grownCap w n 0 e:=grownCap_ge _ _ _ _;obtain⟨ke,nr⟩:=Cn (e:=e) (zv:=zv) (need:=n) (cap:=grownCap w n 0 e) jR (by rw[bn]) cJ di;split at aB
       ·simp only[Option.some.injEq,Prod.mk.injEq] at aB;obtain⟨rfl,rfl⟩:=aB;have av:=rel.push (w':=w.drew.alloc (.cells (vs.toArray++Builtin.zeroCells zv.cells (grownCap w n 0 e - n)) e)) xs _ e rfl rfl rfl rfl (by rw[ke,bn]; exact as6 _ di) nr;rw[bn] at av;refine⟨_,_,_,by simpa using aw,by simpa using av.1,by simpa using av.2,?_⟩;have:=aN.aq (w:=w.drew.alloc (.cells (vs.toArray++Builtin.zeroCells zv.cells (grownCap w n 0 e - n)) e)) (R:=R) (h:=h.push (.cells (n*z) xs)) (μ:=bw μ h.n (some ⟨w.heap.size,0,(vs.toArray++Builtin.zeroCells zv.cells (grownCap w n 0 e - n)).size⟩))
         z h.n 0 n n (n*z) (grownCap w n 0 e) xs ⟨w.heap.size,0,(vs.toArray++Builtin.zeroCells zv.cells (grownCap w n 0 e - n)).size⟩ (by simp[eb,ft]) (by simp) (as3 _) (by omega) (.inr ⟨by omega,di,by simp only; rw[ke]; omega⟩)
        simpa using this
       ·rename_i CR;split at aB
        ·rename_i GN;subst GN;simp only[Option.some.injEq,Prod.mk.injEq] at aB;obtain⟨rfl,rfl⟩:=aB;have r6:m<n*z:=by
          have:1*1<=n*z:=Nat.mul_le_mul (by omega) afQ;omega
         have av:=rel.move (w':=w.drew.alloc (.cells (vs.toArray++Builtin.zeroCells zv.cells (grownCap w n 0 e - n)) e)) af hm rfl rfl rfl rfl bn r6 (by rw[ke]; exact as6 _ di) nr;refine⟨_,_,_,by simpa using aw,by simpa using av.1,by simpa using av.2,?_⟩;have:=aN.aq (w:=w.drew.alloc (.cells (vs.toArray++Builtin.zeroCells zv.cells (grownCap w n 0 e - n)) e)) (R:=R) (h:=h.set b (.cells (n*z) xs)) (μ:=bw μ b (some ⟨w.heap.size,0,(vs.toArray++Builtin.zeroCells zv.cells (grownCap w n 0 e - n)).size⟩))
          z b 0 n n (n*z) (grownCap w n 0 e) xs ⟨w.heap.size,0,(vs.toArray++Builtin.zeroCells zv.cells (grownCap w n 0 e - n)).size⟩ (by simp[dM,eS]) (by simp) (as3 _) (by omega) (.inr ⟨by omega,di,by simp only; rw[ke]; omega⟩)
         simpa using this
        ·simp only[Option.some.injEq,Prod.mk.injEq] at aB;obtain⟨rfl,rfl⟩:=aB;have av:=rel.push (w':=w.drew.alloc (.cells (vs.toArray++Builtin.zeroCells zv.cells (grownCap w n 0 e - n)) e)) xs _ e rfl rfl rfl rfl (by rw[ke,bn]; exact as6 _ di) nr;rw[bn] at av;have ar:=av.2.kill (b:=b) (sz:=m) (cs:=cs) (h':=(h.set b .dead).push (.cells (n*z) xs)) (by rw[eb,b1 _ _ _ _ (by omega)]; exact af) (by rw[ft]; omega) (by
          rw[eb,eb,dM,eS];funext x;simp only[bw];by_cases ad:x=h.n
          ·rw[if_pos ad,if_neg (by omega),if_pos ad]
          ·rw[if_neg ad];split<;>rfl) rfl
         refine⟨_,_,_,by simpa using aw,by simpa using av.1.trans ar.1,by simpa using ar.2,?_⟩;have:=aN.aq (w:=w.drew.alloc (.cells (vs.toArray++Builtin.zeroCells zv.cells (grownCap w n 0 e - n)) e)) (R:=R) (h:=(h.set b .dead).push (.cells (n*z) xs)) (μ:=bw μ h.n (some ⟨w.heap.size,0,(vs.toArray++Builtin.zeroCells zv.cells (grownCap w n 0 e - n)).size⟩))
          z h.n 0 n n (n*z) (grownCap w n 0 e) xs ⟨w.heap.size,0,(vs.toArray++Builtin.zeroCells zv.cells (grownCap w n 0 e - n)).size⟩ (by rw[eb,eS,hB]) (by simp) (as3 _) (by omega) (.inr ⟨by omega,di,by simp only; rw[ke]; omega⟩)
         simpa using this
      | aq _ _ _ _ _ _ cap' cs' b9 bJ hm al au dn=>
       have ed:=rel.blk b b9 hm;rw[af] at ed;obtain⟨S1,eM,_⟩:=ed;rw[af] at bJ; cases bJ;have tM:len*z<=cap*z:=as6 _ al;have SY:cap<=cap':=by rcases dn with dn | dn<;>omega
       split at aB
       ·-- in place,within what the machine knows
        rename_i eh;simp only[Option.some.injEq,Prod.mk.injEq] at aB;obtain⟨rfl,rfl⟩:=aB;have TK:len*z+n*z<=cap*z:=by rw[<-atQ]; exact as6 _ eh
        have mK:max m (off+len*z+xs.length)=m:=by omega
        obtain⟨w',ad,ae,aj⟩:=yR (P:=P) rel (cvs:=xs) (vs:=vs) (k:=off+len*z) af hm (by omega) cJ.1 (by omega) cJ.2;rw[mK] at ae aj;have b3:(storeCells ((⟨b9.r,b9.s+off,none⟩:Addr).add (len*z)) vs).run P w=.ok () w':=by rw[Addr.mq,auA]; exact ad
        refine⟨_,w',μ,Gp (some ⟨b9.r,b9.s+off,none⟩) _ _ _ (by omega) b3,ae,aj,?_⟩;exact .aq z b off (len+n) cap m cap' _ b9 (by simp[dM,eS]; rfl) hm eh au dn
       ·rename_i apl;split at aB
        ·-- beyond a slice whose end lies within the row: it moves
         rename_i ao2;simp only[Option.some.injEq,Prod.mk.injEq] at aB;obtain⟨rfl,rfl⟩:=aB;have ef:cap'=cap:=by rcases dn with dn | dn<;>omega
         subst ef;have eg:contents h z (.aq z b off len cap' m)=some ((cs.drop off).take (len*z),len) :=by simp[contents,af]
         obtain⟨dF,_,fM,iq,C9⟩:=vi (P:=P) rel eg (aN.aq z b off len cap' m cap' cs b9 af hm al au dn);have x1:∀ w2:World,(∀ a,w2.cell? a=w.cell? a)->(Builtin.firstCells z len (.slice (some ⟨b9.r,b9.s+off,none⟩) len cap')).run P w2=.ok fM.toArray w2:=fun w2 la=>by
          have:=C9 len (as3 _) w2 la
          rwa [as1 (by rw[iq.1,dF]; exact as3 _)] at this
         have aw:=CT i zv az lP (some ⟨b9.r,b9.s+off,none⟩) len cap' fM (by rw[q7]; exact x1 w.drew KA) (by omega) (by rw[l8]; exact dy) (by omega);have di:len+n<=grownCap w (len+n) cap' e:=grownCap_ge _ _ _ _;have CI:s6 w R h μ ((cs.drop off).take (len*z)++xs) (fM++vs) :=by
          refine⟨by simp[iq.1,cJ.1],fun j c ai=>?_⟩;by_cases aK:j<((cs.drop off).take (len*z)).length
          ·rw[as2 aK] at ai;rw[as2 (by rw[iq.1]; exact aK)];exact iq.2 j c ai
          ·rw[atl (by omega)] at ai;rw[atl (by rw[iq.1]; omega),iq.1];exact cJ.2 _ c ai
         have fV:((cs.drop off).take (len*z)++xs).length=(len+n)*z:=by rw[as8,dF,bn,atQ]
         obtain⟨ke,nr⟩:=Cn (e:=e) (zv:=zv) (need:=len+n) (cap:=grownCap w (len+n) cap' e) jR fV CI di;have av:=rel.push (w':=w.drew.alloc (.cells ((fM++vs).toArray++Builtin.zeroCells zv.cells (grownCap w (len+n) cap' e - (len+n))) e)) _ _ e rfl rfl rfl rfl (by rw[ke,fV]; exact as6 _ di) nr;rw[fV] at av;refine⟨_,_,_,aw,av.1,av.2,?_⟩;have:=aN.aq (w:=w.drew.alloc (.cells ((fM++vs).toArray++Builtin.zeroCells zv.cells (grownCap w (len+n) cap' e - (len+n))) e)) (R:=R) (h:=h.push (.cells ((len+n)*z) ((cs.drop off).take (len*z)++xs))) (μ:=bw μ h.n (some ⟨w.heap.size,0,((fM++vs).toArray++Builtin.zeroCells zv.cells (grownCap w (len+n) cap' e - (len+n))).size⟩))
          z h.n 0 (len+n) (len+n) ((len+n)*z) (grownCap w (len+n) cap' e) _ ⟨w.heap.size,0,((fM++vs).toArray++Builtin.zeroCells zv.cells (grownCap w (len+n) cap' e - (len+n))).size⟩ (by simp[eb,ft]; rfl) (by simp) (as3 _) (by omega) (.inr ⟨by omega,di,by simp only; rw[ke]; omega⟩)
         simpa using this
        ·rename_i CR;split at aB
         ·-- beyond the row's end: in place,or it moves
          rename_i GN;subst GN;simp only[Option.some.injEq,Prod.mk.injEq] at aB;obtain⟨rfl,rfl⟩:=aB;obtain⟨adG,tC,S8⟩:0+cap*z=m/\cap<=cap'/\b9.s+0+cap'*z<=b9.T:=by rcases dn with dn | dn<;>omega
          have r6:m<(len+n)*z:=by
           have:(cap+1)*z<=(len+n)*z:=as6 _ (by omega);rw[atQ] at this;omega
          have afz:len*z+n*z=(len+n)*z:=by rw[atQ]
          by_cases eh:len+n<=cap'
          ·have aeH:(len+n)*z<=cap'*z:=as6 _ eh;have mK:max m (len*z+xs.length)=(len+n)*z:=by omega
           obtain⟨w',ad,ae,aj⟩:=yR (P:=P) rel (cvs:=xs) (vs:=vs) (k:=len*z) af hm (by omega) cJ.1 (by omega) cJ.2;rw[mK] at ae aj;have x7:bg cs (len*z) xs=cs.take (len*z)++xs:=by
            unfold bg;rw[atE (by omega),atB]
           rw[x7] at ae aj;have b3:(storeCells ((⟨b9.r,b9.s+0,none⟩:Addr).add (len*z)) vs).run P w=.ok () w':=by rw[Addr.mq,auA]; simpa using ad
           refine⟨_,w',μ,Gp (some ⟨b9.r,b9.s+0,none⟩) _ _ _ eh b3,ae,aj,?_⟩;exact .aq z b 0 (len+n) (len+n) ((len+n)*z) cap' _ b9 (by simp[dM,eS]; rfl) hm (as3 _) (by omega) (.inr ⟨by omega,eh,S8⟩)
          ·have eg:contents h z (.aq z b 0 len cap m)=some ((cs.drop 0).take (len*z),len) :=by simp[contents,af]
           obtain⟨dF,_,fM,iq,C9⟩:=vi (P:=P) rel eg (aN.aq z b 0 len cap m cap' cs b9 af hm al au dn);have x1:∀ w2:World,(∀ a,w2.cell? a=w.cell? a)->(Builtin.firstCells z len (.slice (some ⟨b9.r,b9.s+0,none⟩) len cap')).run P w2=.ok fM.toArray w2:=fun w2 la=>by
            have:=C9 len (as3 _) w2 la
            rwa [as1 (by rw[iq.1,dF]; exact as3 _)] at this
           rw[auf] at dF iq;have aw:=CT i zv az lP (some ⟨b9.r,b9.s+0,none⟩) len cap' fM (by rw[q7]; exact x1 w.drew KA) (by omega) (by rw[l8]; exact dy) (by omega);have di:len+n<=grownCap w (len+n) cap' e:=grownCap_ge _ _ _ _;have CI:s6 w R h μ (cs.take (len*z)++xs) (fM++vs) :=by
            refine⟨by simp[iq.1,cJ.1],fun j c ai=>?_⟩;by_cases aK:j<(cs.take (len*z)).length
            ·rw[as2 aK] at ai;rw[as2 (by rw[iq.1]; exact aK)];exact iq.2 j c ai
            ·rw[atl (by omega)] at ai;rw[atl (by rw[iq.1]; omega),iq.1];exact cJ.2 _ c ai
           have fV:(cs.take (len*z)++xs).length=(len+n)*z:=by rw[as8,dF,bn,atQ]
           obtain⟨ke,nr⟩:=Cn (e:=e) (zv:=zv) (need:=len+n) (cap:=grownCap w (len+n) cap' e) jR fV CI di;have av:=rel.move (w':=w.drew.alloc (.cells ((fM++vs).toArray++Builtin.zeroCells zv.cells (grownCap w (len+n) cap' e - (len+n))) e)) af hm rfl rfl rfl rfl fV r6 (by rw[ke]; exact as6 _ di) nr;refine⟨_,_,_,aw,av.1,av.2,?_⟩;have:=aN.aq (w:=w.drew.alloc (.cells ((fM++vs).toArray++Builtin.zeroCells zv.cells (grownCap w (len+n) cap' e - (len+n))) e)) (R:=R) (h:=h.set b (.cells ((len+n)*z) (cs.take (len*z)++xs))) (μ:=bw μ b (some ⟨w.heap.size,0,((fM++vs).toArray++Builtin.zeroCells zv.cells (grownCap w (len+n) cap' e - (len+n))).size⟩))
            z b 0 (len+n) (len+n) ((len+n)*z) (grownCap w (len+n) cap' e) _ ⟨w.heap.size,0,((fM++vs).toArray++Builtin.zeroCells zv.cells (grownCap w (len+n) cap' e - (len+n))).size⟩ (by simp[dM,eS]; rfl) (by simp) (as3 _) (by omega) (.inr ⟨by omega,di,by simp only; rw[ke]; omega⟩)
           simpa using this
         ·-- beyond the row's end,from a place within it: a block of its own,in place or moved
          rename_i GN;simp only[Option.some.injEq,Prod.mk.injEq] at aB;obtain⟨rfl,rfl⟩:=aB;obtain⟨adG,tC,S8⟩:off+cap*z=m/\cap<=cap'/\b9.s+off+cap'*z<=b9.T:=by rcases dn with dn | dn<;>omega
          have r6:m<off+(len+n)*z:=by
           have:(cap+1)*z<=(len+n)*z:=as6 _ (by omega);rw[atQ] at this;omega
          have afz:len*z+n*z=(len+n)*z:=by rw[atQ]
          have oR:=rel.m4 hm;by_cases eh:len+n<=cap'
          ·have aeH:(len+n)*z<=cap'*z:=as6 _ eh;have mK:max m (off+len*z+xs.length)=off+(len+n)*z:=by omega
           obtain⟨w',ad,ae,aj⟩:=yR (P:=P) rel (cvs:=xs) (vs:=vs) (k:=off+len*z) af hm (by omega) cJ.1 (by omega) cJ.2;rw[mK] at ae aj;have x7:(bg cs (off+len*z) xs).drop off=(cs.drop off).take (len*z)++xs:=by
            unfold bg;rw[atE (as:=cs) (by omega),atB,atY (by simp; omega),avk];congr 2; omega
           have b3:(storeCells ((⟨b9.r,b9.s+off,none⟩:Addr).add (len*z)) vs).run P w=.ok () w':=by rw[Addr.mq,auA]; exact ad
           have pY:=aj.W5 (b:=b) (off:=off) (m:=b9) (h':=(h.set b .dead).push (.cells ((len+n)*z) ((cs.drop off).take (len*z)++xs))) (by rw[dM,hB]) hm (by omega) (by
            rw[eb,dM,dM,eS,eS,x7];have:off+(len+n)*z - off=(len+n)*z:=by omega
            rw[this];funext x;simp only[bw];split
            ·rfl
            ·split<;>rfl) rfl
           refine⟨_,w',_,Gp (some ⟨b9.r,b9.s+off,none⟩) _ _ _ eh b3,ae.trans pY.1,pY.2,?_⟩;exact .aq z h.n 0 (len+n) (len+n) ((len+n)*z) cap' _ ⟨b9.r,b9.s+off,b9.T⟩ (by rw[eb,eS,hB]) (by rw[eS]; simp) (as3 _) (by omega) (.inr ⟨by omega,eh,by simpa using (by omega:b9.s+off+cap'*z<=b9.T)⟩)
          ·have eg:contents h z (.aq z b off len cap m)=some ((cs.drop off).take (len*z),len) :=by simp[contents,af]
           obtain⟨dF,_,fM,iq,C9⟩:=vi (P:=P) rel eg (aN.aq z b off len cap m cap' cs b9 af hm al au dn);have x1:∀ w2:World,(∀ a,w2.cell? a=w.cell? a)->(Builtin.firstCells z len (.slice (some ⟨b9.r,b9.s+off,none⟩) len cap')).run P w2=.ok fM.toArray w2:=fun w2 la=>by
            have:=C9 len (as3 _) w2 la
            rwa [as1 (by rw[iq.1,dF]; exact as3 _)] at this
           have aw:=CT i zv az lP (some ⟨b9.r,b9.s+off,none⟩) len cap' fM (by rw[q7]; exact x1 w.drew KA) (by omega) (by rw[l8]; exact dy) (by omega);have di:len+n<=grownCap w (len+n) cap' e:=grownCap_ge _ _ _ _;have CI:s6 w R h μ ((cs.drop off).take (len*z)++xs) (fM++vs) :=by
            refine⟨by simp[iq.1,cJ.1],fun j c ai=>?_⟩;by_cases aK:j<((cs.drop off).take (len*z)).length
            ·rw[as2 aK] at ai;rw[as2 (by rw[iq.1]; exact aK)];exact iq.2 j c ai
            ·rw[atl (by omega)] at ai;rw[atl (by rw[iq.1]; omega),iq.1];exact cJ.2 _ c ai
           have fV:((cs.drop off).take (len*z)++xs).length=(len+n)*z:=by rw[as8,dF,bn,atQ]
           obtain⟨ke,nr⟩:=Cn (e:=e) (zv:=zv) (need:=len+n) (cap:=grownCap w (len+n) cap' e) jR fV CI di;have av:=rel.push (w':=w.drew.alloc (.cells ((fM++vs).toArray++Builtin.zeroCells zv.cells (grownCap w (len+n) cap' e - (len+n))) e)) _ _ e rfl rfl rfl rfl (by rw[ke,fV]; exact as6 _ di) nr;rw[fV] at av;have ar:=av.2.kill (b:=b) (sz:=m) (cs:=cs) (h':=(h.set b .dead).push (.cells ((len+n)*z) ((cs.drop off).take (len*z)++xs))) (by rw[eb,b1 _ _ _ _ (by omega)]; exact af) (by rw[ft]; omega) (by
            rw[eb,eb,dM,eS];funext x;simp only[bw];by_cases ad:x=h.n
            ·rw[if_pos ad,if_neg (by omega),if_pos ad]
            ·rw[if_neg ad];split<;>rfl) rfl
           refine⟨_,_,_,aw,av.1.trans ar.1,ar.2,?_⟩;have:=aN.aq (w:=w.drew.alloc (.cells ((fM++vs).toArray++Builtin.zeroCells zv.cells (grownCap w (len+n) cap' e - (len+n))) e)) (R:=R) (h:=(h.set b .dead).push (.cells ((len+n)*z) ((cs.drop off).take (len*z)++xs))) (μ:=bw μ h.n (some ⟨w.heap.size,0,((fM++vs).toArray++Builtin.zeroCells zv.cells (grownCap w (len+n) cap' e - (len+n))).size⟩))
            z h.n 0 (len+n) (len+n) ((len+n)*z) (grownCap w (len+n) cap' e) _ ⟨w.heap.size,0,((fM++vs).toArray++Builtin.zeroCells zv.cells (grownCap w (len+n) cap' e - (len+n))).size⟩ (by rw[eb,eS,hB]) (by simp) (as3 _) (by omega) (.inr ⟨by omega,di,by simp only; rw[ke]; omega⟩)
           simpa using this
     ·cases aB
    | _=>rw[af] at aB; cases aB
   ·cases aB
theorem I7 (rel:bI R B w h μ) {t u ty:TypeId} {s x c:U} {mV bF:Value} {h' : aM} (aL:AI P u) (aB:rV P h t s x=some (c,h')) (ak:aN w R h μ s mV) (ag:aN w R h μ x bF) :
  ∃ v w' μ',(Builtin.append_ #[t,u] ty #[mV,bF]).run P w=.ok v w'/\c5 w h μ w' h' μ'/\bI R B w' h' μ'/\aN w' R h' μ' c v:=by
 unfold rV at aB;cases am:iT P t with
 | none=>rw[am] at aB; cases aB
 | some e=>
 have kG:=B1 am;rw[am] at aB;simp only at aB;cases ax:cu P e with
 | none=>rw[ax] at aB; cases aB
 | some z=>
 cases dI:kv P e with
 | none=>rw[ax,dI] at aB; cases aB
 | some by_=>
 rw[ax,dI] at aB;simp only at aB;cases ah:contents h z x with
 | none=>rw[ah] at aB; cases aB
 | some Of=>
 obtain⟨xs,n⟩:=Of;rw[ah] at aB;simp only at aB;obtain⟨bn,bD,vs,cJ,adP⟩:=vi (P:=P) rel ah ag;have lJ:∀ w2:World,(∀ a,w2.cell? a=w.cell? a)->(Builtin.firstCells z n bF).run P w2=.ok vs.toArray w2:=fun w2 la=>by
  have:=adP n (as3 _) w2 la
  rwa [as1 (by rw[cJ.1,bn]; exact as3 _)] at this
 refine OV rel ax dI aB ak bn cJ (fun base sLen g5 w' eh b3=>run_append_fits kG ax aL bD (lJ w (fun _=>rfl)) eh b3) (fun i zv az lP base sLen g5 fM au aw ay af=>?_);have q7:i.size=z:=by simpa [cu,az] using ax
 exact aki kG az lP aL bD (by rw[q7]; exact lJ w.drew (fun _=>rfl)) au aw ay af
end

section
variable {P:Program} {w:World} {R:Nat->Prop} {B:Nat} {h:aM} {μ:cg}
theorem y7 {x:U} {bF:Value} {y n ER:Nat} {code:BoundsCode} (af:ku x y=some n) (ag:aN w R h μ x bF) (aJ:y<=ER) :
  n<=y/\(Instr.sliceBound bF ER code).run P w=.ok n w:=by
 unfold ku at af;cases ag with
 | int k i=>
  simp only at af;split at af
  ·rename_i az;simp only[Option.some.injEq] at af;subst af;refine⟨by omega,?_⟩;have:(0<=i/\i<=(ER:Int)) :=⟨az.1,by omega⟩
   simp[Instr.sliceBound,asIntOf,this]
  ·cases af
 | _=>simp at af
def w6 (w:World) (R:Nat->Prop) (h:aM) (μ:cg) :Option U->Option Value->Prop
 | none,none=>True
 | some c,some v=>aN w R h μ c v
 | _,_=>False
theorem uZ {cG az cH:Option U} {rl gF v9:Option Value} {isS:Bool} {len cap cap' l m aR:Nat} (af:gV len cap cG az cH=some (l,aR,m)) (bD:len<=cap) (di:cap<=cap')
  (ad:w6 w R h μ cG rl) (ae:w6 w R h μ az gF) (aj:w6 w R h μ cH v9) :
  l<=aR/\aR<=m/\m<=cap/\(cH=none->m=cap)/\(Instr.sliceBounds isS len cap' rl gF v9).run P w=.ok (l,aR,if cH.isSome then m else cap') w:=by
 unfold gV at af;cases cH with
 | none=>
  cases v9 with
  | some v=>exact aj.elim
  | none=>
   simp only at af;cases az with
   | none=>
    cases gF with
    | some v=>exact ae.elim
    | none=>
     simp only at af;cases cG with
     | none=>
      cases rl with
      | some v=>exact ad.elim
      | none=>
       simp only[Option.some.injEq,Prod.mk.injEq] at af;obtain⟨rfl,rfl,rfl⟩:=af;exact⟨by omega,bD,as3 _,fun _=>rfl,by simp[Instr.sliceBounds]⟩
     | some c=>
      cases rl with
      | none=>exact ad.elim
      | some v=>
       simp only at af;cases al:ku c len with
       | none=>rw[al] at af; cases af
       | some l'=>
        rw[al] at af;simp only[Option.some.injEq,Prod.mk.injEq] at af;obtain⟨rfl,rfl,rfl⟩:=af;have ag:=y7 (P:=P) (code:=.sliceB) al ad (as3 _);exact⟨ag.1,bD,as3 _,fun _=>rfl,by simp[Instr.sliceBounds,ag.2]⟩
   | some BM=>
    cases gF with
    | none=>exact ae.elim
    | some al5=>
     simp only at af;cases xN:ku BM cap with
     | none=>rw[xN] at af; cases af
     | some h'=>
      rw[xN] at af;simp only at af;have ag:=y7 (P:=P) (code:=if isS then .sliceAcap else .sliceAlen) xN ae di;cases cG with
      | none=>
       cases rl with
       | some v=>exact ad.elim
       | none=>
        simp only[Option.some.injEq,Prod.mk.injEq] at af;obtain⟨rfl,rfl,rfl⟩:=af;exact⟨by omega,ag.1,as3 _,fun _=>rfl,by simp[Instr.sliceBounds,ag.2]⟩
      | some c=>
       cases rl with
       | none=>exact ad.elim
       | some v=>
        simp only at af;cases al:ku c h' with
        | none=>rw[al] at af; cases af
        | some l'=>
         rw[al] at af;simp only[Option.some.injEq,Prod.mk.injEq] at af;obtain⟨rfl,rfl,rfl⟩:=af;have aJ:=y7 (P:=P) (code:=.sliceB) al ad (as3 _);exact⟨aJ.1,ag.1,as3 _,fun _=>rfl,by simp[Instr.sliceBounds,ag.2,aJ.2]⟩
 | some aaE=>
  cases v9 with
  | none=>exact aj.elim
  | some asT=>
   simp only at af;cases hm:ku aaE cap with
   | none=>rw[hm] at af; cases af
   | some ch=>
    rw[hm] at af;simp only at af;have ag:=y7 (P:=P) (code:=if isS then .slice3Acap else .slice3Alen) hm aj di;cases az with
    | none=>cases af
    | some BM=>
     cases gF with
     | none=>exact ae.elim
     | some al5=>
      simp only at af;cases xN:ku BM ch with
      | none=>rw[xN] at af; cases af
      | some h'=>
       rw[xN] at af;simp only at af;have aJ:=y7 (P:=P) (code:=.slice3B) xN ae (as3 _);cases cG with
       | none=>
        cases rl with
        | some v=>exact ad.elim
        | none=>
         simp only[Option.some.injEq,Prod.mk.injEq] at af;obtain⟨rfl,rfl,rfl⟩:=af;exact⟨by omega,aJ.1,ag.1,(fun aE=>by cases aE),by simp[Instr.sliceBounds,ag.2,aJ.2]⟩
       | some c=>
        cases rl with
        | none=>exact ad.elim
        | some v=>
         simp only at af;cases al:ku c h' with
         | none=>rw[al] at af; cases af
         | some l'=>
          rw[al] at af;simp only[Option.some.injEq,Prod.mk.injEq] at af;obtain⟨rfl,rfl,rfl⟩:=af;have ax:=y7 (P:=P) (code:=.slice3C) al ad (as3 _);exact⟨ax.1,aJ.1,ag.1,(fun aE=>by cases aE),by simp[Instr.sliceBounds,ag.2,aJ.2,ax.2]⟩
theorem u7 {z:Nat}:∀ (n:Nat) (cs:List U),(l2 z n cs).length=n
 | 0,_=>rfl
 | n+1,cs=>by simp[l2,u7 n]
theorem Fu {z:Nat}:∀ (n:Nat) (cs:List U) (i:Nat),i<n->(l2 z n cs)[i]? = some ((cs.drop (i*z)).take z)
 | 0,_,_,h=>by omega
 | n+1,cs,0,_=>by simp[l2]
 | n+1,cs,i+1,h=>by
  simp only[l2,atJ];rw[Fu n _ i (by omega),avC];congr 3;rw[atL]; omega
theorem Xv (rel:bI R B w h μ) {z b off cap sz l aR m ch cap' : Nat} {cs:List U} {b9:M} {hasMax:Bool} (af:h.f b=.cells sz cs) (hm:μ b=some b9) (au:off+cap*z<=sz)
  (dn:(off+cap*z<sz/\cap'=cap)\/(off+cap*z=sz/\cap<=cap'/\b9.s+off+cap'*z<=b9.T)) (ad:l<=aR) (ae:aR<=m) (aj:m<=cap) (aF:hasMax=false->m=cap)
  (bR:ch=if hasMax then m else cap') (TF:m≠l) :
  aN w R h μ (.aq z b (off+l*z) (aR - l) (m - l) sz) (.slice (some ((⟨b9.r,b9.s+off,none⟩:Addr).add (l*z))) (aR - l) (ch - l)) :=by
 have ed:=rel.blk b b9 hm;rw[af] at ed;have eM:=ed.2.1;rw[Addr.mq,auA];have aQ:l*z+(m - l)*z=m*z:=by rw[<-atQ]; congr 1; omega
 have bx:m*z<=cap*z:=as6 _ aj;refine .aq z b _ _ _ sz _ cs b9 af hm (by omega) (by omega) ?_;cases hasMax with
 | false=>
  have z9:=aF rfl;have kB:ch=cap':=by simpa using bR
  rw[kB];rcases dn with ⟨a2,bd⟩ | ⟨a2,bd,b4⟩
  ·rw[<-z9] at a2 bd;exact .inl ⟨by omega,by omega⟩
  ·rw[<-z9] at a2 bd;refine .inr ⟨by omega,by omega,?_⟩;have fc:l*z+(cap' - l)*z=cap'*z:=by rw[<-atQ]; congr 1; omega
   omega
 | true=>
  have kB:ch=m:=by simpa using bR
  rw[kB];by_cases aK:off+l*z+(m - l)*z<sz
  ·exact .inl ⟨aK,rfl⟩
  ·exact .inr ⟨by omega,as3 _,by omega⟩
theorem extract_toList (s:ByteArray) (a b:Nat) :(s.extract a b).data.toList=(s.data.toList.drop a).take (b - a) :=by
 simp[ByteArray.extract,ByteArray.copySlice,List.take_drop]
theorem aN.akh (z:Nat) (p:Prop) [Decidable p] (a b:Addr) (cap:Nat) :aN w R h μ (.aX z []) (.slice (if p then some a else some b) 0 cap) :=by
 by_cases av:p
 ·rw[if_pos av]; exact .fZ _ _ _
 ·rw[if_neg av]; exact .fZ _ _ _
theorem aN.Xt (z b off len cap sz cap' : Nat) (p:Prop) [Decidable p] (a c9:Addr) (al:len<=cap) (ah:cap<=cap') (aw:w1 h b sz) :
  aN w R h μ (.aq z b off len cap sz) (.slice (if p then some a else some c9) len cap') :=by
 by_cases av:p
 ·rw[if_pos av]; exact .ht _ _ _ _ _ _ _ _ al ah aw
 ·rw[if_neg av]; exact .ht _ _ _ _ _ _ _ _ al ah aw
theorem akP (rel:bI R B w h μ) {t:TypeId} {x c:U} {bF:Value} {cG az cH:Option U} {rl gF v9:Option Value} (ak:Ew P t x cG az cH=some c) (ag:aN w R h μ x bF)
  (ad:w6 w R h μ cG rl) (ae:w6 w R h μ az gF) (aj:w6 w R h μ cH v9) :
  ∃ v,(Instr.sliceAt t bF rl gF v9).run P w=.ok v w/\aN w R h μ c v:=by
 unfold Ew at ak;split at ak
 ·-- an array behind its address
  rename_i n e aL;cases ax:cu P e with
  | none=>rw[ax] at ak; cases ak
  | some z=>
  cases af:gV n n cG az cH with
  | none=>rw[ax,af] at ak; cases ak
  | some ud=>
  obtain⟨l,aR,m⟩:=ud;rw[ax,af] at ak;simp only at ak;obtain⟨bU,b8,ei,hg,iH⟩:=uZ (P:=P) (isS:=false) af (as3 _) (as3 _) ad ae aj;have ad9:(if cH.isSome=true then m else n)=m:=by
   cases cH with
   | none=>simp[hg rfl]
   | some v=>simp
  rw[ad9] at iH;split at ak
  ·rename_i b off sz;split at ak
   ·rename_i eh;have Al:∃ a,bF=.pointer (some a) :=by cases ag<;>exact⟨_,rfl⟩
    obtain⟨a,rfl⟩:=Al;refine⟨_,by simp[Instr.sliceAt,cr aL,Instr.sureAddr,iH,fD ax]; rfl,?_⟩;split at ak
    ·rename_i kC;simp only[Option.some.injEq] at ak; subst ak;have:aR - l=0:=by omega
     rw[this];exact .fZ _ _ _
    ·rename_i kC;simp only[Option.some.injEq] at ak; subst ak;rw[if_neg kC];cases ag with
     | ptr _ _ _ cs b9 bJ hm=>
      exact Xv rel (cap:=m) (cap':=m) (hasMax:=true) bJ hm eh (by
       have ed:=rel.blk b b9 hm;rw[bJ] at ed;have eM:=ed.2.1;by_cases aK:off+m*z<sz
       ·exact .inl ⟨aK,rfl⟩
       ·exact .inr ⟨by omega,as3 _,by omega⟩) bU b8 (as3 _) (fun aE=>by cases aE) (by simp) kC
     | mT _ _ _ _ aw=>exact .ht _ _ _ _ _ _ _ _ (by omega) (as3 _) aw
   ·cases ak
  ·rename_i cs off;split at ak
   ·rename_i eh;simp only[Option.some.injEq] at ak; subst ak;cases ag with
    | bK _ _ blk o ez ah ap=>
     refine⟨_,by simp[Instr.sliceAt,cr aL,Instr.sureAddr,iH,fD ax]; rfl,?_⟩;have fm:aR*z<=n*z:=as6 _ (by omega);by_cases kC:m=l
     ·have aQ:aR - l=0:=by omega
      rw[aQ];exact .fZ _ _ _
     ·rw[if_neg kC,Addr.mq];have al:=u7 (z:=z) (aR - l) (cs.drop (off+l*z));have lF:∀ i,i<aR - l->∀ j,j<z->off+l*z+(i*z+j)<cs.length:=by
       intro i gF j ai;have:(l+i+1)*z<=aR*z:=as6 _ (by omega);rw[atQ,atQ] at this;omega
      have fI:∀ i fy,(l2 z (aR - l) (cs.drop (off+l*z)))[i]? = some fy->i<aR - l/\fy=((cs.drop (off+l*z)).drop (i*z)).take z:=by
       intro i fy gN;have gF:i<aR - l:=by
        have:=(as0.1 gN).1;omega
       rw[Fu _ _ _ gF] at gN;simp only[Option.some.injEq] at gN;exact⟨gF,gN.symm⟩
      have:=aN.aX (w:=w) (R:=R) (h:=h) (μ:=μ) z (l2 z (aR - l) (cs.drop (off+l*z))) blk (o+off+l*z) (m - l) (fun i j=>ez (off+l*z+(i*z+j))) (by omega)
       (fun fy gN=>by
        obtain⟨i,gF,rfl⟩:=List.getElem_of_mem gN;obtain⟨a2,bd⟩:=fI i _ (as4 gF);rw[bd,ati,at7,at7];have:(l+i+1)*z<=aR*z:=as6 _ (by omega);rw[atQ,atQ] at this;omega)
       (fun i j gF ai=>by
        have:=ah (off+l*z+(i*z+j)) (lF i (by omega) j ai);have fc:o+off+l*z+(i*z+j)=o+(off+l*z+(i*z+j)) :=by omega
        rw[fc]; exact this)
       (fun i fy gN j c ai=>by
        obtain⟨a2,rfl⟩:=fI i _ gN;have mH:j<z:=by
         have:=(as0.1 ai).1;rw[ati] at this; omega
        rw[atp mH,atH,atH,] at ai;exact ap _ c ai)
      rw[al] at this;exact this
   ·cases ak
  ·cases ak
 ·-- a slice
  rename_i e aL;split at ak
  ·rename_i z du b off len cap sz ax;split at ak
   ·rename_i tW; subst tW;cases af:gV len cap cG az cH with
    | none=>rw[af] at ak; cases ak
    | some ud=>
    obtain⟨l,aR,m⟩:=ud;rw[af] at ak;simp only[as9,Option.some.injEq] at ak;cases ag with
    | aq _ _ _ _ _ _ cap' cs b9 bJ hm al au dn=>
     have SY:cap<=cap':=by rcases dn with dn | dn<;>omega
     obtain⟨bU,b8,ei,hg,iH⟩:=uZ (P:=P) (isS:=true) af al SY ad ae aj;refine⟨_,by simp[Instr.sliceAt,Instr.slice,cr aL,iH,fD ax]; rfl,?_⟩;split at ak
     ·rename_i kC;subst ak;have:aR - l=0:=by omega
      rw[this];by_cases sn:(if cH.isSome=true then m else cap')=l
      ·rw[if_pos sn,sn,auZ];exact .iN _ _ _ _ _ _ b9 bJ hm
      ·rw[if_neg sn];cases cH with
       | some v=>exact absurd (by simpa using kC) sn
       | none=>
        have z9:=hg rfl;simp only[avd,auh,if_false] at sn ⊢;have ew:cap=l:=by omega
        have am:off+cap*z=sz/\cap<=cap'/\b9.s+off+cap'*z<=b9.T:=by rcases dn with dn | dn<;>omega
        have tM:l*z+(cap' - l)*z=cap'*z:=by rw[<-atQ]; congr 1; omega
        subst ew;rw[Addr.mq];have:=aN.aq (w:=w) (R:=R) (h:=h) (μ:=μ) z b (off+cap*z) 0 0 sz (cap' - cap) _ b9 bJ hm (as3 _) (by omega) (.inr ⟨by omega,by omega,by omega⟩)
        rwa [<-auA] at this
     ·rename_i kC;subst ak;have bV:¬ ((if cH.isSome=true then m else cap')=l) :=by
       cases cH with
       | none=>have:=hg rfl; simp; omega
       | some v=>simpa using kC
      rw[if_neg bV];exact Xv rel (hasMax:=cH.isSome) bJ hm au dn bU b8 ei (fun aE=>hg (by simpa using aE)) rfl kC
    | iN _ _ _ _ a cs b9 bJ hm=>
     obtain⟨bU,b8,ei,hg,iH⟩:=uZ (P:=P) (isS:=true) af (as3 0) (as3 0) ad ae aj;refine⟨_,by simp[Instr.sliceAt,Instr.slice,cr aL,iH,fD ax]; rfl,?_⟩;have mb:m=0:=by
      cases cH with
      | none=>exact hg rfl
      | some v=>simp at ei; omega
     have z6:l=0:=by omega
     have ad4:aR=0:=by omega
     subst mb z6 ad4;simp only[if_true] at ak;subst ak;simp;exact .iN _ _ _ _ _ _ b9 bJ hm
    | ht _ _ _ _ _ _ cap' a al dn aw=>
     obtain⟨bU,b8,ei,hg,iH⟩:=uZ (P:=P) (isS:=true) af al dn ad ae aj;refine⟨_,by simp[Instr.sliceAt,Instr.slice,cr aL,iH,fD ax]; rfl,?_⟩;split at ak
     ·rename_i kC;subst ak;have:aR - l=0:=by omega
      rw[this];exact aN.Xt _ _ _ _ _ _ _ _ _ _ (as3 _) (auc _) aw
     ·rename_i kC;subst ak;have dY:m<=(if cH.isSome=true then m else cap') :=by split<;>omega
      exact aN.Xt _ _ _ _ _ _ _ _ _ _ (by omega) (by omega) aw
   ·cases ak
  ·rename_i z du es ax;split at ak
   ·rename_i tW; subst tW;cases af:gV es.length es.length cG az cH with
    | none=>rw[af] at ak; cases ak
    | some ud=>
    obtain⟨l,aR,m⟩:=ud;rw[af] at ak;simp only[as9,Option.some.injEq] at ak;subst ak;cases ag with
    | aX _ _ blk off cap ez al Dt ah ap=>
     obtain⟨bU,b8,ei,hg,iH⟩:=uZ (P:=P) (isS:=true) af (as3 _) al ad ae aj;refine⟨_,by simp[Instr.sliceAt,Instr.slice,cr aL,iH,fD ax]; rfl,?_⟩;have bD:((es.drop l).take (aR - l)).length=aR - l:=by rw[ati,at7]; omega
     have dY:aR<=(if cH.isSome=true then m else cap) :=by
      cases cH with
      | none=>simp only[avd,auh,if_false]; omega
      | some v=>simpa using b8
     by_cases kC:(if cH.isSome=true then m else cap)=l
     ·have aQ:aR - l=0:=by omega
      rw[if_pos kC,aQ,aui];exact .fZ _ _ _
     ·rw[if_neg kC,Addr.mq];have fI:∀ i fy,((es.drop l).take (aR - l))[i]? = some fy->i<aR - l/\es[l+i]? = some fy:=by
       intro i fy gN;have gF:i<aR - l:=by
        have:=(as0.1 gN).1;omega
       rw[atp gF,atH] at gN;exact⟨gF,gN⟩
      have:=aN.aX (w:=w) (R:=R) (h:=h) (μ:=μ) z ((es.drop l).take (aR - l)) blk (off+l*z) ((if cH.isSome=true then m else cap) - l) (fun i j=>ez (l+i) j) (by omega)
       (fun fy gN=>Dt fy (au1 (atw gN)))
       (fun i j gF ai=>by
        have:=ah (l+i) j (by omega) ai;have fc:off+l*z+(i*z+j)=off+((l+i)*z+j) :=by rw[atQ]; omega
        rw[fc]; exact this)
       (fun i fy gN j c ai=>ap (l+i) fy (fI i fy gN).2 j c ai)
      rw[bD] at this;exact this
    | fZ _ a cap=>
     obtain⟨bU,b8,ei,hg,iH⟩:=uZ (P:=P) (isS:=true) af (as3 _) (auc cap) ad ae aj;refine⟨_,by simp at iH; simp[Instr.sliceAt,Instr.slice,cr aL,iH,fD ax]; rfl,?_⟩;have aQ:aR - l=0:=by simp at ei; omega
     rw[aQ,aui];exact aN.akh _ _ _ _ _
   ·cases ak
  ·rename_i z ax;cases ag;cases af:gV 0 0 cG az cH with
   | none=>rw[af] at ak; cases ak
   | some ud=>
   obtain⟨l,aR,m⟩:=ud;rw[af] at ak;simp only[as9,Option.some.injEq] at ak;subst ak;obtain⟨bU,b8,ei,hg,iH⟩:=uZ (P:=P) (isS:=true) af (as3 _) (as3 _) ad ae aj;obtain rfl:m=0:=by omega
   obtain rfl:aR=0:=by omega
   obtain rfl:l=0:=by omega
   refine⟨_,by simp[Instr.sliceAt,Instr.slice,cr aL,iH,fD ax]; rfl,?_⟩;exact .aH
  ·cases ak
 ·-- a string
  rename_i s aL;split at ak
  ·cases ag with
   | str bs=>
    cases af:gV bs.data.toList.length bs.data.toList.length cG az none with
    | none=>rw[af] at ak; cases ak
    | some ud=>
    obtain⟨l,aR,m⟩:=ud;rw[af] at ak;simp only[as9,Option.some.injEq] at ak;subst ak;cases v9 with
    | some v=>exact aj.elim
    | none=>
     have hX:bs.data.toList.length=bs.size:=by simp
     rw[hX] at af;obtain⟨bU,b8,ei,hg,iH⟩:=uZ (P:=P) (isS:=false) af (as3 _) (as3 _) ad ae aj;refine⟨.string (bs.extract l aR),by simp[Instr.sliceAt,Instr.slice,cr aL,iH],?_⟩;rw[<-extract_toList];exact .str _
  ·cases ak
 ·cases ak
end

section
variable {P:Program} {w:World} {R:Nat->Prop} {B:Nat} {h:aM} {μ:cg}
def ls (w:World) (R:Nat->Prop) (h:aM) (μ:cg) (cs:List U) (arr:Array Value) :Prop:=
 arr.size=cs.length/\∀ (j:Nat) (c:U),cs[j]? = some c->∃ v:Value,arr[j]? = some v/\v.oneCell'=true/\aN w R h μ c v
theorem ls.aG {cs:List U} {arr:Array Value} (ay:ls w R h μ cs arr) :aN w R h μ (.aG cs) (.agg arr) :=by
 refine .aG _ _ ay.1 (fun j v ai=>?_) (fun j c v ah ai=>?_)
 ·have aK:j<cs.length:=by have:=(att.1 ai).1; rw[<-ay.1]; exact this
  obtain⟨u,ad,ae,_⟩:=ay.2 j _ (as4 aK);rw[ai] at ad; cases ad; exact ae
 ·obtain⟨u,ad,_,aj⟩:=ay.2 j c ah;rw[ai] at ad; cases ad; exact aj
theorem RX:∀ (l:List Value) (k off:Nat) (cells:Array Value),off+k+l.length<=cells.size->
  ((l.zipIdx k).foldl (fun cs (u9:Value × Nat)=>cs.setIfInBounds (off+u9.2) u9.1) cells).size=cells.size ∧
  ∀ j,((l.zipIdx k).foldl (fun cs (u9:Value × Nat)=>cs.setIfInBounds (off+u9.2) u9.1) cells)[j]? = if off+k<=j/\j<off+k+l.length then l[j - (off+k)]? else cells[j]?
 | [],k,off,cells,_=>⟨by simp,fun j=>by simp; omega⟩
 | v::l,k,off,cells,al=>by
  simp only[atk] at al;have aS:=RX l (k+1) off (cells.setIfInBounds (off+k) v) (by simp; omega);simp only[List.zipIdx_cons,avZ];refine⟨by rw[aS.1]; simp,fun j=>?_⟩;rw[aS.2 j];by_cases ai:off+(k+1)<=j/\j<off+(k+1)+l.length
  ·rw[if_pos ai,if_pos (by simp only[atk]; omega)];have:j - (off+k)=(j - (off+(k+1)))+1:=by omega
   rw[this,atJ]
  ·rw[if_neg ai,aug];by_cases am:off+k=j
   ·subst am;rw[if_pos rfl,if_pos (by omega),if_pos (by simp only[atk]; omega)];simp
   ·rw[if_neg am,if_neg (by simp only[atk]; omega)]
theorem FG {lh:Nat->Option (Nat × Nat)}:∀ (parts:List (Nat × U)) (kP:List (Nat × Value)) (cs:List U) (arr:Array Value) (cs' : List U),
  hQ lh cs parts=some cs'->ls w R h μ cs arr->kP.length=parts.length->(∀ (j:Nat) (p:Nat × U) (ci:Nat × Value),parts[j]? = some p->kP[j]? = some ci->ci.1=p.1/\aN w R h μ p.2 ci.2)->
  ∃ lw,Instr.fill lh arr kP=some lw/\ls w R h μ cs' lw
 | [],[],cs,arr,cs',aE,ay,_,_=>by
  simp only[hQ,Option.some.injEq] at aE; subst aE;exact⟨arr,rfl,ay⟩
 | [],_::_,_,_,_,_,_,al,_=>by simp at al
 | _::_,[],_,_,_,_,_,al,_=>by simp at al
 | (i,c) ::parts,(mc,v) ::kP,cs,arr,cs',aE,ay,al,av=>by
  obtain⟨rfl,ap⟩:=av 0 (i,c) (mc,v) rfl rfl;simp only at ap;unfold hQ at aE;cases gZ:lh mc with
  | none=>rw[gZ] at aE; cases aE
  | some os=>
  obtain⟨off,size⟩:=os;cases ah:c.cells with
  | none=>rw[gZ,ah] at aE; cases aE
  | some vs=>
  rw[gZ,ah] at aE;simp only at aE;split at aE
  ·rename_i jJ;obtain⟨hX,jb⟩:=Fs ap ah;have xU:v.cells.toList.length=vs.length:=by simpa using hX
   have tF:=RX v.cells.toList 0 off arr (by rw[ay.1,xU]; omega);have afP:v.cells.zipIdx.foldl (fun cs (x:Value × Nat)=>match x with | (c,j)=>cs.setIfInBounds (off+j) c) arr=(v.cells.toList.zipIdx 0).foldl (fun cs (u9:Value × Nat)=>cs.setIfInBounds (off+u9.2) u9.1) arr:=by
    rw[<-Array.foldl_toList];simp
   obtain⟨lw,ad,ae⟩:=FG parts kP (bg cs off vs) (v.cells.zipIdx.foldl (fun cs (x:Value × Nat)=>match x with | (c,j)=>cs.setIfInBounds (off+j) c) arr) cs' aE (by
     rw[afP];refine⟨by rw[tF.1,ay.1,yH (by omega)]; omega,fun j x ai=>?_⟩;rw[tF.2 j];rw[XB (by omega)] at ai;split at ai
     ·rename_i aK;rw[if_neg (by omega)];exact ay.2 j x ai
     ·split at ai
      ·rename_i ad ae;rw[if_pos (by rw[xU]; omega)];obtain⟨u,a2,bd,b4⟩:=jb _ x ai;exact⟨u,by simpa using a2,bd,b4⟩
      ·rename_i ad ae;rw[if_neg (by rw[xU]; omega)];exact ay.2 j x ai) (by simpa using al) (fun j p ci ai fp=>av (j+1) p ci (by simpa using ai) (by simpa using fp))
   refine⟨lw,?_,ae⟩;have sb:¬ (v.cells.size≠size\/off+v.cells.size > arr.size) :=by rw[hX,ay.1]; omega
   simp only[Instr.fill,gZ];rw[if_neg (by simpa using sb)];exact ad
  ·cases aE
theorem wZ {t:TypeId} {z:List U} (ax:hY P t=some z) :∃ v,(∀ w2:World,(zeroValue t).run P w2=.ok v w2)/\ls w R h μ z v.cells:=by
 obtain⟨i,v,az,ap,ak,ah⟩:=YQ (w:=w) (R:=R) (h:=h) (μ:=μ) ax;exact⟨v,fun w2=>Xk az ap,ak,ah⟩
theorem akm {fs:Array Field} (ak:(fs.toList.all fun f=>(cu P f.type).isSome)=true) :
  (fs.mapM fun f=>(do pure (f.offset,<-sizeOf f.type) :Sem (Nat × Nat))).run P w=.ok ((fs.toList.map fun f=>(f.offset,(cu P f.type).getD 0)).toArray) w:=by
 rw[Array.mapM_eq_mapM_toList];simp only[Sem.run_map];have:∀ l:List Field,(l.all fun f=>(cu P f.type).isSome)=true->(l.mapM fun f=>(do pure (f.offset,<-sizeOf f.type) :Sem (Nat × Nat))).run P w=.ok (l.map fun f=>(f.offset,(cu P f.type).getD 0)) w:=by
  intro l
  induction l with
  | nil=>intro _; simp
  | cons f l aS=>
   intro al;simp only[av4,as7] at al;obtain⟨n,aC⟩:=avP.1 al.1;simp only[auu,Sem.run_bind,fD aC,Result.andThen_ok,Sem.run_pure,aS al.2,atr,aC,atM]
 rw[this _ ak];rfl
theorem Z7 {t:TypeId} {parts:List (Nat × U)} {kP:Array (Nat × Value)} {c:U} (af:BH P t parts=some c) (al:kP.size=parts.length)
  (av:∀ (j:Nat) (p:Nat × U) (ci:Nat × Value),parts[j]? = some p->kP[j]? = some ci->ci.1=p.1/\aN w R h μ p.2 ci.2) :
  ∃ v,(Instr.build t kP).run P w=.ok v w/\aN w R h μ c v:=by
 unfold BH at af;split at af
 ·rename_i zero fs ax aL;split at af
  ·cases af
  ·rename_i hX;simp only[auE,Bool.not_eq_false] at hX;cases aE:hQ (Ee P fs) zero parts with
   | none=>rw[aE] at af; cases af
   | some cs=>
    rw[aE] at af;simp only[as9,Option.some.injEq] at af; subst af;obtain⟨v,ap,ay⟩:=wZ (w:=w) (R:=R) (h:=h) (μ:=μ) ax;obtain⟨lw,ad,ae⟩:=FG parts kP.toList zero v.cells cs aE ay (by simpa using al) (fun j p ci ai fp=>av j p ci ai (by simpa using fp));have ae7:(fun i=>((fs.toList.map fun f=>(f.offset,(cu P f.type).getD 0)).toArray)[i]?)=Ee P fs:=by
     funext i;simp only[Ee];simp only[List.getElem?_toArray,as5,auk];cases tE:fs[i]? with
     | none=>simp
     | some f=>
      rw[atN] at hX;have:=hX f (by have:=Array.mem_of_getElem? tE; simpa using this);obtain⟨n,aC⟩:=avP.1 this;simp[aC]
    refine⟨_,?_,ae.aG⟩;simp only[Instr.build,Sem.run_bind,ap,Result.andThen_ok,cr aL,akm hX];rw[ae7,ad];simp
 ·rename_i zero n e ax aL;cases hX:cu P e with
  | none=>rw[hX] at af; cases af
  | some m=>
   rw[hX] at af;simp only at af;cases aE:hQ (fun i=>some (i*m,m)) zero parts with
   | none=>rw[aE] at af; cases af
   | some cs=>
    rw[aE] at af;simp only[as9,Option.some.injEq] at af; subst af;obtain⟨v,ap,ay⟩:=wZ (w:=w) (R:=R) (h:=h) (μ:=μ) ax;obtain⟨lw,ad,ae⟩:=FG parts kP.toList zero v.cells cs aE ay (by simpa using al) (fun j p ci ai fp=>av j p ci ai (by simpa using fp));refine⟨_,?_,ae.aG⟩;simp only[Instr.build,Sem.run_bind,ap,Result.andThen_ok,cr aL,fD hX];rw[ad];simp
 ·cases af
theorem yB {zero:List U}:∀ n,(dx zero n).length=n*zero.length
 | 0=>by simp[dx]
 | n+1=>by simp only[dx,as8,yB n,atL]; omega
theorem W4 {zero:List U}:∀ (n j:Nat) (c:U),(dx zero n)[j]? = some c->zero[j % zero.length]? = some c
 | 0,_,_,ai=>by simp[dx] at ai
 | n+1,j,c,ai=>by
  simp only[dx] at ai;by_cases aK:j<zero.length
  ·rw[as2 aK] at ai
   rwa [atb aK]
  ·rw[atl (by omega)] at ai;have:=W4 n _ c ai
   rwa [<-Nat.mod_eq_sub_mod (by omega)] at this
theorem H3 {zero:List U} {z:Array Value} (ay:ls w R h μ zero z) (n:Nat) :ls w R h μ (dx zero n) ((Array.range (n*zero.length)).map (z[· % z.size]!)) :=by
 refine⟨by simp[yB],fun j c ai=>?_⟩;have aK:j<n*zero.length:=by
  have:=(as0.1 ai).1
  rwa [yB] at this
 obtain⟨v,ad,ae,aj⟩:=ay.2 _ c (W4 n j c ai);refine⟨v,?_,ae,aj⟩;rw[<-ay.1] at ad;obtain⟨af,rfl⟩:=att.1 ad;simp[aK,af]
theorem abO {z:Nat}:∀ (parts:List (Nat × U)) (a b:List U),hQ (fun i=>some (i*z,z)) a parts=some b->b.length=a.length:=by
 intro parts
 induction parts with
 | nil=>intro a b gY; simp only[hQ,Option.some.injEq] at gY; subst gY; rfl
 | cons p parts aS=>
  intro a b gY;unfold hQ at gY;split at gY
  ·rename_i off size vs gZ rc;split at gY
   ·rw[aS _ _ gY,yH (by omega)]; omega
   ·cases gY
  ·cases gY
theorem Pm {t e:TypeId} {len z:Nat} {zero cs:List U} {parts:List (Nat × U)} {kP:Array (Nat × Value)} (am:iT P t=some e) (ax:cu P e=some z) (jd:hY P e=some zero) (h9:zero.length=z) (mK:len*z<=16777216)
  (aE:hQ (fun i=>some (i*z,z)) (dx zero len) parts=some cs) (al:kP.size=parts.length)
  (av:∀ (j:Nat) (p:Nat × U) (ci:Nat × Value),parts[j]? = some p->kP[j]? = some ci->ci.1=p.1/\aN w R h μ p.2 ci.2) :
  cs.length=len*z/\∃ arr,(Instr.buildSlice t len kP).run P w=.ok (.slice (some ⟨w.heap.size,0,none⟩) len len) (w.alloc (.cells arr e))/\ls w R h μ cs arr:=by
 obtain⟨v,ap,ay⟩:=wZ (w:=w) (R:=R) (h:=h) (μ:=μ) jd;obtain⟨lw,ad,ae⟩:=FG parts kP.toList _ _ cs aE (H3 ay len) (by simpa using al) (fun j p ci ai fp=>av j p ci ai (by simpa using fp));refine⟨by rw[abO _ _ _ aE,yB,h9],lw,?_,ae⟩;have kG:=B1 am;have aeA:¬ (len*z > 2 ^ 24) :=by omega
 simp only[Instr.buildSlice,Sem.run_bind,cr kG,Result.andThen_ok,fD ax,if_neg aeA];rw[h9] at ad;generalize fo:len*z=N at ad;by_cases aI:N=0
 ·subst aI;have ip:∀ f:Nat->Value,(Array.range 0).map f=#[] :=fun f=>by simp[Array.range]
  rw[ip] at ad;simp[ip,ad,newRow]
 ·simp[aI,ap,ad,newRow]
theorem Z6 (rel:bI R B w h μ) {t:TypeId} {len:Nat} {parts:List (Nat × U)} {kP:Array (Nat × Value)} {c:U} {h' : aM} (af:Fi P h t len parts=some (c,h')) (al:kP.size=parts.length)
  (av:∀ (j:Nat) (p:Nat × U) (ci:Nat × Value),parts[j]? = some p->kP[j]? = some ci->ci.1=p.1/\aN w R h μ p.2 ci.2) :
  ∃ v w' μ',(Instr.buildSlice t len kP).run P w=.ok v w'/\c5 w h μ w' h' μ'/\bI R B w' h' μ'/\aN w' R h' μ' c v:=by
 unfold Fi at af;cases am:iT P t with
 | none=>rw[am] at af; cases af
 | some e=>
 rw[am] at af;simp only at af;cases ax:cu P e with
 | none=>rw[ax] at af; cases af
 | some z=>
 cases jd:hY P e with
 | none=>rw[ax,jd] at af; cases af
 | some zero=>
 rw[ax,jd] at af;simp only at af;split at af
 ·rename_i jJ;obtain⟨h9,mK⟩:=jJ;cases aE:hQ (fun i=>some (i*z,z)) (dx zero len) parts with
  | none=>rw[aE] at af; cases af
  | some cs=>
   rw[aE] at af;simp only[as9,Option.some.injEq,Prod.mk.injEq] at af;obtain⟨rfl,rfl⟩:=af;obtain⟨ew,lw,fJ,ae⟩:=Pm am ax jd h9 mK aE al av;have aB:=Fa rel (cs:=cs) (vs:=lw) e ae.1 ae.2;rw[ew] at aB;obtain⟨a2,bd,b4⟩:=aB;refine⟨.slice (some ⟨w.heap.size,0,none⟩) len len,_,_,fJ,a2,bd,?_⟩;have:=aN.aq (w:=w.alloc (.cells lw e)) (R:=R) (h:=h.push (.cells (len*z) cs)) (μ:=bw μ h.n (some ⟨w.heap.size,0,lw.size⟩)) z h.n 0 len len (len*z) len cs ⟨w.heap.size,0,lw.size⟩ (by simp[eb,ft]) (by simp) (as3 _) (by omega)
    (.inr ⟨by omega,as3 _,by simp only; rw[ae.1,ew]; omega⟩)
   simpa using this
 ·cases af
theorem Vw {t e:TypeId} {z by_:Nat} {zero:List U} {kl kc:IntKind} {li hO:Int} (am:iT P t=some e) (ax:cu P e=some z) (dI:kv P e=some by_) (jd:hY P e=some zero) (h9:zero.length=z)
  (aI:0<=li) (pQ:li<=hO) (Gf:hO<9223372036854775808) (dy:by_*hO<=ct) :
  (dx zero hO.toNat).length=hO.toNat*z/\∃ arr,(Instr.makeSlice t (.int kl li) (.int kc hO)).run P w=.ok (.slice (some ⟨w.heap.size,0,none⟩) li.toNat hO.toNat) (w.alloc (.cells arr e))/\ls w R h μ (dx zero hO.toNat) arr:=by
 obtain⟨v,ap,ay⟩:=wZ (w:=w) (R:=R) (h:=h) (μ:=μ) jd;have cJ:=H3 ay hO.toNat
 refine⟨by rw[yB,h9],_,?_,cJ⟩;obtain⟨i,az,SW⟩:∃ i,P.info? e=some i/\i.bytes=by_:=by
  unfold kv at dI;cases az:P.info? e with
  | none=>rw[az] at dI; cases dI
  | some i=>rw[az] at dI; exact⟨i,rfl,by simpa using dI⟩
 have vL:IntKind.i64.wrap li=li:=IntWalk.i64_in _ (by omega);have re:IntKind.i64.wrap hO=hO:=IntWalk.i64_in _ (by omega);have kG:=B1 am;unfold ct at dy;have t1:¬ (hO<0\/(281474976710656:Int)<(by_:Int)*hO) :=by omega
 have t2:¬ (li<0) :=by omega
 have t3:¬ (hO<li) :=by omega
 rw[h9];generalize fo:hO.toNat*z=N;by_cases sn:N=0
 ·subst sn;have ip:∀ f:Nat->Value,(Array.range 0).map f=#[] :=fun f=>by simp[Array.range]
  simp[ip,Instr.makeSlice,cr kG,Go.asInt,asIntOf,typeInfo,az,SW,vL,re,t1,t2,t3,fD ax,fo,newRow]
 ·simp[Instr.makeSlice,cr kG,Go.asInt,asIntOf,typeInfo,az,SW,vL,re,t1,t2,t3,fD ax,fo,sn,ap,newRow]
theorem ahE (rel:bI R B w h μ) {t:TypeId} {l c r:U} {Hu xl:Value} {h' : aM} (hm:Hv P h t l c=some (r,h')) (al:aN w R h μ l Hu) (ah:aN w R h μ c xl) :
  ∃ v w' μ',(Instr.makeSlice t Hu xl).run P w=.ok v w'/\c5 w h μ w' h' μ'/\bI R B w' h' μ'/\aN w' R h' μ' r v:=by
 unfold Hv at hm;split at hm
 ·rename_i e li hO am cT fW;obtain⟨kl,rfl⟩:=rW cT al;obtain⟨kc,rfl⟩:=rW fW ah;cases ax:cu P e with
  | none=>rw[ax] at hm; cases hm
  | some z=>
  cases dI:kv P e with
  | none=>rw[ax,dI] at hm; cases hm
  | some by_=>
  cases jd:hY P e with
  | none=>rw[ax,dI,jd] at hm; cases hm
  | some zero=>
  rw[ax,dI,jd] at hm;simp only at hm;split at hm
  ·rename_i jJ;obtain⟨h9,aI,pQ,Gf,dy⟩:=jJ;simp only[Option.some.injEq,Prod.mk.injEq] at hm;obtain⟨rfl,rfl⟩:=hm;obtain⟨bD,arr,fJ,cJ⟩:=Vw (w:=w) (R:=R) (h:=h) (μ:=μ) (kl:=kl) (kc:=kc) am ax dI jd h9 aI pQ Gf dy;have aB:=Fa rel (cs:=dx zero hO.toNat) e cJ.1 cJ.2;rw[bD] at aB;obtain⟨a2,bd,b4⟩:=aB;refine⟨.slice (some ⟨w.heap.size,0,none⟩) li.toNat hO.toNat,_,_,fJ,a2,bd,?_⟩;have:=aN.aq (w:=w.alloc (.cells arr e)) (R:=R) (h:=h.push (.cells (hO.toNat*z) (dx zero hO.toNat))) (μ:=bw μ h.n (some ⟨w.heap.size,0,arr.size⟩))
    z h.n 0 li.toNat hO.toNat (hO.toNat*z) hO.toNat (dx zero hO.toNat) ⟨w.heap.size,0,arr.size⟩ (by simp[eb,ft]) (by simp) (by omega) (by omega)
    (.inr ⟨by omega,as3 _,by simp only; rw[cJ.1,bD]; omega⟩)
   simpa using this
  ·cases hm
 ·cases hm
theorem ahf {t u:TypeId} {ty:TypeId} {x c:U} {bF:Value} (ah:yh P t x=some c) (ag:aN w R h μ x bF) :∃ v,(Builtin.len_ #[t] ty #[bF]).run P w=.ok v w/\aN w R h μ c v:=by
 unfold yh at ah;split at ah<;>(try (simp only[Option.some.injEq] at ah; subst ah))
 ·rename_i s aL;cases ag;rename_i bs;exact⟨goInt bs.size,by simp[Builtin.len_,cr aL],by rw[show (bs.data.toList.length:Int)=bs.size from by simp]; exact .int _ _⟩
 ·rename_i n e aL;exact⟨goInt n,by simp[Builtin.len_,cr aL],.int _ _⟩
 ·rename_i e aL;cases ag;exact⟨goInt (0:Nat),by simp[Builtin.len_,cr aL],.int _ _⟩
 ·rename_i e z b off len cap sz aL;cases ag
  ·exact⟨goInt len,by simp[Builtin.len_,cr aL],.int _ _⟩
  ·exact⟨goInt len,by simp[Builtin.len_,cr aL],.int _ _⟩
  ·exact⟨goInt (0:Nat),by simp[Builtin.len_,cr aL],.int _ _⟩
 ·rename_i e z es aL;cases ag
  ·exact⟨goInt es.length,by simp[Builtin.len_,cr aL],.int _ _⟩
  ·exact⟨goInt (0:Nat),by simp[Builtin.len_,cr aL],.int _ _⟩
 ·rename_i k e aL;cases ag;exact⟨goInt 0,by simp[Builtin.len_,cr aL],.int _ _⟩
 ·cases ah
end

section
variable {P:Program} {w:World} {R:Nat->Prop} {B:Nat} {h:aM} {μ:cg}
theorem wj {t:TypeId} {cs:List U} {vs:Array Value} {off:Nat} {c:U} (av:ic P t cs off=some c) (ay:ls w R h μ cs vs) :
  ∃ v,(∀ w2:World,(part t vs off).run P w2=.ok v w2)/\aN w R h μ c v:=by
 unfold ic at av;cases oQ:eo P t with
 | none=>rw[oQ] at av; cases av
 | some b=>
  rw[oQ] at av;cases b with
  | false=>
   simp only at av;obtain⟨v,ad,_,aj⟩:=ay.2 off c av;exact⟨v,fun w2=>by simp[part,H8 oQ,ad],aj⟩
  | true=>
   cases aC:cu P t with
   | none=>rw[aC] at av; cases av
   | some n=>
    rw[aC] at av;simp only at av;split at av
    ·rename_i dY;simp only[Option.some.injEq] at av;subst av;refine⟨.agg (vs.extract off (off+n)),fun w2=>by simp[part,H8 oQ,fD aC],ls.aG ⟨by simp; rw[ay.1]; omega,fun j c ai=>?_⟩⟩;have jM:j<n:=by
      have:=(as0.1 ai).1;rw[ati] at this; omega
     rw[atp jM,atH] at ai;obtain⟨v,ad,ae,aj⟩:=ay.2 _ c ai;refine⟨v,?_,ae,aj⟩;rw[Array.getElem?_extract,if_pos (by rw[ay.1]; omega)];exact ad
    ·cases av
theorem uT {cs:List U} {bF:Value} (ag:aN w R h μ (.aG cs) bF) :∃ vs,bF=.agg vs/\ls w R h μ cs vs:=by
 cases ag with
 | aG _ vs al ad ap=>
  refine⟨vs,rfl,al,fun j c ai=>?_⟩;have aK:j<vs.size:=by rw[al]; exact (as0.1 ai).1
  exact⟨vs[j],by simp[aK],ad j _ (by simp[aK]),ap j c _ ai (by simp[aK])⟩
theorem abK {t:TypeId} {cs:List U} {f:Nat} {fd:Field} {c:U} {bF:Value} (aE:xr P t f=some fd) (av:ic P fd.type cs fd.offset=some c) (ag:aN w R h μ (.aG cs) bF) :
  ∃ v,(Instr.field t bF f).run P w=.ok v w/\aN w R h μ c v:=by
 obtain⟨fs,aL,tF⟩:=RL aE;obtain⟨vs,rfl,ay⟩:=uT ag;obtain⟨v,ad,ae⟩:=wj (P:=P) av ay;exact⟨v,by simp[Instr.field,cr aL,tF,asAgg,ad],ae⟩
theorem L1 {t:TypeId} {x eP c:U} {bF DB:Value} (ah:At P t x eP=some c) (ag:aN w R h μ x bF) (az:aN w R h μ eP DB) :
  ∃ v,(Instr.index t bF DB).run P w=.ok v w/\aN w R h μ c v:=by
 unfold At at ah;split at ah
 ·rename_i n e cs i aL dP;obtain⟨k,rfl⟩:=rW dP az;cases ax:cu P e with
  | none=>rw[ax] at ah; cases ah
  | some z=>
   rw[ax] at ah;simp only at ah;split at ah
   ·rename_i af;obtain⟨vs,rfl,ay⟩:=uT ag;obtain⟨v,ad,ae⟩:=wj (P:=P) ah ay;exact⟨v,by simp[Instr.index,asIntOf,cr aL,af,fD ax,ad],ae⟩
   ·cases ah
 ·rename_i s i aL dP;obtain⟨k,rfl⟩:=rW dP az;split at ah
  ·rename_i af;cases ag with
   | str bs=>
    cases F7:bs.data.toList[i.toNat]? with
    | none=>rw[F7] at ah; cases ah
    | some b=>
     rw[F7] at ah;simp only[as9,Option.some.injEq] at ah;subst ah;have aK:i.toNat<bs.size:=by have:=(as0.1 F7).1; simpa using this
     have fI:bs[i.toNat]? = some b:=by
      have dX:=(as0.1 F7).2;rw[getElem?_pos bs i.toNat aK];simp only[Option.some.injEq];rw[<-dX];rfl
     exact⟨.int .u8 b.toNat,by simp[Instr.index,asIntOf,cr aL,af,fI],.int _ _⟩
  ·cases ah
 ·cases ah
theorem aaP (rel:bI R B w h μ) {t u ty:TypeId} {d x c:U} {JF bF:Value} {h' : aM} (ah:zn P h t d x=some (c,h')) (bb:aN w R h μ d JF) (ag:aN w R h μ x bF) :
  ∃ v w',(Builtin.copy_ #[t,u] ty #[JF,bF]).run P w=.ok v w'/\c5 w h μ w' h' μ/\bI R B w' h' μ/\aN w' R h' μ c v:=by
 unfold zn at ah;cases am:iT P t with
 | none=>rw[am] at ah; cases ah
 | some e=>
 rw[am] at ah;simp only at ah;cases ax:cu P e with
 | none=>rw[ax] at ah; cases ah
 | some z=>
 rw[ax] at ah;simp only at ah;cases eg:contents h z x with
 | none=>rw[eg] at ah; cases ah
 | some Of=>
 obtain⟨xs,n⟩:=Of;rw[eg] at ah;simp only at ah;have kG:=B1 am;obtain⟨bn,bD,vs,cJ,lJ⟩:=vi (P:=P) rel eg ag;split at ah
 ·simp only[Option.some.injEq,Prod.mk.injEq] at ah;obtain⟨rfl,rfl⟩:=ah;cases bb;have aI:=lJ 0 (auc _) w (fun _=>rfl);refine⟨goInt (0:Nat),w,?_,.refl _ _ _,rel,.int _ _⟩;simp[Builtin.copy_,cr kG,bD,fD ax,aI]
 ·rename_i du b off len cap sz;cases af:h.f b with
  | cells m cs=>
   rw[af] at ah;simp only at ah;split at ah
   ·rename_i CL;obtain⟨rfl,rfl⟩:=CL;simp only[Option.some.injEq,Prod.mk.injEq] at ah;obtain⟨rfl,rfl⟩:=ah;cases bb with
    | iN _ _ _ _ a cs' b9 bJ hm=>
     have aI:=lJ 0 (auc _) w (fun _=>rfl);have q8:bg cs off []=cs:=by simp[bg]
     have kf:=rel.same (h':=h.set b (.cells m (bg cs off (xs.take (min n 0*z))))) (by
      rw[dM,Nat.min_zero,avb,aui,q8];funext x;simp only[bw];split
      ·rename_i ag; rw[ag,af]
      ·rfl) rfl
     refine⟨goInt (0:Nat),w,?_,kf.1,kf.2,by rw[Nat.min_zero]; exact .int _ _⟩;simp[Builtin.copy_,cr kG,bD,fD ax,aI,storeCells,Result.andThen]
    | ht _ _ _ _ _ _ cap' a al dn aw=>
     exfalso;rcases aw with aw | ⟨hs,cs',aw,aK⟩
     ·rw[aw] at af; cases af
     ·rw[aw] at af; cases af; omega
    | aq _ _ _ _ _ _ cap' cs' b9 bJ hm al au dn=>
     have ed:=rel.blk b b9 hm;rw[af] at ed;obtain⟨S1,eM,_⟩:=ed;have tM:min n len*z<=cap*z:=as6 _ (by omega);have TK:min n len*z<=n*z:=as6 _ (by omega);have lM:(xs.take (min n len*z)).length=min n len*z:=by rw[ati]; omega
     have mK:max m (off+(xs.take (min n len*z)).length)=m:=by rw[lM]; omega
     obtain⟨w',ad,ae,aj⟩:=yR (P:=P) rel (cvs:=xs.take (min n len*z)) (vs:=vs.take (min n len*z)) (k:=off) af hm (by omega)
      (by rw[ati,ati,cJ.1]) (by rw[mK]; omega) (fun j c ai=>by
       have aK:j<min n len*z:=by have:=(as0.1 ai).1; rwa [lM] at this
       rw[atp aK] at ai ⊢;exact cJ.2 j c ai)
     rw[mK] at ae aj;have aE:=lJ (min n len) (by omega) w (fun _=>rfl);refine⟨goInt (min n len:Nat),w',?_,ae,aj,.int _ _⟩;have xW:Nat.min n len=min n len:=rfl;simp[Builtin.copy_,cr kG,bD,fD ax,xW,aE,ad]
   ·cases ah
  | _=>rw[af] at ah; cases ah
 ·cases ah
theorem Jo:∀ (cs:List U) (vs:List Value) (bs:List UInt8),m5 cs=some bs->vs.length=cs.length->
  (∀ (j:Nat) (c:U),cs[j]? = some c->∃ v:Value,vs[j]? = some v/\v.oneCell'=true/\aN w R h μ c v)->
  ∃ ns:List Int,vs=ns.map (Value.int .u8)/\bs=ns.map fun n=>UInt8.ofNat n.toNat
 | [],[],bs,af,_,_=>by
  simp only[m5,Option.some.injEq] at af; subst af;exact⟨[],rfl,rfl⟩
 | [],_::_,_,_,al,_=>by simp at al
 | _::_,[],_,_,al,_=>by simp at al
 | c::cs,v::vs,bs,af,al,ap=>by
  obtain⟨sT,jP,_,tT⟩:=ap 0 c rfl;simp only[ats,Option.some.injEq] at jP;subst jP;cases tT with
  | int k n=>
   cases k<;>simp only[m5] at af<;>try (cases af; done)
   cases tz:m5 cs with
   | none=>rw[tz] at af; cases af
   | some ZZ=>
    rw[tz] at af;simp only[as9,Option.some.injEq] at af;subst af;obtain⟨ns,ad,ae⟩:=Jo cs vs ZZ tz (by simpa using al) (fun j c ai=>ap (j+1) c (by simpa using ai));exact⟨n::ns,by rw[ad]; rfl,by rw[ae]; rfl⟩
  | _=>simp[m5] at af
theorem RW:∀ (ns:List Int) (s:ByteArray),(ns.foldl (fun r n=>r.push (UInt8.ofNat n.toNat)) s).data.toList=s.data.toList++ns.map fun n=>UInt8.ofNat n.toNat
 | [],s=>by simp
 | n::ns,s=>by
  rw[avZ,RW ns];simp[ByteArray.push]
theorem aaN (rel:bI R B w h μ) {s d:TypeId} {x c:U} {bF:Value} (ah:xj P h s d x=some c) (ag:aN w R h μ x bF) :
  ∃ v,(convert s d bF).run P w=.ok v w/\aN w R h μ c v:=by
 unfold xj at ah;split at ah
 ·rename_i im k k' n ak bb;simp only[Option.some.injEq] at ah; subst ah;cases ag;exact⟨.int k (k.wrap n),by simp[convert,cr ak,cr bb,Conv.intToInt],.int _ _⟩
 ·rename_i ga ak bb;simp only[Option.some.injEq] at ah; subst ah;cases ag with
  | str bs=>exact⟨.string bs,by simp[convert,cr ak,cr bb],.str _⟩
 ·rename_i e ak bb TM;cases G7:P.underlying e with
  | none=>rw[G7] at ah; cases ah
  | some aoe=>
   rw[G7] at ah;split at ah
   ·rename_i heq;simp only[Option.some.injEq] at heq ah; subst heq ah;cases ag;refine⟨.string ByteArray.empty,by simp[convert,cr ak,cr bb,cr G7,Conv.bytesToString],?_⟩;exact .str ByteArray.empty
   ·rename_i heq x0;simp only[Option.some.injEq] at heq; subst heq;split at ah
    ·cases ah
    ·rename_i cs n aeN eg;cases tz:m5 cs with
     | none=>rw[tz] at ah; cases ah
     | some bs=>
      rw[tz] at ah;simp only[as9,Option.some.injEq] at ah; subst ah;obtain⟨bn,bD,vs,cJ,lJ⟩:=vi (P:=P) rel eg ag;have aE:=lJ n (as3 _) w (fun _=>rfl);obtain⟨ns,rfl,rfl⟩:=Jo cs vs bs tz cJ.1 cJ.2;have Dn:(ns.map (Value.int .u8)).take (n*1)=ns.map (Value.int .u8) :=as1 (by rw[cJ.1,bn]; exact as3 _);rw[Dn] at aE;have KE:∃ a len cap,bF=.slice a len cap:=by
       cases ag<;>first | exact⟨_,_,_,rfl⟩ | (simp[contents] at eg; done) | (exact absurd rfl (aeN _))
      obtain⟨a,len,cap,rfl⟩:=KE;simp only[Builtin.lenOf,Sem.run_pure,Result.ok.injEq] at bD;obtain⟨rfl,_⟩:=bD;have adz:=RW ns ByteArray.empty;refine⟨.string (ns.foldl (fun r n=>r.push (UInt8.ofNat n.toNat)) ByteArray.empty),?_,?_⟩
      ·rw[run_convert_bytes_string w s d e a len cap ak G7 bb];cases a with
       | none=>
        simp only[Builtin.firstCells,Sem.run_pure,Result.ok.injEq] at aE;have jb:ns=[] :=by
         have:=congrArg Array.toList aE.1;simpa using this.symm
        subst jb;simp[Conv.bytesToString]
       | some a=>
        simp only[Builtin.firstCells,aux] at aE;exact run_bytesToString w a len cap ns aE
      ·have:(ns.foldl (fun r n=>r.push (UInt8.ofNat n.toNat)) ByteArray.empty).data.toList=ns.map fun n=>UInt8.ofNat n.toNat:=by rw[adz]; rfl
       rw[<-this];exact .str _
    ·cases ah
   ·cases ah
 ·cases ah
theorem Na (rel:bI R B w h μ) {w' : World} (af:RowKit.Below w.heap.size w w') (qS:w.drawn<=w'.drawn:=by first | exact as3 _ | exact Nat.le_succ _) :c5 w h μ w' h μ/\bI R B w' h μ:=by
 have e:c5 w h μ w' h μ:=⟨⟨af.os,af.tape,af.output,af.size,fun k ar _=>af.block k ar,fun _ au=>.inl au,fun b sz cs m ad ae=>.inl ⟨cs,ad,ae⟩,fun _ _ aw=>aw,fun _ _ _ ad ae=>⟨ad,ae⟩,as3 _,qS⟩,fun _ _ hm=>hm⟩
 refine⟨e,fun b m hm=>?_,rel.inj,rel.base,rel.fresh,rel.up,atR rel.size af.size,rel.lf⟩;cases al:live (h.f b) with
 | false=>cases ah:h.f b<;>first | trivial | (rw[ah] at al; cases al)
 | true=>exact (rel.blk b m hm).ext e.toExt0 (af.block _ (rel.lt al hm))
theorem aac (rel:bI R B w h μ) {s d:TypeId} {x c:U} {bF:Value} (ah:za P s d x=some c) (ag:aN w R h μ x bF) :
  ∃ v w',(convert s d bF).run P w=.ok v w'/\c5 w h μ w' h μ/\bI R B w' h μ/\aN w' R h μ c v:=by
 unfold za at ah;split at ah
 ·rename_i im e ga ak bb;split at ah
  ·rename_i aL;simp only[Option.some.injEq] at ah; subst ah;cases ag with
   | str bs=>
    have adf:RowKit.Below w.heap.size w (Lib.bytesWorld w e bs) :=⟨rfl,rfl,rfl,by rw[Lib.bytesWorld_size]; omega,fun k ar=>Lib.bytesWorld_at_old w e bs k ar⟩
    obtain⟨ad,ae⟩:=Na rel adf;refine⟨_,_,Lib.run_convert_string_bytes w s d e bs ak bb aL,ad,ae,?_⟩;have hX:bs.data.toList.length=bs.size:=by simp
    have kF:¬ Own h μ w.heap.size:=by
     rintro⟨b,m,al,hm,am⟩;have:=rel.lt al hm;omega
    have di:bs.size<=grownCap w bs.size 0 e:=grownCap_ge w bs.size 0 e;have:=aN.aX (w:=Lib.bytesWorld w e bs) (R:=R) (h:=h) (μ:=μ) 1 (bs.data.toList.map fun b=>[jr b]) w.heap.size 0 (grownCap w bs.size 0 e) (fun i _=>.int .u8 (bs.data.toList.getD i 0).toNat)
     (by simpa using di) (fun e am=>by obtain⟨b,_,rfl⟩:=atx.1 am; rfl)
     (fun i j az ai=>by
      have gF:i<bs.size:=by simpa using az
      have:j=0:=by omega
      subst this;exact⟨by simpa using Lib.bytesWorld_cell w e bs i gF,rfl,rel.up _ rel.size,kF⟩)
     (fun i e am j c ai=>by
      rw[as5] at am;cases af:bs.data.toList[i]? with
      | none=>rw[af] at am; cases am
      | some b=>
       rw[af] at am;simp only[as9,Option.some.injEq] at am; subst am;cases j with
       | zero=>
        simp only[ats,Option.some.injEq] at ai; subst ai;have:bs.data.toList.getD i 0=b:=by simp[List.getD,af]
        rw[this];exact .int _ _
       | succ j=>simp at ai)
    rw[ate,hX] at this;exact this
  ·cases ah
 ·cases ah
theorem aam {t ty:TypeId} {x c:U} {bF:Value} (ah:zc P t x=some c) (ag:aN w R h μ x bF) :∃ v,(Builtin.cap_ #[t] ty #[bF]).run P w=.ok v w/\aN w R h μ c v:=by
 unfold zc at ah;split at ah<;>(try (simp only[Option.some.injEq] at ah; subst ah))
 ·rename_i n e aL;exact⟨goInt n,by simp[Builtin.cap_,cr aL],.int _ _⟩
 ·rename_i e aL;cases ag;exact⟨goInt (0:Nat),by simp[Builtin.cap_,cr aL],.int _ _⟩
 ·cases ah
theorem aaz (rel:bI R B w h μ) {t ty:TypeId} {x:U} {bF:Value} {h' : aM} (ah:zg P h t x=some h') (ag:aN w R h μ x bF) :
  ∃ w',(Builtin.clear_ #[t] ty #[bF]).run P w=.ok (.tuple #[]) w'/\c5 w h μ w' h' μ/\bI R B w' h' μ:=by
 unfold zg at ah;split at ah
 ·rename_i e aL;simp only[Option.some.injEq] at ah; subst ah;cases ag;exact⟨w,by simp[Builtin.clear_,cr aL],.refl _ _ _,rel⟩
 ·rename_i e z aL;simp only[Option.some.injEq] at ah; subst ah;cases ag<;>exact⟨w,by simp[Builtin.clear_,cr aL],.refl _ _ _,rel⟩
 ·rename_i e z b off len cap sz aL;split at ah
  ·rename_i z6;simp only[Option.some.injEq] at ah; subst ah;subst z6;cases ag<;>exact⟨w,by simp[Builtin.clear_,cr aL],.refl _ _ _,rel⟩
  ·rename_i z6;split at ah
   ·rename_i zero m cs ax af;split at ah
    ·rename_i CL;obtain⟨rfl,rfl⟩:=CL;simp only[Option.some.injEq] at ah; subst ah;cases ag with
     | iN=>exact absurd rfl z6
     | ht _ _ _ _ _ _ cap' a al dn aw=>
      exfalso;rcases aw with aw | ⟨hs,cs',aw,aK⟩
      ·rw[aw] at af; cases af
      ·rw[aw] at af; cases af; omega
     | aq _ _ _ _ _ _ cap' cs' b9 bJ hm al au dn=>
      have ed:=rel.blk b b9 hm;rw[af] at ed;obtain⟨S1,eM,_⟩:=ed;obtain⟨v,ap,ay⟩:=wZ (P:=P) (w:=w) (R:=R) (h:=h) (μ:=μ) ax;have Lp:=H3 ay len;have tM:len*zero.length<=cap*zero.length:=as6 _ al;have q5:(dx zero len).length=len*zero.length:=yB len;have mK:max m (off+(dx zero len).length)=m:=by rw[q5]; omega
      have h9:v.cells.size=zero.length:=ay.1;have G9:(Builtin.zeroCells v.cells len)=(Array.range (len*zero.length)).map (v.cells[· % v.cells.size]!) :=by
       unfold Builtin.zeroCells;rw[h9]
      obtain⟨w',ad,ae,aj⟩:=yR (P:=P) rel (cvs:=dx zero len) (vs:=(Builtin.zeroCells v.cells len).toList) (k:=off) af hm (by omega)
       (by rw[G9,q5]; simp) (by rw[mK]; omega) (fun j c ai=>by
        rw[G9];obtain⟨u,a2,bd,b4⟩:=Lp.2 j c ai;exact⟨u,by rw[auk]; exact a2,bd,b4⟩)
      rw[mK] at ae aj;refine⟨w',?_,ae,aj⟩;cases bD:len with
      | zero=>exact absurd bD z6
      | succ aqT=>
       rw[bD] at ad;simp[Builtin.clear_,cr aL,ap,ad]
    ·cases ah
   ·cases ah
 ·cases ah
theorem Zz (rel:bI R B w h μ) {t u ty:TypeId} {k:IntKind} {s x c:U} {mV bF:Value} {h' : aM} (aL:P.underlying u=some (.int k)) (aB:BC P h t s x=some (c,h')) (ak:aN w R h μ s mV) (ag:aN w R h μ x bF) :
  ∃ v w' μ',(Builtin.append_ #[t,u] ty #[mV,bF]).run P w=.ok v w'/\c5 w h μ w' h' μ'/\bI R B w' h' μ'/\aN w' R h' μ' c v:=by
 unfold BC at aB;split at aB
 ·rename_i e n am az;have kG:=B1 am;obtain⟨rj,rfl⟩:=rW az ag;split at aB
  ·rename_i z by_ zero ax dI jd;split at aB
   ·rename_i jJ;obtain⟨h9,vC,apk,dy⟩:=jJ;obtain⟨i,zv,qT,lP,jR,_⟩:=YQ (P:=P) (w:=w) (R:=R) (h:=h) (μ:=μ) jd;have q7:i.size=z:=by simpa [cu,qT] using ax
    have l8:i.bytes=by_:=by simpa [kv,qT] using dI
    have An:IntKind.i64.wrap n=n:=by
     simp[IntKind.wrap,IntKind.bits,IntKind.signed]; omega
    have aC:(n.toNat:Int)=n:=by omega
    have jO:¬ (n<0) :=by omega
    have aoI:¬ (2 ^ 48<n*(by_:Int)) :=by
     have ad:((n.toNat*by_:Nat) :Int)=n*by_:=by rw[Int.natCast_mul,aC]
     have ae:((n.toNat*by_:Nat) :Int)<=((140737488355328:Nat) :Int) :=Int.ofNat_le.2 dy;rw[ad] at ae;omega
    have cJ:ls w R h μ (dx zero n.toNat) (Builtin.zeroCells zv.cells n.toNat) :=by
     obtain⟨v,ap,ay⟩:=wZ (P:=P) (w:=w) (R:=R) (h:=h) (μ:=μ) jd;have afG:v=zv:=by
      have:=ap w;simp[zeroValue,typeInfo,qT,lP] at this;exact this.symm
     subst afG;have Lp:=H3 ay n.toNat
     have G9:(Builtin.zeroCells v.cells n.toNat)=(Array.range (n.toNat*zero.length)).map (v.cells[· % v.cells.size]!) :=by
      unfold Builtin.zeroCells;rw[ay.1]
     rw[G9];exact Lp
    have q5:(dx zero n.toNat).length=n.toNat*z:=by rw[yB,h9]
    have vv:∀ w2:World,(Go.asInt (.int rj n)).run P w2=.ok n w2:=fun w2=>rfl
    have vp:¬ (281474976710656<n*(by_:Int)) :=by omega
    have ya:∀ w2:World,(zeroValue e).run P w2=.ok zv w2:=fun w2=>by simp[zeroValue,typeInfo,qT,lP]
    have Uq:n.toNat*z=0->Builtin.zeroCells zv.cells n.toNat=#[] :=fun aI=>by
     apply avt;unfold Builtin.zeroCells;simp[jR,h9,aI]
    refine OV rel ax dI aB ak q5 (vs:=(Builtin.zeroCells zv.cells n.toNat).toList) ⟨by simpa using cJ.1,fun j c ai=>by
     obtain⟨v,a2,bd,b4⟩:=cJ.2 j c ai;exact⟨v,by rw[auk]; exact a2,bd,b4⟩⟩ (fun base sLen g5 w' eh b3=>?_) (fun mc asY gF Ur base sLen g5 fM au aw ay af=>?_)
    ·by_cases aI:n.toNat*z=0
     ·rw[Uq aI] at b3;cases base with
      | none=>
       subst b3;simp[Builtin.append_,vv,cr kG,cr aL,fD ax,An,jO,typeInfo,qT,l8,eh,vp,aI]
      | some a=>
       simp only at b3;simp[Builtin.append_,vv,cr kG,cr aL,fD ax,An,jO,typeInfo,qT,l8,eh,vp,aI,b3]
     ·cases base with
      | none=>
       subst b3;simp[Builtin.append_,vv,cr kG,cr aL,fD ax,An,jO,typeInfo,qT,l8,eh,vp,aI,ya]
      | some a=>
       simp only at b3;simp[Builtin.append_,vv,cr kG,cr aL,fD ax,An,jO,typeInfo,qT,l8,eh,vp,aI,ya,b3]
    ·rw[qT] at gF;cases gF;rw[lP] at Ur;cases Ur;have KG:¬ (281474976710656<Builtin.nextslicecap (sLen+n.toNat) g5*i.bytes) :=by
      have:=growslice_fits (need:=sLen+n.toNat) (old:=g5) (bytes:=i.bytes) aw ay;omega
     have TP:¬ (sLen+n.toNat<=g5) :=by omega
     have xX:¬ ((9223372036854775807:Int)<((sLen+n.toNat:Nat) :Int)) :=by
      have ad:(sLen+n.toNat)*1<=(sLen+n.toNat)*i.bytes:=Nat.mul_le_mul_left _ af;unfold ct at ay;omega
     have TL:¬ ((9223372036854775807:Int)<(sLen:Int)+max n 0) :=by omega
     rw[q7] at au;rw[l8] at KG;by_cases aI:n.toNat*z=0
     ·have xU:(fM++(Builtin.zeroCells zv.cells n.toNat).toList).toArray=fM.toArray:=by rw[Uq aI]; simp
      rw[xU];simp[Builtin.append_,vv,cr kG,cr aL,fD ax,An,jO,typeInfo,qT,l8,TP,vp,xX,TL,KG,aI,ya,au,Question.forced,newRow,grownCap]
     ·have xU:(fM++(Builtin.zeroCells zv.cells n.toNat).toList).toArray=fM.toArray++Builtin.zeroCells zv.cells n.toNat:=by simp
      rw[xU];simp[Builtin.append_,vv,cr kG,cr aL,fD ax,An,jO,typeInfo,qT,l8,TP,vp,xX,TL,KG,aI,ya,au,Question.forced,newRow,grownCap]
   ·cases aB
  ·cases aB
 ·cases aB
end

section
variable {P:Program} {w:World} {R:Nat->Prop} {B:Nat} {h:aM} {μ:cg}
theorem ZN {op:BinOp} {t:TypeId} {k k' : IntKind} {a b:Int} {c:U} (ah:cm op k a k' b=some c) :
  ∃ v,(binOp op t (.int k a) (.int k' b)).run P w=.ok v w/\aN w R h μ c v:=by
 cases op
 case shl=>
  simp only[cm] at ah;split at ah
  ·cases ah
  ·rename_i af;simp only[Option.some.injEq] at ah; subst ah;exact⟨_,by simp[binOp,Op.shift,af],.int _ _⟩
 case shr=>
  simp only[cm] at ah;split at ah
  ·cases ah
  ·rename_i af;simp only[Option.some.injEq] at ah; subst ah;exact⟨_,by simp[binOp,Op.shift,af],.int _ _⟩
 case quo=>
  simp only[cm] at ah;split at ah
  ·rename_i af;obtain⟨rfl,af⟩:=af;simp only[Option.some.injEq] at ah; subst ah;exact⟨_,by simp[binOp,Op.intDiv,af],.int _ _⟩
  ·cases ah
 case rem=>
  simp only[cm] at ah;split at ah
  ·rename_i af;obtain⟨rfl,af⟩:=af;simp only[Option.some.injEq] at ah; subst ah;exact⟨_,by simp[binOp,Op.intDiv,af],.int _ _⟩
  ·cases ah
 all_goals
  simp only[cm] at ah;split at ah
  ·rename_i ar;subst ar;simp only[Option.some.injEq] at ah; subst ah
   first
    | (refine⟨_,?_,.int _ _⟩; unfold binOp; simp only[ne_eq,not_true_eq_false,if_false]; rfl)
    | (refine⟨_,?_,.bool _⟩; unfold binOp; simp only[ne_eq,not_true_eq_false,if_false]; rfl)
  ·cases ah
theorem toList_eq (s:ByteArray) :s.toList=s.data.toList:=by
 rw[ByteArray.toList_eq]
theorem ZO {op:BinOp} {t:TypeId} {a b:ByteArray} {c:U} (ah:uY op a.data.toList b.data.toList=some c) :
  ∃ v,(binOp op t (.string a) (.string b)).run P w=.ok v w/\aN w R h μ c v:=by
 cases op<;>simp only[uY] at ah<;>try (cases ah; done)
 case add=>
  split at ah
  ·rename_i dY;simp only[Option.some.injEq] at ah; subst ah;have ad:a.data.toList.length=a.size:=by simp
   have ae:b.data.toList.length=b.size:=by simp
   rw[ad,ae] at dY;have C3:¬ ((9223372036854775807:Int)<(a.size:Int)+(b.size:Int)) :=by omega
   have al:(a++b).data.toList=a.data.toList++b.data.toList:=by simp
   refine⟨.string (a++b),by simp[binOp,Op.stringOp,C3],?_⟩;rw[<-al];exact .str _
  ·cases ah
 all_goals
  simp only[Option.some.injEq] at ah; subst ah;exact⟨_,by simp[binOp,Op.stringOp,toList_eq],.bool _⟩
theorem abA {d:Nat} {t:TypeId} {a b:Bool} (aL:P.underlying t=some .bool) :(Op.equalIn (d+1) t (.bool a) (.bool b)).run P w=.ok (a == b) w:=by
 simp[Op.equalIn,cr aL]
theorem abB {d:Nat} {t:TypeId} {hf k:IntKind} {a b:Int} (aL:P.underlying t=some (.int hf)) :(Op.equalIn (d+1) t (.int k a) (.int k b)).run P w=.ok (a == b) w:=by
 simp[Op.equalIn,cr aL]
theorem abC {d:Nat} {t:TypeId} {a b:ByteArray} (aL:P.underlying t=some .string) :(Op.equalIn (d+1) t (.string a) (.string b)).run P w=.ok (a.data.toList == b.data.toList) w:=by
 simp[Op.equalIn,cr aL,toList_eq,beq_toListBytes]
theorem JO {d:Nat} {t e:TypeId} {x y l c:Nat} {b:Option Addr} (aL:P.underlying t=some (.slice e)) :(Op.equalIn (d+1) t (.slice none x y) (.slice b l c)).run P w=.ok b.isNone w:=by
 simp[Op.equalIn,cr aL]
theorem RG {d:Nat} {t e:TypeId} {x y l c:Nat} {a:Addr} (aL:P.underlying t=some (.slice e)) :(Op.equalIn (d+1) t (.slice (some a) l c) (.slice none x y)).run P w=.ok false w:=by
 simp[Op.equalIn,cr aL]
theorem JL {d:Nat} {xs bQ:List U} {rJ rK:Array Value}
  (aS:∀ (t:TypeId) (x y:U) (b:Bool) (bF gb:Value),eC P d t x y=some b->aN w R h μ x bF->aN w R h μ y gb->(Op.equalIn d t bF gb).run P w=.ok b w)
  (sl:ls w R h μ xs rJ) (sm:ls w R h μ bQ rK) :∀ (l:List Field) (b:Bool),eC.eqFields P (eC P d) xs bQ l=some b->(Op.eqFields d rJ rK l).run P w=.ok b w
 | [],b,af=>by simp only[eC.eqFields,Option.some.injEq] at af; subst af; simp[Op.eqFields]
 | f::l,b,af=>by
  unfold eC.eqFields at af;unfold Op.eqFields;by_cases aE:f.name= "_"
  ·rw[if_pos aE] at af;simp[aE,JL aS sl sm l b af]
  ·rw[if_neg aE] at af;split at af
   ·rename_i a c aB ah;obtain⟨iw,ad,ae⟩:=wj (P:=P) aB sl;obtain⟨ec,aj,aF⟩:=wj (P:=P) ah sm;split at af
    ·rename_i heq;have:=aS f.type a c true iw ec heq ae aF;simp[aE,ad,aj,this,JL aS sl sm l b af]
    ·rename_i heq;have:=aS f.type a c false iw ec heq ae aF;simp only[Option.some.injEq] at af; subst af;simp[aE,ad,aj,this]
    ·cases af
   ·cases af
theorem RD {d z:Nat} {e:TypeId} {xs bQ:List U} {rJ rK:Array Value}
  (aS:∀ (t:TypeId) (x y:U) (b:Bool) (bF gb:Value),eC P d t x y=some b->aN w R h μ x bF->aN w R h μ y gb->(Op.equalIn d t bF gb).run P w=.ok b w)
  (sl:ls w R h μ xs rJ) (sm:ls w R h μ bQ rK) (f:Nat->Option Bool × Unit->Sem (ForInStep (Option Bool × Unit)))
  (aE:∀ (i:Nat) (iw ec:Value) (b:Bool) (r:Option Bool × Unit),(part e rJ (i*z)).run P w=.ok iw w->(part e rK (i*z)).run P w=.ok ec w->(Op.equalIn d e iw ec).run P w=.ok b w->
   (f i r).run P w=.ok (if b then .yield (none,()) else .done (some false,())) w) :
  ∀ (n i:Nat) (b:Bool),eC.r1 P (eC P d) e z xs bQ n i=some b->(forIn (List.range' i n) (none,()) f).run P w=.ok (if b then (none,()) else (some false,())) w
 | 0,i,b,af=>by
  simp only[eC.r1,Option.some.injEq] at af; subst af;simp
 | n+1,i,b,af=>by
  unfold eC.r1 at af;split at af
  ·rename_i a c aB ah;obtain⟨iw,ad,ae⟩:=wj (P:=P) aB sl;obtain⟨ec,aj,aF⟩:=wj (P:=P) ah sm;rw[List.range'_succ,List.forIn_cons];split at af
   ·rename_i heq;have bj:=aS e a c true iw ec heq ae aF;have aR:=aE i iw ec true (none,()) (ad w) (aj w) bj;simp only[Sem.run_bind,aR,if_true,Result.andThen_ok];exact RD aS sl sm f aE n (i+1) b af
   ·rename_i heq;have bj:=aS e a c false iw ec heq ae aF;have aR:=aE i iw ec false (none,()) (ad w) (aj w) bj;simp only[Option.some.injEq] at af; subst af;simp[aR]
   ·cases af
  ·cases af
theorem run_equalIn_array {d n z:Nat} {t e:TypeId} {rJ rK:Array Value} (aL:P.underlying t=some (.array n e)) (ax:cu P e=some z) {b:Bool}
  (ar:∀ f:Nat->Option Bool × Unit->Sem (ForInStep (Option Bool × Unit)),
   (∀ (i:Nat) (iw ec:Value) (b:Bool) (r:Option Bool × Unit),(part e rJ (i*z)).run P w=.ok iw w->(part e rK (i*z)).run P w=.ok ec w->(Op.equalIn d e iw ec).run P w=.ok b w->(f i r).run P w=.ok (if b then .yield (none,()) else .done (some false,())) w)->
   (forIn (List.range' 0 n) (none,()) f).run P w=.ok (if b then (none,()) else (some false,())) w) :
  (Op.equalIn (d+1) t (.agg rJ) (.agg rK)).run P w=.ok b w:=by
 simp only[Op.equalIn,Sem.run_bind,cr aL,Result.andThen_ok,fD ax];rw[Std.Legacy.Range.forIn_eq_forIn_range'];have ay:List.range' ([:n] :Std.Legacy.Range).start ([:n] :Std.Legacy.Range).size ([:n] :Std.Legacy.Range).step=List.range' 0 n:=by simp[Std.Legacy.Range.size]
 rw[ay,ar]
 ·cases b<;>simp
 ·intro i iw ec b r ad ae aj;cases b<;>simp[ad,ae,aj]
theorem JM:∀ (d:Nat) (t:TypeId) (x y:U) (b:Bool) (bF gb:Value),eC P d t x y=some b->aN w R h μ x bF->aN w R h μ y gb->
  (Op.equalIn d t bF gb).run P w=.ok b w:=by
 intro d
 induction d with
 | zero=>intro t x y b bF gb am; simp[eC] at am
 | succ d aS=>
  intro t x y b bF gb am ag aJ;unfold eC at am;split at am
  ·rename_i a bc aL;simp only[Option.some.injEq] at am; subst am;cases ag; cases aJ;exact abA aL
  ·rename_i hf k a k' bc aL;split at am
   ·rename_i ar; subst ar;simp only[Option.some.injEq] at am; subst am;cases ag; cases aJ;exact abB aL
   ·cases am
  ·rename_i a bc aL;simp only[Option.some.injEq] at am; subst am;cases ag; cases aJ;exact abC aL
  ·rename_i fs xs bQ aL;split at am
   ·cases am
   ·rename_i b3;obtain⟨rJ,rfl,sl⟩:=uT ag;obtain⟨rK,rfl,sm⟩:=uT aJ;have afw:P.stoodInHeld t=false:=by simpa using b3
    have tF:P.fieldsOf t=fs:=by simp[Program.fieldsOf,aL]
    rw[run_equalIn_struct w d t rJ rK (by rw[tF]; exact aL) afw,tF];exact JL aS sl sm _ _ am
  ·rename_i n e xs bQ aL;cases ax:cu P e with
   | none=>rw[ax] at am; cases am
   | some z=>
    rw[ax] at am;simp only at am;obtain⟨rJ,rfl,sl⟩:=uT ag;obtain⟨rK,rfl,sm⟩:=uT aJ;exact run_equalIn_array aL ax (fun f aE=>RD aS sl sm f aE n 0 b am)
  ·rename_i e aL;simp only[Option.some.injEq] at am; subst am;cases ag; cases aJ;exact JO aL
  ·rename_i e z bc off len cap sz aL;simp only[Option.some.injEq] at am; subst am;cases ag; cases aJ<;>exact JO aL
  ·rename_i e z es aL;simp only[Option.some.injEq] at am; subst am;cases ag; cases aJ<;>exact JO aL
  ·rename_i e z bc off len cap sz aL;simp only[Option.some.injEq] at am; subst am;cases aJ; cases ag<;>exact RG aL
  ·rename_i e z es aL;simp only[Option.some.injEq] at am; subst am;cases aJ; cases ag<;>exact RG aL
  ·cases am
end

end Go.bY
